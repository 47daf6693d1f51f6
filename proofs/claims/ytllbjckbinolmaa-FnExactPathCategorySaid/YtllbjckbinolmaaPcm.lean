/-
  PathCategory: the composite of two routes, as the program looks for it.
-/
import Derived.Test.YtllbjckbinolmaaPcl
import Derived.Ground.SlgfProg
namespace Go.Proofs.Ytllbjckbinolmaa
open Go.RowKit

shelf_lay_g SlLaysH0.n6 Slgf 6 at Try 24 as idxRt
section
variable {P : Program} {w : World}
/-- append(out, list...) as one step of a region that draws. -/
theorem stepAppL {B : Nat} {v u : Value} {xs ys : List Int} {e t : TypeId} (hown : Own e w B v xs) (hyl : IS w u ys) (hl : xs.length + ys.length ≤ 4294967296) (hB : B ≤ w.heap.size)
    (ht : P.underlying t = some (.slice e)) (hinfo : (P.info? e).map (fun i => (i.zero, i.size, i.bytes)) = some (some (.int .i64 0), 1, 8))
    {ops : Array Oper} {o : Oper} {a : Act} {K : Act → World → Prop} {Q : Exit → Act → World → Prop} {F : Prop} (hgd : o.guard = none) (s y : Operand)
    (ho : o.op = .call { callee := .builtin .append, args := #[s, y], argTypes := #[t, t] })
    (hs : a.eval s = v) (hy : a.eval y = u)
    (h : ∀ v' w', Own e w' B v' (xs ++ ys) → Grew w w' v v' → K (a.put o.dst v') w') : if Region.wanted o (yielded ops a.tmps) = true then Oper.wp P o a w K Q else F := by
  have hw : Region.wanted o (yielded ops a.tmps) = true := by simp [Region.wanted, hgd]
  rw [if_pos hw]
  obtain ⟨v', w', hr, h2, h3⟩ := run_appL (P := P) (w := w) (ty := o.type) hown hyl hl hB ht hinfo
  unfold Oper.wp execOp
  simp only [ho, resolve, invoke, builtin, Sem.run_bind, Sem.run_pure, Result.andThen_ok, List.map_toArray, List.map_cons, List.map_nil, hs, hy, hr]
  exact h v' w' h2 h3
end
theorem new_at (w : World) (o : Obj) : (w.alloc o).heap[w.heap.size]? = some o := by
  unfold World.alloc
  simp
theorem new_kept {W1 w9 w10 : World} {e : Nat} {v v' : Value} {T : TypeId} (h : W1.heap[e]? = some (.cells #[.slice none 0 0] T (0, 0))) (b9 : Below W1.heap.size W1 w9) (g10 : Grew w9 w10 v v') (hv : ∀ k, v.ownBlock = some k → W1.heap.size ≤ k) :
    w10.cell? ⟨e, 0, none⟩ = some (.slice none 0 0) ∧ w10.frozen? ⟨e, 0, none⟩ = false := by
  have hl : e < W1.heap.size := (Array.getElem?_eq_some_iff.1 h).1
  have h9 := (b9.block e hl).trans h
  have h10 := (g10.grown.block e (Nat.lt_of_lt_of_le hl b9.size) (fun q => by have := hv e q.symm; omega)).trans h9
  constructor
  · simp [World.cell?, h10]
  · simp [World.frozen?, h10]
theorem new_kept2 {w9 w10 : World} {v v' : Value} {T : TypeId} (g10 : Grew (w9.alloc (.cells #[.slice none 0 0] T)) w10 v v') (hv : ∀ k, v.ownBlock = some k → k < w9.heap.size) :
    w10.cell? ⟨w9.heap.size, 0, none⟩ = some (.slice none 0 0) ∧ w10.frozen? ⟨w9.heap.size, 0, none⟩ = false := by
  have h10 := (g10.grown.block w9.heap.size (by simp) (fun q => by have := hv _ q.symm; omega)).trans (new_at w9 _)
  constructor
  · simp [World.cell?, h10]
  · simp [World.frozen?, h10]
theorem World.cell?_setCell_here {w : World} {b i : Nat} {u : Value} (h : w.cell? ⟨b, i, none⟩ = some u) (v : Value) : (w.setCell ⟨b, i, none⟩ v).cell? ⟨b, i, none⟩ = some v := by
  have hb := World.block_lt_of_cell? _ _ h
  simp only [World.cell?, World.setCell, Array.getElem?_modify] at h ⊢
  cases hc : w.heap[b]? with
  | none => rw [hc] at h; cases h
  | some o =>
    rw [hc] at h
    cases o with
    | cells c t f =>
      have hi : i < c.size := (Array.getElem?_eq_some_iff.1 h).1
      simp [hi]
    | _ => cases h
/-- A slice that has grown, if at all, into a block from n on does not lie in block e. -/
theorem dj_new {w w' : World} {v v' : Value} {e : Nat} (hg : Grew w w' v v') (hv : ∀ k, v.ownBlock = some k → k ≠ e) (hn : e < w.heap.size) : Dj v' (blk e) := by
  rcases hg.blk with h | ⟨k, h, hk⟩
  · cases hq : v.ownBlock with
    | none => exact .inl (h.trans hq)
    | some k => exact .inr (by rw [h, hq, blk_own]; intro z; injection z with z; exact hv k hq z)
  · exact .inr (by rw [h, blk_own]; intro z; injection z with z; omega)
/-- What the region of the composite holds on to. -/
structure KB (W : World) (p g f h fb gb : Nat) (lv a b : Value) (w' : World) : Prop where
  bl : Below W.heap.size W w'
  c0 : w'.cell? ⟨p, 0, none⟩ = some lv
  c1 : w'.cell? ⟨fb, 0, none⟩ = some (.int .i64 (f : Int))
  c2 : w'.cell? ⟨gb, 0, none⟩ = some (.int .i64 (h : Int))
  c3 : w'.cell? ⟨g, f * 3 + 2, none⟩ = some a
  c4 : w'.cell? ⟨g, h * 3 + 2, none⟩ = some b
section
variable {W w' w'' : World} {p g f h fb gb : Nat} {lv a b : Value}
theorem KB.all (k : KB W p g f h fb gb lv a b w') : KB W p g f h fb gb lv a b w' ∧ w'.cell? ⟨p, 0, none⟩ = some lv ∧ w'.cell? ⟨fb, 0, none⟩ = some (.int .i64 (f : Int)) ∧ w'.cell? ⟨gb, 0, none⟩ = some (.int .i64 (h : Int)) ∧ w'.cell? ⟨g, f * 3 + 2, none⟩ = some a ∧ w'.cell? ⟨g, h * 3 + 2, none⟩ = some b := ⟨k, k.c0, k.c1, k.c2, k.c3, k.c4⟩
theorem KB.call (k : KB W p g f h fb gb lv a b w') (hb : Below w'.heap.size w' w'') : KB W p g f h fb gb lv a b w'' := ⟨bel_next k.bl hb, upc hb k.c0, upc hb k.c1, upc hb k.c2, upc hb k.c3, upc hb k.c4⟩
theorem KB.alloc (k : KB W p g f h fb gb lv a b w') (o : Obj) : KB W p g f h fb gb lv a b (w'.alloc o) := k.call (bel_alloc (Below.refl _ _) o)
theorem KB.drew (k : KB W p g f h fb gb lv a b w') : KB W p g f h fb gb lv a b w'.drew := k.call (Drawn.below (Drawn.one (Drawn.refl w')) _)
theorem KB.of (hb : Below W.heap.size W w'') (hW : KB W p g f h fb gb lv a b W) : KB W p g f h fb gb lv a b w'' := ⟨hb, upc hb hW.c0, upc hb hW.c1, upc hb hW.c2, upc hb hW.c3, upc hb hW.c4⟩
theorem KB.grew (k : KB W p g f h fb gb lv a b w') (hW : KB W p g f h fb gb lv a b W) {v v' : Value} (hg : Grew w' w'' v v') (hv : ∀ k, v.ownBlock = some k → W.heap.size ≤ k) : KB W p g f h fb gb lv a b w'' := KB.of (hg.below k.bl k.bl.size hv) hW
theorem KB.set (k : KB W p g f h fb gb lv a b w') (hW : KB W p g f h fb gb lv a b W) {e : Nat} (he : W.heap.size ≤ e) (u : Value) : KB W p g f h fb gb lv a b (w'.setCell ⟨e, 0, none⟩ u) := KB.of (k.bl.setCell he u) hW
end
theorem isAggR2 : ∀ w, (isAgg 45).run Try.prog w = .ok true w := isAggR
/-- The look for the composite, in a world where all lies ready. -/
theorem c_idx {W : World} {X : List RV} {g N c p f h fb gb eb B T : Nat} {a b ve : Value} (hO : ORt 45 B T W (.slice (some ⟨g, 0, none⟩) N c) X) (hX : X.length = N) (hN : N ≤ 40) (hf : f < N) (hh : h < N)
    (K : ∀ W', Below W.heap.size W W' → KB W p g f h fb gb (.slice (some ⟨g, 0, none⟩) N c) a b W') (he : W.cell? ⟨eb, 0, none⟩ = some ve) (hI : IS W ve ((rx X f).path ++ (rx X h).path)) :
    Calls Try.prog 24 #[.slice (some ⟨g, 0, none⟩) N c, .func (.func 25) #[] #[.pointer (some ⟨p, 0, none⟩), .pointer (some ⟨fb, 0, none⟩), .pointer (some ⟨gb, 0, none⟩), .pointer (some ⟨eb, 0, none⟩)]] W
      (Ret W (.int .i64 (Lib.idxBy (fun _ y => pI (X.map (·.1)) f h y) (List.range N) default))) := by
  have eg : ∀ args w, (callFunc 25 args).run Try.prog w = .ok (.enter 25 args) w := enters_of Try.func25 (by kernel_rfl) rfl
  have hrt : ∀ k, rt (X.map (·.1)) k = (X.getD k dRV).1 := fun k => by
    unfold rt
    simp only [List.getD_eq_getElem?_getD, List.getElem?_map]
    cases X[k]? <;> rfl
  have hag : ∀ W', Below W.heap.size W W' → ∀ k, IS W' (X.getD k dRV).2 (X.getD k dRV).1.path := fun W' hW k => by
    by_cases hk : k < X.length
    · rw [List.getD_eq_getElem?_getD, List.getElem?_eq_getElem hk]
      exact ((hO.ags _ (List.getElem_mem hk)).keptB hW).is
    · rw [List.getD_eq_getElem?_getD, List.getElem?_eq_none (by omega)]
      exact (OwnT.nil 2 0 0 W').is
  have hpb : PredBelow Try.prog 25 #[.pointer (some ⟨p, 0, none⟩), .pointer (some ⟨fb, 0, none⟩), .pointer (some ⟨gb, 0, none⟩), .pointer (some ⟨eb, 0, none⟩)] (fun x => .agg (enX X x).toArray) (fun y => pI (X.map (·.1)) f h y) W := fun W' k hW => by
    obtain ⟨⟨a0, -, -⟩, -, -, -, -⟩ := (hO.keptB hW).at (i := f) (by omega)
    obtain ⟨⟨-, b1, -⟩, -, -, -, -⟩ := (hO.keptB hW).at (i := h) (by omega)
    have hk := K W' hW
    have := c_clo2 (x := (X.getD k dRV).1) (u := (X.getD k dRV).2) (hag W' hW k) (hI.kept hW) hf hh hN hk.c0 hk.c1 hk.c2 (upc hW he) a0 b1
    refine Calls.mono this ?_
    rintro e w' ⟨rfl, hb⟩
    refine ⟨?_, bel_next hW hb⟩
    unfold pI
    simp only [hrt]
    rfl
  have hgl := (hO.row.lt g rfl).2
  have hcon := AnyQ.slices_IndexFunc idxRt 3 isAggR sizeOfR (enX X) (fun _ => rfl) (fun y => pI (X.map (·.1)) f h y) 25 _ eg g 0 N c (List.range N) W hpb (by simp) (by omega) hgl (fun j hj i v hi => by
    have hj' : j < N := by simpa using hj
    rw [getElem!_pos (List.range N) j hj, List.getElem_range] at hi
    obtain ⟨⟨c0, c1, c2⟩, -, -, -, -⟩ := hO.at (i := j) (by omega)
    rw [Nat.zero_add]
    match i, hi with
    | 0, hi => simp [enX, c3] at hi; rw [← hi]; exact c0
    | 1, hi => simp [enX, c3] at hi; rw [← hi]; exact c1
    | 2, hi => simp [enX, c3] at hi; rw [← hi]; exact c2
    | i + 3, hi => simp [enX, c3] at hi)
  have e : (List.range N).take N = List.range N := by rw [List.take_of_length_le (by simp)]
  rw [e] at hcon
  exact hcon
set_option maxRecDepth 1000000 in
set_option maxHeartbeats 3200000 in
theorem c_clo1 {w : World} {X : List RV} {g N c p f h B T : Nat} (hO : ORt 45 B T w (.slice (some ⟨g, 0, none⟩) N c) X) (cp : w.cell? ⟨p, 0, none⟩ = some (.slice (some ⟨g, 0, none⟩) N c)) (hX : X.length = N) (hN : N ≤ 40) (hf : f < N) (hh : h < N) (hl : ∀ x ∈ X, x.1.path.length ≤ 41) :
    Calls Try.prog 22 #[.int .i64 (f : Int), .int .i64 (h : Int), .pointer (some ⟨p, 0, none⟩)] w (Ret w (.int .i64 (Lib.idxBy (fun _ y => pI (X.map (·.1)) f h y) (List.range N) default))) := by
  obtain ⟨⟨a0, a1, a2⟩, -, oa, hgw, -⟩ := hO.at (i := f) (by omega)
  obtain ⟨⟨b0, b1, b2⟩, -, ob, -, -⟩ := hO.at (i := h) (by omega)
  have hpw := World.block_lt_of_cell? _ _ cp
  have hw0 := bel_next (bel_box w (.cells #[.int .i64 (f : Int)] 2)) (bel_box (w.alloc (.cells #[.int .i64 (f : Int)] 2)) (.cells #[.int .i64 (h : Int)] 2))
  have q1 : ((w.alloc (.cells #[.int .i64 (f : Int)] 2)).alloc (.cells #[.int .i64 (h : Int)] 2)).cell? ⟨w.heap.size, 0, none⟩ = some (.int .i64 (f : Int)) := by simp
  have q2 : ((w.alloc (.cells #[.int .i64 (f : Int)] 2)).alloc (.cells #[.int .i64 (h : Int)] 2)).cell? ⟨w.heap.size + 1, 0, none⟩ = some (.int .i64 (h : Int)) := by simp
  have i1 : (f : Int) < (N : Int) := by omega
  have i2 : (h : Int) < (N : Int) := by omega
  have i3 : (0 : Int) ≤ (f : Int) := by omega
  have i4 : (0 : Int) ≤ (h : Int) := by omega
  have HO := Lib.hid (hO.keptB hw0)
  have OA := Lib.hid (oa.keptB hw0)
  have OB := Lib.hid (ob.keptB hw0)
  replace cp := upc hw0 cp
  replace a0 := upc hw0 a0
  replace a2 := upc hw0 a2
  replace b1 := upc hw0 b1
  replace b2 := upc hw0 b2
  have HW0 := Lib.hid hw0
  clear hO oa ob a1 b0 hw0
  obtain ⟨ua, hua⟩ : ∃ u, u = (X.getD f dRV).2 := ⟨_, rfl⟩
  obtain ⟨ub, hub⟩ : ∃ u, u = (X.getD h dRV).2 := ⟨_, rfl⟩
  rw [← hua] at a2 OA
  rw [← hub] at b2 OB
  clear hua hub
  obtain ⟨av, cv, rfl⟩ := OA.out.shape
  obtain ⟨bv, dv, rfl⟩ := OB.out.shape
  go_enter Try.func22, Try.ntmps22
  go_wp2_with fail
  generalize hWW : (w.alloc (.cells #[.int .i64 (f : Int)] 2)).alloc (.cells #[.int .i64 (h : Int)] 2) = W at *
  have hzW : W.heap.size = w.heap.size + 1 + 1 := by rw [← hWW]; simp
  have HZW := Lib.hid hzW
  clear hWW hzW
  have hcl := fun W' (hW : Below W.heap.size W W') => c_clone (OA.out.keptB hW).is
  have HCL := Lib.hid hcl
  have K0 : KB W p g f h w.heap.size (w.heap.size + 1) (.slice (some ⟨g, 0, none⟩) N c) (.slice av (rx X f).path.length cv) (.slice bv (rx X h).path.length dv) W := ⟨Below.refl _ _, cp, q1, q2, a2, b2⟩
  have K1 := K0.drew.all
  have hla : (rx X f).path.length ≤ 41 := by rw [rx_lt (by omega)]; exact hl _ (List.getElem_mem _)
  have hlb : (rx X h).path.length ≤ 41 := by rw [rx_lt (by omega)]; exact hl _ (List.getElem_mem _)
  clear hcl cp q1 q2 a2 b2
  go_region_held3 (fun w' => KB W p g f h w.heap.size (w.heap.size + 1) (.slice (some ⟨g, 0, none⟩) N c) (.slice av (rx X f).path.length cv) (.slice bv (rx X h).path.length dv) w' ∧ w'.cell? ⟨p, 0, none⟩ = some (.slice (some ⟨g, 0, none⟩) N c) ∧ w'.cell? ⟨w.heap.size, 0, none⟩ = some (.int .i64 (f : Int)) ∧ w'.cell? ⟨w.heap.size + 1, 0, none⟩ = some (.int .i64 (h : Int)) ∧ w'.cell? ⟨g, f * 3 + 2, none⟩ = some (.slice av (rx X f).path.length cv) ∧ w'.cell? ⟨g, h * 3 + 2, none⟩ = some (.slice bv (rx X h).path.length dv))
    (first | with_reducible exact K1 | with_reducible exact ((K0.alloc _).drew).all | (with_reducible refine (KB.call ?_ b9).all; with_reducible exact And.left (by assumption)) | (with_reducible refine (KB.alloc ?_ _).all; with_reducible exact And.left (by assumption)) | (with_reducible refine (KB.grew ?_ K0 g10 hv10).all; with_reducible exact And.left (by assumption)) | with_reducible exact (hk10.alloc _).all | (with_reducible refine (hk10.set K0 ?_ _).all; first | exact Nat.le_refl _ | (have := b9.size; simp at this ⊢; omega)))
    (first | (go_at_call 23; (with_reducible refine (HCL.out _ (KB.bl (And.left (by assumption)))).mono ?_); rintro e w9 ⟨u9, rfl, o9, b9⟩; obtain ⟨au9, cu9, rfl⟩ := o9.own.shape) | (have b9' : Below W.drew.heap.size W.drew w9 := b9; refine stepAppL (B := W.heap.size) (v := .slice au9 (rx X f).path.length cu9) (xs := (rx X f).path) (ys := (rx X h).path) ?_ ((OB.out.keptB (KB.bl (And.left (by assumption)))).is) (by omega) ?_ Try.underlying22 infoInt64 ?_ (.tmp 12) (.tmp 17) ?_ ?_ ?_ ?_; (· exact (o9.mono (by simp) (Nat.le_refl _)).own); (· exact (KB.bl (And.left (by assumption))).size); (· rfl); (· rfl); (· rfl); (· rfl); intro v10 w10 o10 g10; have hv10 := fun k (hk : (Value.slice au9 (rx X f).path.length cu9).ownBlock = some k) => Nat.le_trans (show W.heap.size ≤ _ by simp) (o9.lt k hk).1; have hk10 := KB.grew (And.left (by assumption)) K0 g10 hv10; obtain ⟨av10, cv10, rfl⟩ := o10.shape) | (have b9' : Below W.drew.heap.size W.drew w9 := b9; refine stepAppL (B := W.heap.size) (v := .slice au9 (rx X f).path.length cu9) (xs := (rx X f).path) (ys := (rx X h).path) ?_ ((OB.out.keptB (KB.bl (And.left (by assumption)))).is) (by omega) ?_ Try.underlying22 infoInt64 ?_ (.tmp 12) (.tmp 17) ?_ ?_ ?_ ?_; (· exact ((o9.mono (by simp) (Nat.le_refl _)).own.kept (bel_box _ _))); (· exact (KB.bl (And.left (by assumption))).size); (· rfl); (· rfl); (· rfl); (· rfl); intro v10 w10 o10 g10; have hv10 := fun k (hk : (Value.slice au9 (rx X f).path.length cu9).ownBlock = some k) => Nat.le_trans (show W.heap.size ≤ _ by simp) (o9.lt k hk).1; have hk10 := KB.grew (And.left (by assumption)) K0 g10 hv10; obtain ⟨e10, f10⟩ := new_kept2 g10 (fun k hk => (o9.lt k hk).2); obtain ⟨av10, cv10, rfl⟩ := o10.shape) | (have b9' : Below (W.alloc (.cells #[.slice none 0 0] 22)).drew.heap.size (W.alloc (.cells #[.slice none 0 0] 22)).drew w9 := b9; refine stepAppL (B := W.heap.size) (v := .slice au9 (rx X f).path.length cu9) (xs := (rx X f).path) (ys := (rx X h).path) ?_ ((OB.out.keptB (KB.bl (And.left (by assumption)))).is) (by omega) ?_ Try.underlying22 infoInt64 ?_ (.tmp 12) (.tmp 17) ?_ ?_ ?_ ?_; (· exact (o9.mono (by simp) (Nat.le_refl _)).own); (· exact (KB.bl (And.left (by assumption))).size); (· rfl); (· rfl); (· rfl); (· rfl); intro v10 w10 o10 g10; have hv10 := fun k (hk : (Value.slice au9 (rx X f).path.length cu9).ownBlock = some k) => Nat.le_trans (show W.heap.size ≤ _ by simp) (o9.lt k hk).1; have hk10 := KB.grew (And.left (by assumption)) K0 g10 hv10; obtain ⟨e10, f10⟩ := new_kept (e := W.heap.size) (T := 22) (W1 := (W.alloc (.cells #[.slice none 0 0] 22)).drew) (show (W.alloc (.cells #[.slice none 0 0] 22)).heap[W.heap.size]? = _ from new_at W _) b9' g10 (fun k hk => (o9.lt k hk).1); obtain ⟨av10, cv10, rfl⟩ := o10.shape))
  · have KE := ‹KB _ _ _ _ _ _ _ _ _ _ (w10.alloc (.cells #[(.slice av10 ((rx X f).path.length + (rx X h).path.length) cv10)] 22)) ∧ _›.1
    have ce : (w10.alloc (.cells #[(.slice av10 ((rx X f).path.length + (rx X h).path.length) cv10)] 22)).cell? ⟨w10.heap.size, 0, none⟩ = some (.slice av10 ((rx X f).path.length + (rx X h).path.length) cv10) := by simp
    have hI : IS (w10.alloc (.cells #[(.slice av10 ((rx X f).path.length + (rx X h).path.length) cv10)] 22)) (.slice av10 ((rx X f).path.length + (rx X h).path.length) cv10) ((rx X f).path ++ (rx X h).path) := by have := o10.kept (bel_box w10 (.cells #[(.slice av10 ((rx X f).path.length + (rx X h).path.length) cv10)] 22)); have h0 := this.is; rwa [List.length_append] at h0
    have HO2 := HO.out.keptB KE.bl
    have hb2 := Lib.hid (HW0.out.trans (KE.bl.mono (by rw [HZW.out]; omega)))
    have hKK := fun W' (hW : Below (w10.alloc (.cells #[(.slice av10 ((rx X f).path.length + (rx X h).path.length) cv10)] 22)).heap.size (w10.alloc (.cells #[(.slice av10 ((rx X f).path.length + (rx X h).path.length) cv10)] 22)) W') => KB.of (W := (w10.alloc (.cells #[(.slice av10 ((rx X f).path.length + (rx X h).path.length) cv10)] 22))) hW ⟨Below.refl _ _, KE.c0, KE.c1, KE.c2, KE.c3, KE.c4⟩
    have hcon := c_idx HO2 hX hN hf hh hKK ce hI
    have cp := KE.c0
    generalize (w10.alloc (.cells #[(.slice av10 ((rx X f).path.length + (rx X h).path.length) cv10)] 22)) = W2 at *
    generalize w10.heap.size = eb at *
    have HC := Lib.hid hcon
    clear hcon hKK HO2 hI ce o10 g10 o9 b9 b9' KE hk10 hv10 K0 K1
    try clear e10 f10
    go_wp2_with (go_at_call 24; refine HC.out.mono ?_; rintro e w' ⟨rfl, hb⟩)
    go_ret
    exact ⟨rfl, bel_next hb2.out hb⟩
  · have KE := ‹KB _ _ _ _ _ _ _ _ _ _ (w10.setCell ⟨w9.heap.size, 0, none⟩ (.slice av10 ((rx X f).path.length + (rx X h).path.length) cv10)) ∧ _›.1
    have ce : (w10.setCell ⟨w9.heap.size, 0, none⟩ (.slice av10 ((rx X f).path.length + (rx X h).path.length) cv10)).cell? ⟨w9.heap.size, 0, none⟩ = some (.slice av10 ((rx X f).path.length + (rx X h).path.length) cv10) := World.cell?_setCell_here e10 _
    have hI : IS (w10.setCell ⟨w9.heap.size, 0, none⟩ (.slice av10 ((rx X f).path.length + (rx X h).path.length) cv10)) (.slice av10 ((rx X f).path.length + (rx X h).path.length) cv10) ((rx X f).path ++ (rx X h).path) := by have h0 := ((o10.keptG (grew_set (k := w9.heap.size) (i := 0) (.slice av10 ((rx X f).path.length + (rx X h).path.length) cv10)) (dj_new g10 (fun k hk => by have := (o9.lt k hk).2; omega) (by simp))).is); rwa [List.length_append] at h0
    have HO2 := HO.out.keptB KE.bl
    have hb2 := Lib.hid (HW0.out.trans (KE.bl.mono (by rw [HZW.out]; omega)))
    have hKK := fun W' (hW : Below (w10.setCell ⟨w9.heap.size, 0, none⟩ (.slice av10 ((rx X f).path.length + (rx X h).path.length) cv10)).heap.size (w10.setCell ⟨w9.heap.size, 0, none⟩ (.slice av10 ((rx X f).path.length + (rx X h).path.length) cv10)) W') => KB.of (W := (w10.setCell ⟨w9.heap.size, 0, none⟩ (.slice av10 ((rx X f).path.length + (rx X h).path.length) cv10))) hW ⟨Below.refl _ _, KE.c0, KE.c1, KE.c2, KE.c3, KE.c4⟩
    have hcon := c_idx HO2 hX hN hf hh hKK ce hI
    have cp := KE.c0
    generalize (w10.setCell ⟨w9.heap.size, 0, none⟩ (.slice av10 ((rx X f).path.length + (rx X h).path.length) cv10)) = W2 at *
    generalize w9.heap.size = eb at *
    have HC := Lib.hid hcon
    clear hcon hKK HO2 hI ce o10 g10 o9 b9 b9' KE hk10 hv10 K0 K1
    try clear e10 f10
    go_wp2_with (go_at_call 24; refine HC.out.mono ?_; rintro e w' ⟨rfl, hb⟩)
    go_ret
    exact ⟨rfl, bel_next hb2.out hb⟩
  · have KE := ‹KB _ _ _ _ _ _ _ _ _ _ (w10.setCell ⟨W.heap.size, 0, none⟩ (.slice av10 ((rx X f).path.length + (rx X h).path.length) cv10)) ∧ _›.1
    have ce : (w10.setCell ⟨W.heap.size, 0, none⟩ (.slice av10 ((rx X f).path.length + (rx X h).path.length) cv10)).cell? ⟨W.heap.size, 0, none⟩ = some (.slice av10 ((rx X f).path.length + (rx X h).path.length) cv10) := World.cell?_setCell_here e10 _
    have hI : IS (w10.setCell ⟨W.heap.size, 0, none⟩ (.slice av10 ((rx X f).path.length + (rx X h).path.length) cv10)) (.slice av10 ((rx X f).path.length + (rx X h).path.length) cv10) ((rx X f).path ++ (rx X h).path) := by have h0 := ((o10.keptG (grew_set (k := W.heap.size) (i := 0) (.slice av10 ((rx X f).path.length + (rx X h).path.length) cv10)) (dj_new g10 (fun k hk => by have := (o9.lt k hk).1; simp at this; omega) (by have := b9.size; simp at this; omega))).is); rwa [List.length_append] at h0
    have HO2 := HO.out.keptB KE.bl
    have hb2 := Lib.hid (HW0.out.trans (KE.bl.mono (by rw [HZW.out]; omega)))
    have hKK := fun W' (hW : Below (w10.setCell ⟨W.heap.size, 0, none⟩ (.slice av10 ((rx X f).path.length + (rx X h).path.length) cv10)).heap.size (w10.setCell ⟨W.heap.size, 0, none⟩ (.slice av10 ((rx X f).path.length + (rx X h).path.length) cv10)) W') => KB.of (W := (w10.setCell ⟨W.heap.size, 0, none⟩ (.slice av10 ((rx X f).path.length + (rx X h).path.length) cv10))) hW ⟨Below.refl _ _, KE.c0, KE.c1, KE.c2, KE.c3, KE.c4⟩
    have hcon := c_idx HO2 hX hN hf hh hKK ce hI
    have cp := KE.c0
    generalize (w10.setCell ⟨W.heap.size, 0, none⟩ (.slice av10 ((rx X f).path.length + (rx X h).path.length) cv10)) = W2 at *
    generalize W.heap.size = eb at *
    have HC := Lib.hid hcon
    clear hcon hKK HO2 hI ce o10 g10 o9 b9 b9' KE hk10 hv10 K0 K1
    try clear e10 f10
    go_wp2_with (go_at_call 24; refine HC.out.mono ?_; rintro e w' ⟨rfl, hb⟩)
    go_ret
    exact ⟨rfl, bel_next hb2.out hb⟩
end Go.Proofs.Ytllbjckbinolmaa
