/-
  PathCategory: lists of routes of the call's own.
-/
import Derived.Test.YtllbjckbinolmaaRcm
namespace Go.Proofs.Ytllbjckbinolmaa
open Go.RowKit

abbrev RV := Rt × Value
/-- The cells of a route. -/
def c3 (x : RV) : List Value := [.int .i64 x.1.a, .int .i64 x.1.b, x.2]
def cX (X : List RV) : List Value := X.flatMap c3
theorem cX_length : ∀ X : List RV, (cX X).length = X.length * 3
  | [] => rfl
  | x :: X => by
    have := cX_length X
    simp only [cX, c3, List.flatMap_cons, List.length_append, List.length_cons, List.length_nil] at *
    omega
theorem cX_append (X Y : List RV) : cX (X ++ Y) = cX X ++ cX Y := by simp [cX]
theorem cX_get : ∀ (X : List RV) {i : Nat} (h : i < X.length), (cX X)[i * 3]? = some (.int .i64 X[i].1.a) ∧ (cX X)[i * 3 + 1]? = some (.int .i64 X[i].1.b) ∧ (cX X)[i * 3 + 2]? = some X[i].2
  | [], i, h => by simp at h
  | x :: X, 0, _ => by simp [cX, c3]
  | x :: X, i + 1, h => by
    have := cX_get X (i := i) (by simpa using h)
    have e2 : cX (x :: X) = .int .i64 x.1.a :: .int .i64 x.1.b :: x.2 :: cX X := rfl
    rw [e2, show (i + 1) * 3 = i * 3 + 3 by omega]
    exact this
/-- v is a slice of routes of the call's own, in blocks from B on, below T. -/
structure ORt (E : TypeId) (B T : Nat) (w : World) (v : Value) (X : List RV) : Prop where
  row : w.ownsRow B E 3 v X.length (cX X)
  top : ∀ k, v.ownBlock = some k → k < T
  ags : ∀ x ∈ X, OwnT 2 B T w x.2 x.1.path
  wf : ∀ x ∈ X, I64 x.1.a ∧ I64 x.1.b
  nn : ∃ k, v.ownBlock = some k
theorem OwnT.apart {E : TypeId} {B T g t : Nat} {w w' : World} {u : Value} {xs : List Int} (h : OwnT E B T w u xs) (hw : Within g t w w') (hk : ∀ k, u.ownBlock = some k → k < g ∨ t ≤ k) : OwnT E B T w' u xs :=
  ⟨⟨ownsRow_within h.own.row hw hk, h.own.wf, h.own.len⟩, h.top⟩
section
variable {E : TypeId} {B T B' T' : Nat} {w w' : World} {v : Value} {X : List RV}
theorem ORt.mono (h : ORt E B T w v X) (hB : B' ≤ B) (hT : T ≤ T') : ORt E B' T' w v X := by
  refine ⟨⟨h.row.1, ?_⟩, fun k hk => Nat.lt_of_lt_of_le (h.top k hk) hT, fun x hx => (h.ags x hx).mono hB hT, h.wf, h.nn⟩
  rcases h.row.2 with hn | ⟨g, cap, cur, hv, hBg, rest⟩
  · exact .inl hn
  · exact .inr ⟨g, cap, cur, hv, by omega, rest⟩
theorem ORt.kept (h : ORt E B T w v X) (hb : Within B' T' w w') (hd : T ≤ B' ∨ T' ≤ B) : ORt E B T w' v X := by
  refine ⟨ownsRow_within h.row hb (fun k hk => ?_), h.top, fun x hx => (h.ags x hx).kept hb hd, h.wf, h.nn⟩
  have := h.top k hk
  have := (h.row.lt k hk).1
  omega
theorem ORt.keptB (h : ORt E B T w v X) (hb : Below w.heap.size w w') : ORt E B T w' v X := h.kept (below_within hb B) (.inr (Nat.le_refl _))
theorem ORt.drawn (h : ORt E B T w v X) (d : Drawn w w') : ORt E B T w' v X := h.keptB (d.below _)
theorem ORt.lt (h : ORt E B T w v X) : ∀ k, v.ownBlock = some k → B ≤ k ∧ k < T := fun k hk => ⟨(h.row.lt k hk).1, h.top k hk⟩
theorem ORt.empty {m : Nat} (hB : B ≤ w.heap.size) (hm : w.heap.size = m) : ORt E B (m + 1) (w.alloc (.cells #[] E)) (.slice (some ⟨m, 0, none⟩) 0 0) [] := by
  subst hm
  exact ⟨World.ownsRow_made w #[] 0 hB (by simp [maxLen]) (by simp), (fun k hk => by simp [Value.ownBlock] at hk; omega), (fun x hx => by cases hx), (fun x hx => by cases hx), ⟨_, rfl⟩⟩
theorem ORt.opened (h : ORt E B T w v X) : ∃ ao c, v = .slice ao X.length c := by
  rcases h.row.2 with ⟨rfl, hn⟩ | ⟨g, cap, cur, rfl, _⟩
  · exact ⟨none, 0, by rw [hn]⟩
  · exact ⟨_, cap, rfl⟩
theorem ORt.cells (h : ORt E B T w v X) : ∃ (g c : Nat), v = .slice (some ⟨g, 0, none⟩) X.length c ∧ B ≤ g ∧ g < T ∧ g < w.heap.size ∧
    ∀ i (hi : i < X.length), w.cell? ⟨g, i * 3, none⟩ = some (.int .i64 X[i].1.a) ∧ w.cell? ⟨g, i * 3 + 1, none⟩ = some (.int .i64 X[i].1.b) ∧ w.cell? ⟨g, i * 3 + 2, none⟩ = some X[i].2 := by
  rcases h.row.2 with ⟨rfl, hn⟩ | ⟨g, cap, cur, rfl, hB, hg, hn, hc, hs, ht⟩
  · obtain ⟨k, hk⟩ := h.nn
    simp [Value.ownBlock] at hk
  · refine ⟨g, cap, rfl, hB, h.top g rfl, (h.row.lt g rfl).2, fun i hi => ?_⟩
    obtain ⟨c1, c2, c3⟩ := cX_get X hi
    have hl := cX_length X
    refine ⟨?_, ?_, ?_⟩
    · rw [h.row.cellAt (i * 3) (by omega)]; exact c1
    · rw [h.row.cellAt (i * 3 + 1) (by omega)]; exact c2
    · rw [h.row.cellAt (i * 3 + 2) (by omega)]; exact c3
end
/-- Own rows of different types do not lie in one block. -/
theorem dj_types3 {E E' : TypeId} {sz : Nat} {w : World} {B B' n : Nat} {u v : Value} {xs : List Int} {ys : List Value} (hne : E ≠ E') (hu : Own E w B u xs) (hv : w.ownsRow B' E' sz v n ys) : Dj u v := by
  unfold Dj
  rcases hu.row.2 with ⟨rfl, _⟩ | ⟨g, cap, cur, rfl, _, hg, _⟩
  · exact .inl rfl
  · rcases hv.2 with ⟨rfl, _⟩ | ⟨g', cap', cur', rfl, _, hg', _⟩
    · exact .inr (fun e => by simp [Value.ownBlock] at e)
    · refine .inr (fun e => ?_)
      simp only [Value.ownBlock, Option.some.injEq] at e
      subst e
      rw [hg] at hg'
      injection hg' with h
      injection h with h1 h2
      exact hne h2
theorem oneCell_own3 {E : TypeId} {w : World} {B : Nat} {u : Value} {xs : List Int} (hu : Own E w B u xs) : u.oneCell' = true := by
  rcases hu.row.2 with ⟨rfl, _⟩ | ⟨g, cap, cur, rfl, _⟩ <;> rfl
section
variable {P : Program} {w : World} {E t : TypeId} {z : Value}
/-- append(out, route..): the route's cells at block m. -/
theorem run_appR {B N T m : Nat} {v u : Value} {X : List RV} {r : Rt} {ty : TypeId} (hE : 2 ≠ E) (ht : P.underlying t = some (.slice E)) (hinfo : (P.info? E).map (fun i => (i.zero, i.size, i.bytes)) = some (some z, 3, 40)) (hz : z.cells.size = 3)
    (hv : ORt E B N w v X) (hu : OwnT 2 N T w u r.path) (c0 : w.cell? ⟨m, 0, none⟩ = some (.int .i64 r.a)) (c1 : w.cell? ⟨m, 1, none⟩ = some (.int .i64 r.b)) (c2 : w.cell? ⟨m, 2, none⟩ = some u) (hr : I64 r.a ∧ I64 r.b)
    (hBN : B ≤ N) (hNw : N ≤ w.heap.size) (hTw : T ≤ w.heap.size) (hl : X.length < 2097152) :
    ∃ v' w', (Builtin.append_ #[t, t] ty #[v, .slice (some ⟨m, 0, none⟩) 1 1]).run P w = .ok v' w' ∧ ORt E B w'.heap.size w' v' (X ++ [(r, u)]) ∧ Grew w w' v v' ∧ (∀ g j x, v.ownBlock = some g → j < X.length * 3 → w.cell? ⟨g, j, none⟩ = some x → w'.cell? ⟨g, j, none⟩ = some x) := by
  obtain ⟨i, hi, hz0, hz1, hz2⟩ := info_parts hinfo
  obtain ⟨v', w', hrn, k2, k3⟩ := run_append_own2 (P := P) (w := w) B t ty E i z 3 40 ht hi hz0 hz1 hz2 hz (by decide) v X.length _ hv.row ⟨m, 0, none⟩ 1 1 (c3 (r, u)) rfl
    (by
      intro j x hj
      match j, hj with
      | 0, hj => simp [c3] at hj; subst hj; simpa [Addr.add] using c0
      | 1, hj => simp [c3] at hj; subst hj; simpa [Addr.add] using c1
      | 2, hj => simp [c3] at hj; subst hj; simpa [Addr.add] using c2)
    (by
      intro x hx
      simp [c3] at hx
      rcases hx with rfl | rfl | rfl
      · rfl
      · rfl
      · exact oneCell_own3 hu.own) (by unfold maxLen; omega) (by omega) (by omega)
  have hsz := k3.grown.size
  refine ⟨v', w', hrn, ⟨?_, fun k hk => (k2.lt k hk).2, fun x hx => ?_, fun x hx => ?_, ?_⟩, k3, ?_⟩
  · rw [List.length_append, cX_append]
    simpa [cX] using k2
  · rcases List.mem_append.1 hx with hx | hx
    · exact ((hv.ags x hx).grew k3 (dj_types3 hE (hv.ags x hx).own hv.row)).mono (Nat.le_refl _) (by omega)
    · simp at hx; subst hx
      exact (hu.grew k3 (dj_types3 hE hu.own hv.row)).mono hBN (by omega)
  · rcases List.mem_append.1 hx with hx | hx
    · exact hv.wf x hx
    · simp at hx; subst hx; exact hr
  · obtain ⟨k, hk⟩ := hv.nn
    rcases k3.blk with e | ⟨q, e, -⟩
    · exact ⟨k, e.trans hk⟩
    · exact ⟨q, e⟩
  · intro g j x hg hj hx
    have hlX := cX_length X
    have h0 := hv.row
    rcases h0.2 with ⟨rfl, hn⟩ | ⟨g', cap, cur, rfl, hBg, hgb, hnc, hcm, hcs, htake⟩
    · cases hg
    · simp only [Value.ownBlock, Option.some.injEq] at hg
      subst hg
      have hnews : ∀ j x, (c3 (r, u))[j]? = some x → w.cell? ((⟨m, 0, none⟩ : Addr).add j) = some x := by
        intro j x hj
        match j, hj with
        | 0, hj => simp [c3] at hj; subst hj; simpa [Addr.add] using c0
        | 1, hj => simp [c3] at hj; subst hj; simpa [Addr.add] using c1
        | 2, hj => simp [c3] at hj; subst hj; simpa [Addr.add] using c2
      by_cases hroom : X.length + 1 ≤ cap
      · rcases k3.blk with e | ⟨q, e, hq⟩
        · have k2' := k2
          rcases k2.2 with ⟨rfl, hn⟩ | ⟨g2, cap2, cur2, rfl, -⟩
          · omega
          simp only [Value.ownBlock, Option.some.injEq] at e
          subst e
          have h1 := k2'.cellAt j (by omega)
          have h2 := h0.cellAt j (by omega)
          rw [h1, List.getElem?_append_left (by omega), ← h2]
          exact hx
        · have hfit : X.length * i.size + (c3 (r, u)).length ≤ cur.size := by rw [hcs, hz1]; simp [c3]; omega
          have hr' := run_append_room (P := P) w t ty E i ht hi g' X.length cap cur hgb ⟨m, 0, none⟩ 1 1 (c3 (r, u)) (by rw [hz1]; rfl) hnews (by
            intro x hx
            simp [c3] at hx
            rcases hx with rfl | rfl | rfl
            · rfl
            · rfl
            · exact oneCell_own3 hu.own) hroom hfit
          rw [hr'] at hrn
          injection hrn with hv' hw'
          rw [← hv'] at e
          simp only [Value.ownBlock, Option.some.injEq] at e
          have := (h0.lt g' rfl).2
          omega
      · have holds : ∀ j x, (cX X)[j]? = some x → w.cell? ((⟨g', 0, none⟩ : Addr).add j) = some x := h0.cells (g := g') rfl
        have hr' := run_append_grow (P := P) w t ty E i z ht hi hz0 ⟨g', 0, none⟩ X.length cap (cX X) (by rw [hlX, hz1]) holds ⟨m, 0, none⟩ 1 1 (c3 (r, u)) (by rw [hz1]; rfl) hnews (by omega) (by omega) (growslice_fits (by omega) (by rw [hz2]; omega))
        rw [hr'] at hrn
        injection hrn with hv' hw'
        rw [← hw']
        exact upc (bel_box w.drew _) hx
/-- .. in a plain region. -/
theorem appR {B N T m : Nat} {v u : Value} {X : List RV} {r : Rt} (hE : 2 ≠ E) (ht : P.underlying t = some (.slice E)) (hinfo : (P.info? E).map (fun i => (i.zero, i.size, i.bytes)) = some (some z, 3, 40)) (hz : z.cells.size = 3)
    (hv : ORt E B N w v X) (hu : OwnT 2 N T w u r.path) (c0 : w.cell? ⟨m, 0, none⟩ = some (.int .i64 r.a)) (c1 : w.cell? ⟨m, 1, none⟩ = some (.int .i64 r.b)) (c2 : w.cell? ⟨m, 2, none⟩ = some u) (hr : I64 r.a ∧ I64 r.b)
    (hBN : B ≤ N) (hNw : N ≤ w.heap.size) (hTw : T ≤ w.heap.size) (hl : X.length < 2097152)
    {ops : Array Oper} {rest : List Oper} {o : Oper} {a : Act} {Q : Exit → Act → World → Prop} (hgd : o.guard = none) (s y : Operand)
    (ho : o.op = .call { callee := .builtin .append, args := #[s, y], argTypes := #[t, t] })
    (hs : a.eval s = v) (hy : a.eval y = .slice (some ⟨m, 0, none⟩) 1 1)
    (h : ∀ v' w', ORt E B w'.heap.size w' v' (X ++ [(r, u)]) → Grew w w' v v' → wpList P ops Q rest (a.put o.dst v') w') : Hold (wpList P ops Q (o :: rest) a w) := by
  show wpList P ops Q (o :: rest) a w
  refine wpList_plain hgd fun K hK => ?_
  obtain ⟨v', w', hrn, k2, k3, k4⟩ := run_appR (ty := o.type) hE ht hinfo hz hv hu c0 c1 c2 hr hBN hNw hTw hl
  unfold Oper.wp execOp
  simp only [ho, resolve, invoke, builtin, Sem.run_bind, Sem.run_pure, Result.andThen_ok, List.map_toArray, List.map_cons, List.map_nil, hs, hy, hrn]
  exact hK _ _ (h v' w' k2 k3)
/-- .. as one step of a region that draws. -/
theorem stepAppR {B N T m : Nat} {v u : Value} {X : List RV} {r : Rt} (hE : 2 ≠ E) (ht : P.underlying t = some (.slice E)) (hinfo : (P.info? E).map (fun i => (i.zero, i.size, i.bytes)) = some (some z, 3, 40)) (hz : z.cells.size = 3)
    (hv : ORt E B N w v X) (hu : OwnT 2 N T w u r.path) (c0 : w.cell? ⟨m, 0, none⟩ = some (.int .i64 r.a)) (c1 : w.cell? ⟨m, 1, none⟩ = some (.int .i64 r.b)) (c2 : w.cell? ⟨m, 2, none⟩ = some u) (hr : I64 r.a ∧ I64 r.b)
    (hBN : B ≤ N) (hNw : N ≤ w.heap.size) (hTw : T ≤ w.heap.size) (hl : X.length < 2097152)
    {ops : Array Oper} {o : Oper} {a : Act} {K : Act → World → Prop} {Q : Exit → Act → World → Prop} {F : Prop} (hgd : o.guard = none) (s y : Operand)
    (ho : o.op = .call { callee := .builtin .append, args := #[s, y], argTypes := #[t, t] })
    (hs : a.eval s = v) (hy : a.eval y = .slice (some ⟨m, 0, none⟩) 1 1)
    (h : ∀ v' w', ORt E B w'.heap.size w' v' (X ++ [(r, u)]) → Grew w w' v v' → (∀ g j x, v.ownBlock = some g → j < X.length * 3 → w.cell? ⟨g, j, none⟩ = some x → w'.cell? ⟨g, j, none⟩ = some x) → K (a.put o.dst v') w') : if Region.wanted o (yielded ops a.tmps) = true then Oper.wp P o a w K Q else F := by
  have hw : Region.wanted o (yielded ops a.tmps) = true := by simp [Region.wanted, hgd]
  rw [if_pos hw]
  obtain ⟨v', w', hrn, k2, k3, k4⟩ := run_appR (ty := o.type) hE ht hinfo hz hv hu c0 c1 c2 hr hBN hNw hTw hl
  unfold Oper.wp execOp
  simp only [ho, resolve, invoke, builtin, Sem.run_bind, Sem.run_pure, Result.andThen_ok, List.map_toArray, List.map_cons, List.map_nil, hs, hy, hrn]
  exact h v' w' k2 k3 k4
end
theorem infoRoute : (Try.prog.info? 45).map (fun i => (i.zero, i.size, i.bytes)) = some (some (.agg #[.int .i64 0, .int .i64 0, .slice none 0 0]), 3, 40) := by kernel_rfl
theorem infoPath : (Try.prog.info? 56).map (fun i => (i.zero, i.size, i.bytes)) = some (some (.agg #[.int .i64 0, .int .i64 0, .slice none 0 0]), 3, 40) := by kernel_rfl
end Go.Proofs.Ytllbjckbinolmaa
