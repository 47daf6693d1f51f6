/-
  PathCategory: the reference's category of paths in the making.
-/
import Derived.Test.YtllbjckbinolmaaPim
import Derived.Test.YtllbjckbinolmaaSets2
import Derived.Test.YtllbjckbinolmaaMono3
namespace Go.Proofs.Ytllbjckbinolmaa
open Go.RowKit

theorem Sep.perm {w : World} {vs us : List Value} (h : Sep w vs) (hp : List.Perm vs us) : Sep w us :=
  ⟨fun v hv => h.lt v (hp.mem_iff.2 hv), (List.Perm.pairwise_iff (fun {_ _} h => Dj.symm h) hp).1 h.pw⟩
theorem Sep.setNew {w w' : World} {vs : List Value} (h : Sep w vs) (i : Nat) {v : Value} (hv : ∀ k, v.ownBlock = some k → w.heap.size ≤ k ∧ k < w'.heap.size) (hs : w.heap.size ≤ w'.heap.size) : Sep w' (vs.set i v) := by
  refine ⟨fun u hu k hk => ?_, ?_⟩
  · rcases List.mem_or_eq_of_mem_set hu with hu | hu
    · exact Nat.lt_of_lt_of_le (h.lt u hu k hk) hs
    · subst hu; exact (hv k hk).2
  · apply List.pairwise_iff_getElem.2
    intro a b ha hb hab
    rw [List.length_set] at ha hb
    have e1 : vs[a]? = some vs[a] := List.getElem?_eq_getElem ha
    have e2 : vs[b]? = some vs[b] := List.getElem?_eq_getElem hb
    rw [List.getElem_set, List.getElem_set]
    by_cases ea : i = a <;> by_cases eb : i = b
    · omega
    · rw [if_pos ea, if_neg eb]
      exact (Dj.of_lt (N := w.heap.size) (h.at b e2) (fun k hk => (hv k hk).1)).symm
    · rw [if_neg ea, if_pos eb]
      exact Dj.of_lt (N := w.heap.size) (h.at a e1) (fun k hk => (hv k hk).1)
    · rw [if_neg ea, if_neg eb]
      exact h.dj a b e1 e2 (by omega)
section
variable {P : Program} {w : World}
/-- append(out, u), u a value of one cell. -/
theorem appV {B : Nat} {u v : Value} {n : Nat} {xs : List Value} {e t : TypeId} (hown : w.ownsRow B e 1 v n xs) (hu : u.oneCell' = true) (hl : n < 4294967296) (hB : B ≤ w.heap.size)
    (ht : P.underlying t = some (.slice e)) (hinfo : (P.info? e).map (fun i => (i.zero, i.size, i.bytes)) = some (some (.slice none 0 0), 1, 24))
    {ops : Array Oper} {rest : List Oper} {o : Oper} {a : Act} {Q : Exit → Act → World → Prop} (hgd : o.guard = none) (s y : Operand)
    (ho : o.op = .call { callee := .builtin .append, args := #[s, y], argTypes := #[t, t] })
    (hs : a.eval s = v) (hy : a.eval y = .slice (some ⟨w.heap.size, 0, none⟩) 1 1)
    (h : ∀ v' w', w'.ownsRow B e 1 v' (n + 1) (xs ++ [u]) → Grew w w' v v' → wpList P ops Q rest (a.put o.dst v') w') : Hold (wpList P ops Q (o :: rest) a (w.alloc (.cells #[u] e))) := by
  show wpList P ops Q (o :: rest) a (w.alloc (.cells #[u] e))
  obtain ⟨i, hi, hz0, hz1, hz2⟩ := info_parts hinfo
  refine wpList_append_own2 hgd s y t ho B e i (.slice none 0 0) 1 24 ht hi hz0 hz1 hz2 rfl (by decide) v n _ hs (hown.alloc _) ⟨w.heap.size, 0, none⟩ 1 1 [u] hy rfl ?_ ?_ ?_ ?_ ?_ ?_
  · intro j x hj
    match j, hj with
    | 0, hj => simp at hj; subst hj; simp [Addr.add]
  · intro x hx; simp at hx; subst hx; exact hu
  · unfold maxLen; omega
  · omega
  · simp; omega
  · intro v' w' h2 h3
    exact h v' w' h2 h3.of_alloc
end
/-- The cells of the category. -/
def rowD (n : Int) (rf rt ri rc : Value) (i : Nat) : Value := if i = 0 then .int .i64 n else if i = 1 then rf else if i = 2 then rt else if i = 3 then ri else rc
theorem ownsRow_bel {E : TypeId} {w w1 : World} {B sz n : Nat} {v : Value} {xs : List Value} (h : w.ownsRow B E sz v n xs) (hb : Below w.heap.size w w1) : w1.ownsRow B E sz v n xs :=
  h.kept (row := none) ⟨hb.os, hb.tape, hb.output, hb.size, fun k hk _ => hb.block k hk⟩ (by cases v.ownBlock with
    | none => exact .inl rfl
    | some k => exact .inr (fun e => by cases e))
/-- A category of the call's own, made of t's pairs, that reads. -/
structure VC (B T : Nat) (w : World) (v : Value) (c : Cat) : Prop where
  view : ∀ W : World, (∀ k, B ≤ k → k < T → W.heap[k]? = w.heap[k]?) → IC W v c
  top : T ≤ w.heap.size
theorem VC.is {B T : Nat} {w : World} {v : Value} {c : Cat} (h : VC B T w v c) : IC w v c := h.view w (fun _ _ _ => rfl)
theorem VC.size {B T : Nat} {w : World} {v : Value} {c : Cat} (_ : VC B T w v c) : True := trivial
theorem VC.kept {B T B' T' : Nat} {w w' : World} {v : Value} {c : Cat} (h : VC B T w v c) (hb : Within B' T' w w') (hd : T ≤ B' ∨ T' ≤ B) : VC B T w' v c :=
  ⟨fun W hW => h.view W fun k h1 h2 => (hW k h1 h2).trans (hb.block k (by omega) (by have := h.top; omega)), Nat.le_trans h.top hb.size⟩
theorem VC.shape5 {B T : Nat} {w : World} {v : Value} {c : Cat} (h : VC B T w v c) : ∃ n aF lF kF aT lT kT aI lI kI aC lC kC, v = .agg #[.int .i64 n, .slice aF lF kF, .slice aT lT kT, .slice aI lI kI, .slice aC lC kC] := by
  obtain ⟨⟨vf, vt, vi, vc, rfl, h1, h2, h3, h4⟩, -⟩ := h.is
  obtain ⟨a1, b1, o1, c1, rfl, -⟩ := h1.ex
  obtain ⟨a2, b2, o2, c2, rfl, -⟩ := h2.ex
  obtain ⟨a3, b3, o3, c3, rfl, -⟩ := h3.ex
  obtain ⟨a4, b4, o4, c4, R4, rfl, -⟩ := h4.ex
  exact ⟨_, _, _, _, _, _, _, _, _, _, _, _, _, rfl⟩
theorem own_agree {E : TypeId} {w W : World} {B : Nat} {v : Value} {xs : List Int} (h : Own E w B v xs) (ha : ∀ k, B ≤ k → k < w.heap.size → W.heap[k]? = w.heap[k]?) : Own E W B v xs := by
  refine ⟨⟨h.row.1, ?_⟩, h.wf, h.len⟩
  rcases h.row.2 with hn | ⟨g, cap, cur, hv, hBg, hg, rest⟩
  · exact .inl hn
  · exact .inr ⟨g, cap, cur, hv, hBg, (ha g hBg (Array.getElem?_eq_some_iff.1 hg).1).trans hg, rest⟩
theorem rows_agree {E : TypeId} {w W : World} {B n sz : Nat} {v : Value} {xs : List Value} (h : w.ownsRow B E sz v n xs) (ha : ∀ k, B ≤ k → k < w.heap.size → W.heap[k]? = w.heap[k]?) : W.ownsRow B E sz v n xs := by
  refine ⟨h.1, ?_⟩
  rcases h.2 with hn | ⟨g, cap, cur, hv, hBg, hg, rest⟩
  · exact .inl hn
  · exact .inr ⟨g, cap, cur, hv, hBg, (ha g hBg (Array.getElem?_eq_some_iff.1 hg).1).trans hg, rest⟩
theorem rows_sh {E : TypeId} {w : World} {B n : Nat} {v : Value} {xs : List Value} (h : w.ownsRow B E 1 v n xs) : ∃ (a : Option Addr) (g c : Nat), v = .slice a n c ∧ (0 < n → a = some ⟨g, 0, none⟩) := by
  rcases h.2 with ⟨rfl, hn⟩ | ⟨g, cap, cur, rfl, -⟩
  · exact ⟨none, 0, 0, by rw [hn], fun h => by omega⟩
  · exact ⟨_, g, cap, rfl, fun _ => rfl⟩
theorem rows_at {E : TypeId} {w : World} {B g n c : Nat} {V : Nat → Value} (h : w.ownsRow B E 1 (.slice (some ⟨g, 0, none⟩) n c) n ((List.range n).map V)) {i : Nat} (hi : i < n) : w.cell? ⟨g, i, none⟩ = some (V i) := by
  rw [World.ownsRow.cellAt h i (by omega)]
  simp [hi]
theorem iss_rows {E : TypeId} {w : World} {B n : Nat} {v : Value} {U : Nat → Value} {xss : List (List Int)} (h : w.ownsRow B E 1 v n ((List.range n).map U)) (hU : ∀ j, j < n → IS w (U j) (gr xss j)) (hn : n = xss.length) (hl : n ≤ 4294967296) : ISS w v xss := by
  subst hn
  obtain ⟨a, g, c, rfl, ha⟩ := rows_sh h
  refine ⟨⟨a, g, 0, c, U, rfl, ha, fun i hi => ?_, hU⟩, hl⟩
  obtain rfl := ha (by omega)
  rw [Nat.zero_add]
  exact rows_at h hi
/-- The end of a call with a category that reads and a code for results. -/
def MkV (w : World) (r : Cat × Int) : Ending → World → Prop := fun e w' => ∃ u, e = .returned (.tuple #[u, .int .i64 r.2]) ∧ VC w.heap.size w'.heap.size w' u r.1 ∧ Below w.heap.size w w'
theorem OwnC.view {B T : Nat} {w : World} {v : Value} {c : Cat} (h : OwnC B T w v c) : VC B T w v c := by
  refine ⟨fun W hW => ?_, h.top⟩
  have hk : ∀ W' : World, (∀ k, B ≤ k → k < T → W'.heap[k]? = w.heap[k]?) → IC W' v c := by
    intro W' hW'
    obtain ⟨⟨vf, vt, vi, vc, gf, tf, gt, tt, gi, ti, gc, tc, rfl, h1, h2, h3, h4, h5, h6⟩, hn, htop, hbt⟩ := h
    have key : ∀ {g x : Nat} {u : Value} {xs : List Int}, B ≤ g → x ≤ T → OwnT 2 g x w u xs → IS W' u xs := by
      intro g x u xs hg hx ho
      have hr := ho.own.row
      refine (Own.is (E := 2) (B := g) ⟨⟨hr.1, ?_⟩, ho.own.wf, ho.own.len⟩)
      rcases hr.2 with hn | ⟨k, cap, cur, hv, hBg, hh, rest⟩
      · exact .inl hn
      · have := ho.top k (by rw [hv]; rfl)
        exact .inr ⟨k, cap, cur, hv, hBg, (hW' k (by omega) (by omega)).trans hh, rest⟩
    refine ⟨⟨vf, vt, vi, vc, rfl, key h5.1 h5.2.1 h1, key h5.2.2.1 h5.2.2.2.1 h2, key h5.2.2.2.2.1 h5.2.2.2.2.2.1 h3, ?_⟩, hn⟩
    obtain ⟨V, k1, k2, k3, k4, k5⟩ := h4.of
    have hl := h4.len
    refine iss_rows (B := gc) (E := 22) (U := V) ⟨k1.1, ?_⟩ (fun j hj => key h5.2.2.2.2.2.2.1 h5.2.2.2.2.2.2.2 (k3 j hj)) rfl (by omega)
    rcases k1.2 with hn | ⟨k, cap, cur, hv, hBg, hh, rest⟩
    · exact .inl hn
    · have := k2 k (by rw [hv]; rfl)
      have := h5.2.2.2.2.2.2
      exact .inr ⟨k, cap, cur, hv, hBg, (hW' k (by omega) (by omega)).trans hh, rest⟩
  exact hk W hW
theorem mkV_nil5 {w W : World} {b : Nat} {T : TypeId} {r : Cat × Int} {code : Int} (hR : RS w b T W) (hr : r = (nilC, code)) :
    MkV w r (.returned (.tuple #[.agg #[.int .i64 0, .slice none 0 0, .slice none 0 0, .slice none 0 0, .slice none 0 0], .int .i64 code])) (set5 W b (.int .i64 0) (.slice none 0 0) (.slice none 0 0) (.slice none 0 0) (.slice none 0 0)) := by
  obtain ⟨u, h1, h2, h3⟩ := mkC_nil5 hR hr
  exact ⟨u, h1, h2.view, h3⟩
theorem mkV_put {w W : World} {b B T' : Nat} {T : TypeId} (hR : RS w b T W) {c : Cat} (code : Int) {x0 x1 x2 x3 x4 : Value} (ho : VC B T' W (.agg #[x0, x1, x2, x3, x4]) c) (hb : b < B) :
    MkV w (c, code) (.returned (.tuple #[.agg #[x0, x1, x2, x3, x4], .int .i64 code])) (set5 W b x0 x1 x2 x3 x4) := by
  have hs := set5_size W b x0 x1 x2 x3 x4
  have hb2 := hR.2.1
  have hk := ho.kept (set5_within W b x0 x1 x2 x3 x4) (.inr (by omega))
  exact ⟨_, rfl, ⟨fun X hX => hk.view X fun k h1 h2 => hX k (by omega) (by have := ho.top; omega), Nat.le_refl _⟩, hR.five_bel _ _ _ _ _⟩
theorem VC.keptB {B T : Nat} {w w' : World} {v : Value} {c : Cat} (h : VC B T w v c) (hb : Below w.heap.size w w') : VC B T w' v c := h.kept (below_within hb w.heap.size) (.inl h.top)
def gqL (q c gi : Nat) (vf vt vc vr : Value) (m : Nat) (U : Nat → Value) : List Value :=
  blk q :: blk c :: blk gi :: vf :: vt :: vc :: vr :: (List.range m).map U
theorem gqL_U {q c gi : Nat} {vf vt vc vr : Value} {m : Nat} {U : Nat → Value} {j : Nat} (hj : j < m) : (gqL q c gi vf vt vc vr m U)[j + 7]? = some (U j) := by
  show ((List.range m).map U)[j]? = _
  simp [hj]
/-- The category in block c, row gi the identities; the list of routes lv lies below T; block q is the result's. -/
structure GQ (w : World) (q c gi n T : Nat) (lv : Value) (X : List RV) (wr : World) (rf rt rc vf vt vc vr : Value) (F G R : List Int) (I : Nat → Int) (m : Nat) (U : Nat → Value) (D : Nat → List Int) : Prop where
  rs : RS w q 25 wr
  sep : Sep wr (gqL q c gi vf vt vc vr m U)
  row : wr.rowIs c 25 5 (rowD n rf rt (.slice (some ⟨gi, 0, none⟩) n n) rc)
  ri : wr.rowIs gi 2 n (fun x => .int .i64 (I x))
  of : Own 2 wr T vf F
  ot : Own 2 wr T vt G
  oc : wr.ownsRow T 22 1 vc m ((List.range m).map U)
  or : Own 2 wr T vr R
  oU : ∀ j, j < m → Own 2 wr T (U j) (D j)
  ol : ORt 56 (q + 1) T wr lv X
  lt : w.heap.size ≤ q ∧ q < T ∧ T ≤ gi ∧ T ≤ c
section
variable {w wr w1 : World} {q c gi n T : Nat} {lv : Value} {X : List RV} {rf rt rc vf vt vc vr : Value} {F G R : List Int} {I : Nat → Int} {m : Nat} {U : Nat → Value} {D : Nat → List Int}
theorem GQ.facts (h : GQ w q c gi n T lv X wr rf rt rc vf vt vc vr F G R I m U D) : wr.cell? ⟨c, 0, none⟩ = some (.int .i64 n) ∧ wr.cell? ⟨c, 1, none⟩ = some rf ∧ wr.cell? ⟨c, 2, none⟩ = some rt ∧ wr.cell? ⟨c, 3, none⟩ = some (.slice (some ⟨gi, 0, none⟩) n n) ∧ wr.cell? ⟨c, 4, none⟩ = some rc ∧
    wr.frozen? ⟨c, 1, none⟩ = false ∧ wr.frozen? ⟨c, 2, none⟩ = false ∧ wr.frozen? ⟨c, 4, none⟩ = false :=
  ⟨h.row.cell (show 0 < 5 by omega), h.row.cell (show 1 < 5 by omega), h.row.cell (show 2 < 5 by omega), h.row.cell (show 3 < 5 by omega), h.row.cell (show 4 < 5 by omega), h.row.frozen _, h.row.frozen _, h.row.frozen _⟩
theorem GQ.call (h : GQ w q c gi n T lv X wr rf rt rc vf vt vc vr F G R I m U D) (hb : Below wr.heap.size wr w1) : GQ w q c gi n T lv X w1 rf rt rc vf vt vc vr F G R I m U D :=
  ⟨h.rs.call hb, h.sep.up hb.size, rowIs_bel h.row hb, rowIs_bel h.ri hb, h.of.kept hb, h.ot.kept hb, ownsRow_bel h.oc hb, h.or.kept hb, fun j hj => (h.oU j hj).kept hb, h.ol.keptB hb, h.lt⟩
theorem GQ.tle (h : GQ w q c gi n T lv X wr rf rt rc vf vt vc vr F G R I m U D) : T ≤ wr.heap.size := by have := h.row.lt; have := h.lt; omega
theorem GQ.growF (h : GQ w q c gi n T lv X wr rf rt rc vf vt vc vr F G R I m U D) {vf' : Value} {F' : List Int} (ho : Own 2 w1 T vf' F') (hg : Grew wr w1 vf vf') : GQ w q c gi n T lv X w1 rf rt rc vf' vt vc vr F' G R I m U D :=
  ⟨h.rs.grow hg (h.sep.dj 0 3 rfl rfl (by omega)) (fun k hk => by have := (fun k hk => (h.of.lt k hk).1) k hk; have := h.lt; omega), h.sep.grew 3 rfl hg (fun k hk => (ho.lt k hk).2), rowIs_grew h.row hg (h.sep.dj 1 3 rfl rfl (by omega)), rowIs_grew h.ri hg (h.sep.dj 2 3 rfl rfl (by omega)), ho, h.ot.keptG hg (h.sep.dj 4 3 rfl rfl (by omega)), ownsRow_grew h.oc hg (h.sep.dj 5 3 rfl rfl (by omega)), h.or.keptG hg (h.sep.dj 6 3 rfl rfl (by omega)), fun j hj => (h.oU j hj).keptG hg (h.sep.dj (j + 7) 3 (gqL_U hj) rfl (by omega)), h.ol.young hg h.tle (fun k hk => (h.of.lt k hk).1), h.lt⟩
theorem GQ.growT (h : GQ w q c gi n T lv X wr rf rt rc vf vt vc vr F G R I m U D) {vt' : Value} {G' : List Int} (ho : Own 2 w1 T vt' G') (hg : Grew wr w1 vt vt') : GQ w q c gi n T lv X w1 rf rt rc vf vt' vc vr F G' R I m U D :=
  ⟨h.rs.grow hg (h.sep.dj 0 4 rfl rfl (by omega)) (fun k hk => by have := (fun k hk => (h.ot.lt k hk).1) k hk; have := h.lt; omega), h.sep.grew 4 rfl hg (fun k hk => (ho.lt k hk).2), rowIs_grew h.row hg (h.sep.dj 1 4 rfl rfl (by omega)), rowIs_grew h.ri hg (h.sep.dj 2 4 rfl rfl (by omega)), h.of.keptG hg (h.sep.dj 3 4 rfl rfl (by omega)), ho, ownsRow_grew h.oc hg (h.sep.dj 5 4 rfl rfl (by omega)), h.or.keptG hg (h.sep.dj 6 4 rfl rfl (by omega)), fun j hj => (h.oU j hj).keptG hg (h.sep.dj (j + 7) 4 (gqL_U hj) rfl (by omega)), h.ol.young hg h.tle (fun k hk => (h.ot.lt k hk).1), h.lt⟩
theorem GQ.growR (h : GQ w q c gi n T lv X wr rf rt rc vf vt vc vr F G R I m U D) {vr' : Value} {R' : List Int} (ho : Own 2 w1 T vr' R') (hg : Grew wr w1 vr vr') : GQ w q c gi n T lv X w1 rf rt rc vf vt vc vr' F G R' I m U D :=
  ⟨h.rs.grow hg (h.sep.dj 0 6 rfl rfl (by omega)) (fun k hk => by have := (fun k hk => (h.or.lt k hk).1) k hk; have := h.lt; omega), h.sep.grew 6 rfl hg (fun k hk => (ho.lt k hk).2), rowIs_grew h.row hg (h.sep.dj 1 6 rfl rfl (by omega)), rowIs_grew h.ri hg (h.sep.dj 2 6 rfl rfl (by omega)), h.of.keptG hg (h.sep.dj 3 6 rfl rfl (by omega)), h.ot.keptG hg (h.sep.dj 4 6 rfl rfl (by omega)), ownsRow_grew h.oc hg (h.sep.dj 5 6 rfl rfl (by omega)), ho, fun j hj => (h.oU j hj).keptG hg (h.sep.dj (j + 7) 6 (gqL_U hj) rfl (by omega)), h.ol.young hg h.tle (fun k hk => (h.or.lt k hk).1), h.lt⟩
theorem GQ.setF (h : GQ w q c gi n T lv X wr rf rt rc vf vt vc vr F G R I m U D) : GQ w q c gi n T lv X (wr.setCell ⟨c, 1, none⟩ vf) vf rt rc vf vt vc vr F G R I m U D :=
  ⟨h.rs.grow (grew_set (k := c) (i := 1) vf) (h.sep.dj 0 1 rfl rfl (by omega)) (fun k hk => by have := (show ∀ k, (blk c).ownBlock = some k → T ≤ k from fun k hk => by have e : some c = some k := hk; injection e with e; have := h.lt; omega) k hk; have := h.lt; omega), h.sep.grew 1 rfl (grew_set (k := c) (i := 1) vf) (fun k hk => by have e : some c = some k := hk; injection e with e; subst e; have := h.row.lt; simpa [World.setCell] using this), (h.row.set 1 vf).congr fun k hk => (by simp only [rowD]; have : k = 0 ∨ k = 1 ∨ k = 2 ∨ k = 3 ∨ k = 4 := (by omega); rcases this with rfl | rfl | rfl | rfl | rfl <;> simp), rowIs_grew h.ri (grew_set (k := c) (i := 1) vf) (h.sep.dj 2 1 rfl rfl (by omega)), h.of.keptG (grew_set (k := c) (i := 1) vf) (h.sep.dj 3 1 rfl rfl (by omega)), h.ot.keptG (grew_set (k := c) (i := 1) vf) (h.sep.dj 4 1 rfl rfl (by omega)), ownsRow_grew h.oc (grew_set (k := c) (i := 1) vf) (h.sep.dj 5 1 rfl rfl (by omega)), h.or.keptG (grew_set (k := c) (i := 1) vf) (h.sep.dj 6 1 rfl rfl (by omega)), fun j hj => (h.oU j hj).keptG (grew_set (k := c) (i := 1) vf) (h.sep.dj (j + 7) 1 (gqL_U hj) rfl (by omega)), h.ol.young (grew_set (k := c) (i := 1) vf) h.tle (show ∀ k, (blk c).ownBlock = some k → T ≤ k from fun k hk => by have e : some c = some k := hk; injection e with e; have := h.lt; omega), h.lt⟩
theorem GQ.setT (h : GQ w q c gi n T lv X wr rf rt rc vf vt vc vr F G R I m U D) : GQ w q c gi n T lv X (wr.setCell ⟨c, 2, none⟩ vt) rf vt rc vf vt vc vr F G R I m U D :=
  ⟨h.rs.grow (grew_set (k := c) (i := 2) vt) (h.sep.dj 0 1 rfl rfl (by omega)) (fun k hk => by have := (show ∀ k, (blk c).ownBlock = some k → T ≤ k from fun k hk => by have e : some c = some k := hk; injection e with e; have := h.lt; omega) k hk; have := h.lt; omega), h.sep.grew 1 rfl (grew_set (k := c) (i := 2) vt) (fun k hk => by have e : some c = some k := hk; injection e with e; subst e; have := h.row.lt; simpa [World.setCell] using this), (h.row.set 2 vt).congr fun k hk => (by simp only [rowD]; have : k = 0 ∨ k = 1 ∨ k = 2 ∨ k = 3 ∨ k = 4 := (by omega); rcases this with rfl | rfl | rfl | rfl | rfl <;> simp), rowIs_grew h.ri (grew_set (k := c) (i := 2) vt) (h.sep.dj 2 1 rfl rfl (by omega)), h.of.keptG (grew_set (k := c) (i := 2) vt) (h.sep.dj 3 1 rfl rfl (by omega)), h.ot.keptG (grew_set (k := c) (i := 2) vt) (h.sep.dj 4 1 rfl rfl (by omega)), ownsRow_grew h.oc (grew_set (k := c) (i := 2) vt) (h.sep.dj 5 1 rfl rfl (by omega)), h.or.keptG (grew_set (k := c) (i := 2) vt) (h.sep.dj 6 1 rfl rfl (by omega)), fun j hj => (h.oU j hj).keptG (grew_set (k := c) (i := 2) vt) (h.sep.dj (j + 7) 1 (gqL_U hj) rfl (by omega)), h.ol.young (grew_set (k := c) (i := 2) vt) h.tle (show ∀ k, (blk c).ownBlock = some k → T ≤ k from fun k hk => by have e : some c = some k := hk; injection e with e; have := h.lt; omega), h.lt⟩
theorem GQ.setC (h : GQ w q c gi n T lv X wr rf rt rc vf vt vc vr F G R I m U D) : GQ w q c gi n T lv X (wr.setCell ⟨c, 4, none⟩ vc) rf rt vc vf vt vc vr F G R I m U D :=
  ⟨h.rs.grow (grew_set (k := c) (i := 4) vc) (h.sep.dj 0 1 rfl rfl (by omega)) (fun k hk => by have := (show ∀ k, (blk c).ownBlock = some k → T ≤ k from fun k hk => by have e : some c = some k := hk; injection e with e; have := h.lt; omega) k hk; have := h.lt; omega), h.sep.grew 1 rfl (grew_set (k := c) (i := 4) vc) (fun k hk => by have e : some c = some k := hk; injection e with e; subst e; have := h.row.lt; simpa [World.setCell] using this), (h.row.set 4 vc).congr fun k hk => (by simp only [rowD]; have : k = 0 ∨ k = 1 ∨ k = 2 ∨ k = 3 ∨ k = 4 := (by omega); rcases this with rfl | rfl | rfl | rfl | rfl <;> simp), rowIs_grew h.ri (grew_set (k := c) (i := 4) vc) (h.sep.dj 2 1 rfl rfl (by omega)), h.of.keptG (grew_set (k := c) (i := 4) vc) (h.sep.dj 3 1 rfl rfl (by omega)), h.ot.keptG (grew_set (k := c) (i := 4) vc) (h.sep.dj 4 1 rfl rfl (by omega)), ownsRow_grew h.oc (grew_set (k := c) (i := 4) vc) (h.sep.dj 5 1 rfl rfl (by omega)), h.or.keptG (grew_set (k := c) (i := 4) vc) (h.sep.dj 6 1 rfl rfl (by omega)), fun j hj => (h.oU j hj).keptG (grew_set (k := c) (i := 4) vc) (h.sep.dj (j + 7) 1 (gqL_U hj) rfl (by omega)), h.ol.young (grew_set (k := c) (i := 4) vc) h.tle (show ∀ k, (blk c).ownBlock = some k → T ≤ k from fun k hk => by have e : some c = some k := hk; injection e with e; have := h.lt; omega), h.lt⟩
theorem GQ.setI (h : GQ w q c gi n T lv X wr rf rt rc vf vt vc vr F G R I m U D) (x : Nat) (z : Int) : GQ w q c gi n T lv X (wr.setCell ⟨gi, x, none⟩ (.int .i64 z)) rf rt rc vf vt vc vr F G R (fun y => if y = x then z else I y) m U D :=
  ⟨h.rs.grow (grew_set (k := gi) (i := x) (.int .i64 z)) (h.sep.dj 0 2 rfl rfl (by omega)) (fun k hk => by have := (show ∀ k, (blk gi).ownBlock = some k → T ≤ k from fun k hk => by have e : some gi = some k := hk; injection e with e; have := h.lt; omega) k hk; have := h.lt; omega), h.sep.grew 2 rfl (grew_set (k := gi) (i := x) (.int .i64 z)) (fun k hk => by have e : some gi = some k := hk; injection e with e; subst e; have := h.ri.lt; simpa [World.setCell] using this), rowIs_grew h.row (grew_set (k := gi) (i := x) (.int .i64 z)) (h.sep.dj 1 2 rfl rfl (by omega)), (h.ri.set x _).congr fun k _ => by by_cases e : k = x <;> simp [e], h.of.keptG (grew_set (k := gi) (i := x) (.int .i64 z)) (h.sep.dj 3 2 rfl rfl (by omega)), h.ot.keptG (grew_set (k := gi) (i := x) (.int .i64 z)) (h.sep.dj 4 2 rfl rfl (by omega)), ownsRow_grew h.oc (grew_set (k := gi) (i := x) (.int .i64 z)) (h.sep.dj 5 2 rfl rfl (by omega)), h.or.keptG (grew_set (k := gi) (i := x) (.int .i64 z)) (h.sep.dj 6 2 rfl rfl (by omega)), fun j hj => (h.oU j hj).keptG (grew_set (k := gi) (i := x) (.int .i64 z)) (h.sep.dj (j + 7) 2 (gqL_U hj) rfl (by omega)), h.ol.young (grew_set (k := gi) (i := x) (.int .i64 z)) h.tle (show ∀ k, (blk gi).ownBlock = some k → T ≤ k from fun k hk => by have e : some gi = some k := hk; injection e with e; have := h.lt; omega), h.lt⟩
theorem GQ.pushC (h : GQ w q c gi n T lv X wr rf rt rc vf vt vc vr F G R I m U D) {vc' : Value} (ho : w1.ownsRow T 22 1 vc' (m + 1) ((List.range m).map U ++ [vr])) (hg : Grew wr w1 vc vc') :
    GQ w q c gi n T lv X w1 rf rt rc vf vt vc' (.slice none 0 0) F G [] I (m + 1) (fun j => if j < m then U j else vr) (fun j => if j < m then D j else R) := by
  have e0 : (List.range (m + 1)).map (fun j => if j < m then U j else vr) = (List.range m).map U ++ [vr] := by
    rw [List.range_succ, List.map_append]
    congr 1
    · exact List.map_congr_left fun j hj => if_pos (List.mem_range.1 hj)
    · simp
  have hrow : w1.ownsRow T 22 1 vc' (m + 1) ((List.range (m + 1)).map (fun j => if j < m then U j else vr)) := by rw [e0]; exact ho
  have s1 := h.sep.grew 5 rfl hg (fun k hk => (ho.lt k hk).2)
  have s2 : Sep w1 (gqL q c gi vf vt vc' (.slice none 0 0) (m + 1) (fun j => if j < m then U j else vr)) := by
    have s3 : Sep w1 (blk q :: blk c :: blk gi :: vf :: vt :: vc' :: ((List.range m).map U ++ [vr])) := s1.perm (.cons _ (.cons _ (.cons _ (.cons _ (.cons _ (.cons _ (List.perm_append_singleton vr ((List.range m).map U)).symm))))))
    have s4 : Sep w1 (.slice none 0 0 :: (blk q :: blk c :: blk gi :: vf :: vt :: vc' :: ((List.range m).map U ++ [vr]))) := s3.new (fun k hk => by simp [Value.ownBlock] at hk) (Nat.le_refl _)
    have e1 : gqL q c gi vf vt vc' (.slice none 0 0) (m + 1) (fun j => if j < m then U j else vr) = blk q :: blk c :: blk gi :: vf :: vt :: vc' :: .slice none 0 0 :: ((List.range m).map U ++ [vr]) := by
      unfold gqL; rw [e0]
    rw [e1]
    refine s4.perm ?_
    have hp := List.perm_middle (l₁ := [blk q, blk c, blk gi, vf, vt, vc']) (a := Value.slice none 0 0) (l₂ := (List.range m).map U ++ [vr])
    exact hp.symm
  exact ⟨h.rs.grow hg (h.sep.dj 0 5 rfl rfl (by omega)) (fun k hk => by have := (fun k hk => (h.oc.lt k hk).1) k hk; have := h.lt; omega), s2, rowIs_grew h.row hg (h.sep.dj 1 5 rfl rfl (by omega)), rowIs_grew h.ri hg (h.sep.dj 2 5 rfl rfl (by omega)), h.of.keptG hg (h.sep.dj 3 5 rfl rfl (by omega)), h.ot.keptG hg (h.sep.dj 4 5 rfl rfl (by omega)), hrow, Own.nil _ _ _, fun j hj => by (try dsimp only); exact (if e : j < m then (by rw [if_pos e, if_pos e]; exact (h.oU j e).keptG hg (h.sep.dj (j + 7) 5 (gqL_U e) rfl (by omega))) else (by rw [if_neg e, if_neg e]; exact h.or.keptG hg (h.sep.dj 6 5 rfl rfl (by omega)))), h.ol.young hg h.tle (fun k hk => (h.oc.lt k hk).1), h.lt⟩
theorem GQ.newR (h : GQ w q c gi n T lv X wr rf rt rc vf vt vc vr F G R I m U D) : GQ w q c gi n T lv X (wr.alloc (.cells #[] 2)) rf rt rc vf vt vc (.slice (some ⟨wr.heap.size, 0, none⟩) 0 0) F G [] I m U D :=
  ⟨h.rs.alloc _, h.sep.setNew 6 (fun k hk => by have e : some wr.heap.size = some k := hk; injection e with e; subst e; simp) (by simp), rowIs_bel h.row (bel_box wr _), rowIs_bel h.ri (bel_box wr _), h.of.kept (bel_box wr _), h.ot.kept (bel_box wr _), ownsRow_bel h.oc (bel_box wr _), Own.empty _ _ _ h.tle, fun j hj => (h.oU j hj).kept (bel_box wr _), h.ol.keptB (bel_box wr _), h.lt⟩
end
theorem GQ.start {w W : World} {q n : Nat} {lv : Value} {X : List RV} (hR : RS w q 25 W) (hO : ORt 56 (q + 1) W.heap.size W lv X) (U : Nat → Value) (D : Nat → List Int) :
    GQ w q (W.heap.size + 1 + 1 + 1 + 1) (W.heap.size + 1 + 1) n W.heap.size lv X (((((W.alloc (.cells #[] 2)).alloc (.cells #[] 2)).alloc (.cells (madeCells #[.int .i64 0] n) 2)).alloc (.cells #[] 22)).alloc (.cells #[.int .i64 n, .slice (some ⟨W.heap.size, 0, none⟩) 0 0, .slice (some ⟨W.heap.size + 1, 0, none⟩) 0 0, .slice (some ⟨W.heap.size + 1 + 1, 0, none⟩) n n, .slice (some ⟨W.heap.size + 1 + 1 + 1, 0, none⟩) 0 0] 25))
      (.slice (some ⟨W.heap.size, 0, none⟩) 0 0) (.slice (some ⟨W.heap.size + 1, 0, none⟩) 0 0) (.slice (some ⟨W.heap.size + 1 + 1 + 1, 0, none⟩) 0 0) (.slice (some ⟨W.heap.size, 0, none⟩) 0 0) (.slice (some ⟨W.heap.size + 1, 0, none⟩) 0 0) (.slice (some ⟨W.heap.size + 1 + 1 + 1, 0, none⟩) 0 0) (.slice none 0 0) [] [] [] (fun _ => 0) 0 U D := by
  have hlt := hR.lt
  have hq2 := hR.2.1
  have b1 := bel_box W (.cells #[] 2)
  have b2 := bel_box (W.alloc (.cells #[] 2)) (.cells #[] 2)
  have b3 := bel_box ((W.alloc (.cells #[] 2)).alloc (.cells #[] 2)) (.cells (madeCells #[.int .i64 0] n) 2)
  have b4 := bel_box (((W.alloc (.cells #[] 2)).alloc (.cells #[] 2)).alloc (.cells (madeCells #[.int .i64 0] n) 2)) (.cells #[] 22)
  have b5 := bel_box ((((W.alloc (.cells #[] 2)).alloc (.cells #[] 2)).alloc (.cells (madeCells #[.int .i64 0] n) 2)).alloc (.cells #[] 22)) (.cells #[.int .i64 n, .slice (some ⟨W.heap.size, 0, none⟩) 0 0, .slice (some ⟨W.heap.size + 1, 0, none⟩) 0 0, .slice (some ⟨W.heap.size + 1 + 1, 0, none⟩) n n, .slice (some ⟨W.heap.size + 1 + 1 + 1, 0, none⟩) 0 0] 25)
  refine ⟨((((hR.alloc _).alloc _).alloc _).alloc _).alloc _, ⟨?_, ?_⟩, ?_, ?_, ?_, ?_, ?_, Own.nil _ _ _, fun j hj => absurd hj (Nat.not_lt_zero _), ((((hO.keptB b1).keptB b2).keptB b3).keptB b4).keptB b5, by omega⟩
  · intro v hv k hk
    simp only [gqL, List.range_zero, List.map_nil, List.mem_cons, List.not_mem_nil, or_false] at hv
    rcases hv with rfl | rfl | rfl | rfl | rfl | rfl | rfl <;> simp [blk, Value.ownBlock] at hk <;> simp <;> omega
  · simp [gqL, Dj, blk, Value.ownBlock]
    omega
  · have h := World.rowIs_alloc ((((W.alloc (.cells #[] 2)).alloc (.cells #[] 2)).alloc (.cells (madeCells #[.int .i64 0] n) 2)).alloc (.cells #[] 22)) #[.int .i64 n, .slice (some ⟨W.heap.size, 0, none⟩) 0 0, .slice (some ⟨W.heap.size + 1, 0, none⟩) 0 0, .slice (some ⟨W.heap.size + 1 + 1, 0, none⟩) n n, .slice (some ⟨W.heap.size + 1 + 1 + 1, 0, none⟩) 0 0] 25 (rowD n (.slice (some ⟨W.heap.size, 0, none⟩) 0 0) (.slice (some ⟨W.heap.size + 1, 0, none⟩) 0 0) (.slice (some ⟨W.heap.size + 1 + 1, 0, none⟩) n n) (.slice (some ⟨W.heap.size + 1 + 1 + 1, 0, none⟩) 0 0)) (fun i hi => by
      have : i = 0 ∨ i = 1 ∨ i = 2 ∨ i = 3 ∨ i = 4 := by simp at hi; omega
      rcases this with rfl | rfl | rfl | rfl | rfl <;> rfl)
    simp only [World.size_alloc] at h
    exact h
  · have h := World.rowIs_made ((W.alloc (.cells #[] 2)).alloc (.cells #[] 2)) (.int .i64 0) n 2
    have h2 := rowIs_bel (rowIs_bel h b4) b5
    simp only [World.size_alloc] at h2
    exact h2
  · exact ((((Own.empty' (Nat.le_refl _) rfl).kept b2).kept b3).kept b4).kept b5
  · exact (((Own.empty' (by simp) (by simp)).kept b3).kept b4).kept b5
  · have h := World.ownsRow_made (base := W.heap.size) (size := 1) (e := 22) (((W.alloc (.cells #[] 2)).alloc (.cells #[] 2)).alloc (.cells (madeCells #[.int .i64 0] n) 2)) #[] 0 (by simp; omega) (by simp [maxLen]) (by simp)
    have h2 := ownsRow_bel h b5
    simp only [World.size_alloc] at h2
    exact h2
end Go.Proofs.Ytllbjckbinolmaa
