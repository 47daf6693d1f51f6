/-
  Chapter 3: the reference's l03Poset: a category in the making, its tables, the numbers' rows and the composites' rows growing side by side.
-/
import Derived.Test.YtmigbcadldkmfaaPoC
import Derived.Test.YtmigbcadldkmfaaMono3
namespace Go.Proofs.Ytmigbcadldkmfaa
open Go.RowKit

theorem Sep.perm {w : World} {vs us : List Value} (h : Sep w vs) (hp : List.Perm vs us) : Sep w us :=
  ⟨fun v hv => h.lt v (hp.mem_iff.2 hv), (List.Perm.pairwise_iff (fun {_ _} h => Dj.symm h) hp).1 h.pw⟩
theorem Sep.setNew {w w' : World} {vs : List Value} (h : Sep w vs) (i : Nat) {v : Value} (hv : ∀ k, v.ownBlock = some k → w.heap.size ≤ k ∧ k < w'.heap.size) (hs : w.heap.size ≤ w'.heap.size) : Sep w' (vs.set i v) := by
  refine ⟨fun u hu k hk => ?_, ?_⟩
  · rcases List.mem_or_eq_of_mem_set hu with hu | hu
    · exact Nat.lt_of_lt_of_le (h.lt u hu k hk) hs
    · subst hu; exact (hv k hk).2
  · apply List.pairwise_iff_getElem.2
    intro a b ha hb hab
    rw [List.length_set] at ha hb
    have e1 : vs[a]? = some vs[a] := List.getElem?_eq_getElem ha
    have e2 : vs[b]? = some vs[b] := List.getElem?_eq_getElem hb
    rw [List.getElem_set, List.getElem_set]
    by_cases ea : i = a <;> by_cases eb : i = b
    · omega
    · rw [if_pos ea, if_neg eb]
      exact (Dj.of_lt (N := w.heap.size) (h.at b e2) (fun k hk => (hv k hk).1)).symm
    · rw [if_neg ea, if_pos eb]
      exact Dj.of_lt (N := w.heap.size) (h.at a e1) (fun k hk => (hv k hk).1)
    · rw [if_neg ea, if_neg eb]
      exact h.dj a b e1 e2 (by omega)
section
variable {P : Program} {w : World}
/-- append(out, u), u a value of one cell. -/
theorem appV {B : Nat} {u v : Value} {n : Nat} {xs : List Value} {e t : TypeId} (hown : w.ownsRow B e 1 v n xs) (hu : u.oneCell' = true) (hl : n < 4294967296) (hB : B ≤ w.heap.size)
    (ht : P.underlying t = some (.slice e)) (hinfo : (P.info? e).map (fun i => (i.zero, i.size, i.bytes)) = some (some (.slice none 0 0), 1, 24))
    {ops : Array Oper} {rest : List Oper} {o : Oper} {a : Act} {Q : Exit → Act → World → Prop} (hgd : o.guard = none) (s y : Operand)
    (ho : o.op = .call { callee := .builtin .append, args := #[s, y], argTypes := #[t, t] })
    (hs : a.eval s = v) (hy : a.eval y = .slice (some ⟨w.heap.size, 0, none⟩) 1 1)
    (h : ∀ v' w', w'.ownsRow B e 1 v' (n + 1) (xs ++ [u]) → Grew w w' v v' → wpList P ops Q rest (a.put o.dst v') w') : Hold (wpList P ops Q (o :: rest) a (w.alloc (.cells #[u] e))) := by
  show wpList P ops Q (o :: rest) a (w.alloc (.cells #[u] e))
  obtain ⟨i, hi, hz0, hz1, hz2⟩ := info_parts hinfo
  refine wpList_append_own2 hgd s y t ho B e i (.slice none 0 0) 1 24 ht hi hz0 hz1 hz2 rfl (by decide) v n _ hs (hown.alloc _) ⟨w.heap.size, 0, none⟩ 1 1 [u] hy rfl ?_ ?_ ?_ ?_ ?_ ?_
  · intro j x hj
    match j, hj with
    | 0, hj => simp at hj; subst hj; simp [Addr.add]
  · intro x hx; simp at hx; subst hx; exact hu
  · unfold maxLen; omega
  · omega
  · simp; omega
  · intro v' w' h2 h3
    exact h v' w' h2 h3.of_alloc
end
/-- The cells of the category. -/
def rowD (n : Int) (rf rt ri rc : Value) (i : Nat) : Value := if i = 0 then .int .i64 n else if i = 1 then rf else if i = 2 then rt else if i = 3 then ri else rc
def qsL (q c : Nat) (vf vt vi vc vn vr : Value) (k : Nat) (V : Nat → Value) (m : Nat) (U : Nat → Value) : List Value :=
  blk q :: blk c :: vf :: vt :: vi :: vc :: vn :: vr :: ((List.range k).map V ++ (List.range m).map U)
theorem qsL_V {q c : Nat} {vf vt vi vc vn vr : Value} {k : Nat} {V : Nat → Value} {m : Nat} {U : Nat → Value} {j : Nat} (hj : j < k) : (qsL q c vf vt vi vc vn vr k V m U)[j + 8]? = some (V j) := by
  show ((List.range k).map V ++ (List.range m).map U)[j]? = _
  rw [List.getElem?_append_left (by simpa using hj)]
  simp [hj]
theorem qsL_U {q c : Nat} {vf vt vi vc vn vr : Value} {k : Nat} {V : Nat → Value} {m : Nat} {U : Nat → Value} {j : Nat} (hj : j < m) : (qsL q c vf vt vi vc vn vr k V m U)[k + j + 8]? = some (U j) := by
  show ((List.range k).map V ++ (List.range m).map U)[k + j]? = _
  rw [List.getElem?_append_right (by simp)]
  simp [hj]
/-- A category in block c that grows: its cells hold rf, rt, ri, rc; owned are vf .. vr; block q is the result's; the numbers' rows are V, the composites' rows U. -/
structure QS (w : World) (q c : Nat) (n : Int) (wr : World) (rf rt ri rc vf vt vi vc vn vr : Value) (F T I R : List Int) (k : Nat) (V : Nat → Value) (D : Nat → List Int) (m : Nat) (U : Nat → Value) (G : Nat → List Int) : Prop where
  rs : RS w q 25 wr
  sep : Sep wr (qsL q c vf vt vi vc vn vr k V m U)
  row : wr.rowIs c 25 5 (rowD n rf rt ri rc)
  of : Own 2 wr (q + 1) vf F
  ot : Own 2 wr (q + 1) vt T
  oi : Own 2 wr (q + 1) vi I
  oc : wr.ownsRow (q + 1) 22 1 vc m ((List.range m).map U)
  on : wr.ownsRow (q + 1) 22 1 vn k ((List.range k).map V)
  or : Own 2 wr (q + 1) vr R
  oV : ∀ j, j < k → Own 2 wr (q + 1) (V j) (D j)
  oU : ∀ j, j < m → Own 2 wr (q + 1) (U j) (G j)
  lt : w.heap.size ≤ q ∧ q < c
section
variable {w wr w1 : World} {q c : Nat} {n : Int} {rf rt ri rc vf vt vi vc vn vr : Value} {F T I R : List Int} {k m : Nat} {V U : Nat → Value} {D G : Nat → List Int}
theorem QS.facts (h : QS w q c n wr rf rt ri rc vf vt vi vc vn vr F T I R k V D m U G) : wr.cell? ⟨c, 0, none⟩ = some (.int .i64 n) ∧ wr.cell? ⟨c, 1, none⟩ = some rf ∧ wr.cell? ⟨c, 2, none⟩ = some rt ∧ wr.cell? ⟨c, 3, none⟩ = some ri ∧ wr.cell? ⟨c, 4, none⟩ = some rc ∧
    wr.frozen? ⟨c, 1, none⟩ = false ∧ wr.frozen? ⟨c, 2, none⟩ = false ∧ wr.frozen? ⟨c, 3, none⟩ = false ∧ wr.frozen? ⟨c, 4, none⟩ = false :=
  ⟨h.row.cell (show 0 < 5 by omega), h.row.cell (show 1 < 5 by omega), h.row.cell (show 2 < 5 by omega), h.row.cell (show 3 < 5 by omega), h.row.cell (show 4 < 5 by omega), h.row.frozen _, h.row.frozen _, h.row.frozen _, h.row.frozen _⟩
theorem ownsRow_bel {E : TypeId} {w w1 : World} {B sz n : Nat} {v : Value} {xs : List Value} (h : w.ownsRow B E sz v n xs) (hb : Below w.heap.size w w1) : w1.ownsRow B E sz v n xs :=
  h.kept (row := none) ⟨hb.os, hb.tape, hb.output, hb.size, fun k hk _ => hb.block k hk⟩ (by cases v.ownBlock with
    | none => exact .inl rfl
    | some k => exact .inr (fun e => by cases e))
theorem QS.bel (h : QS w q c n wr rf rt ri rc vf vt vi vc vn vr F T I R k V D m U G) (hb : Below wr.heap.size wr w1) : QS w q c n w1 rf rt ri rc vf vt vi vc vn vr F T I R k V D m U G :=
  ⟨h.rs.call hb, h.sep.up hb.size, rowIs_bel h.row hb, h.of.kept hb, h.ot.kept hb, h.oi.kept hb, ownsRow_bel h.oc hb, ownsRow_bel h.on hb, h.or.kept hb, fun j hj => (h.oV j hj).kept hb, fun j hj => (h.oU j hj).kept hb, h.lt⟩
theorem QS.growF (h : QS w q c n wr rf rt ri rc vf vt vi vc vn vr F T I R k V D m U G) {vf' : Value} {F' : List Int} (ho : Own 2 w1 (q + 1) vf' F') (hg : Grew wr w1 vf vf') : QS w q c n w1 rf rt ri rc vf' vt vi vc vn vr F' T I R k V D m U G :=
  ⟨h.rs.grow hg (h.sep.dj 0 2 rfl rfl (by omega)) (fun k hk => by have := (h.of.lt k hk).1; have := h.lt; omega), h.sep.grew 2 rfl hg (fun k hk => (ho.lt k hk).2), rowIs_grew h.row hg (h.sep.dj 1 2 rfl rfl (by omega)),
    ho, h.ot.keptG hg (h.sep.dj 3 2 rfl rfl (by omega)), h.oi.keptG hg (h.sep.dj 4 2 rfl rfl (by omega)), ownsRow_grew h.oc hg (h.sep.dj 5 2 rfl rfl (by omega)), ownsRow_grew h.on hg (h.sep.dj 6 2 rfl rfl (by omega)), h.or.keptG hg (h.sep.dj 7 2 rfl rfl (by omega)), fun j hj => (h.oV j hj).keptG hg (h.sep.dj (j + 8) 2 (qsL_V hj) rfl (by omega)), fun j hj => (h.oU j hj).keptG hg (h.sep.dj (k + j + 8) 2 (qsL_U hj) rfl (by omega)), h.lt⟩
theorem QS.growT (h : QS w q c n wr rf rt ri rc vf vt vi vc vn vr F T I R k V D m U G) {vt' : Value} {T' : List Int} (ho : Own 2 w1 (q + 1) vt' T') (hg : Grew wr w1 vt vt') : QS w q c n w1 rf rt ri rc vf vt' vi vc vn vr F T' I R k V D m U G :=
  ⟨h.rs.grow hg (h.sep.dj 0 3 rfl rfl (by omega)) (fun k hk => by have := (h.ot.lt k hk).1; have := h.lt; omega), h.sep.grew 3 rfl hg (fun k hk => (ho.lt k hk).2), rowIs_grew h.row hg (h.sep.dj 1 3 rfl rfl (by omega)),
    h.of.keptG hg (h.sep.dj 2 3 rfl rfl (by omega)), ho, h.oi.keptG hg (h.sep.dj 4 3 rfl rfl (by omega)), ownsRow_grew h.oc hg (h.sep.dj 5 3 rfl rfl (by omega)), ownsRow_grew h.on hg (h.sep.dj 6 3 rfl rfl (by omega)), h.or.keptG hg (h.sep.dj 7 3 rfl rfl (by omega)), fun j hj => (h.oV j hj).keptG hg (h.sep.dj (j + 8) 3 (qsL_V hj) rfl (by omega)), fun j hj => (h.oU j hj).keptG hg (h.sep.dj (k + j + 8) 3 (qsL_U hj) rfl (by omega)), h.lt⟩
theorem QS.growI (h : QS w q c n wr rf rt ri rc vf vt vi vc vn vr F T I R k V D m U G) {vi' : Value} {I' : List Int} (ho : Own 2 w1 (q + 1) vi' I') (hg : Grew wr w1 vi vi') : QS w q c n w1 rf rt ri rc vf vt vi' vc vn vr F T I' R k V D m U G :=
  ⟨h.rs.grow hg (h.sep.dj 0 4 rfl rfl (by omega)) (fun k hk => by have := (h.oi.lt k hk).1; have := h.lt; omega), h.sep.grew 4 rfl hg (fun k hk => (ho.lt k hk).2), rowIs_grew h.row hg (h.sep.dj 1 4 rfl rfl (by omega)),
    h.of.keptG hg (h.sep.dj 2 4 rfl rfl (by omega)), h.ot.keptG hg (h.sep.dj 3 4 rfl rfl (by omega)), ho, ownsRow_grew h.oc hg (h.sep.dj 5 4 rfl rfl (by omega)), ownsRow_grew h.on hg (h.sep.dj 6 4 rfl rfl (by omega)), h.or.keptG hg (h.sep.dj 7 4 rfl rfl (by omega)), fun j hj => (h.oV j hj).keptG hg (h.sep.dj (j + 8) 4 (qsL_V hj) rfl (by omega)), fun j hj => (h.oU j hj).keptG hg (h.sep.dj (k + j + 8) 4 (qsL_U hj) rfl (by omega)), h.lt⟩
theorem QS.growR (h : QS w q c n wr rf rt ri rc vf vt vi vc vn vr F T I R k V D m U G) {vr' : Value} {R' : List Int} (ho : Own 2 w1 (q + 1) vr' R') (hg : Grew wr w1 vr vr') : QS w q c n w1 rf rt ri rc vf vt vi vc vn vr' F T I R' k V D m U G :=
  ⟨h.rs.grow hg (h.sep.dj 0 7 rfl rfl (by omega)) (fun k hk => by have := (h.or.lt k hk).1; have := h.lt; omega), h.sep.grew 7 rfl hg (fun k hk => (ho.lt k hk).2), rowIs_grew h.row hg (h.sep.dj 1 7 rfl rfl (by omega)),
    h.of.keptG hg (h.sep.dj 2 7 rfl rfl (by omega)), h.ot.keptG hg (h.sep.dj 3 7 rfl rfl (by omega)), h.oi.keptG hg (h.sep.dj 4 7 rfl rfl (by omega)), ownsRow_grew h.oc hg (h.sep.dj 5 7 rfl rfl (by omega)), ownsRow_grew h.on hg (h.sep.dj 6 7 rfl rfl (by omega)), ho, fun j hj => (h.oV j hj).keptG hg (h.sep.dj (j + 8) 7 (qsL_V hj) rfl (by omega)), fun j hj => (h.oU j hj).keptG hg (h.sep.dj (k + j + 8) 7 (qsL_U hj) rfl (by omega)), h.lt⟩
theorem QS.pushN (h : QS w q c n wr rf rt ri rc vf vt vi vc vn vr F T I R k V D m U G) {vn' : Value} (ho : w1.ownsRow (q + 1) 22 1 vn' (k + 1) ((List.range k).map V ++ [vr])) (hg : Grew wr w1 vn vn') :
    QS w q c n w1 rf rt ri rc vf vt vi vc vn' (.slice none 0 0) F T I [] (k + 1) (fun j => if j < k then V j else vr) (fun j => if j < k then D j else R) m U G := by
  have e0 : (List.range (k + 1)).map (fun j => if j < k then V j else vr) = (List.range k).map V ++ [vr] := by
    rw [List.range_succ, List.map_append]
    congr 1
    · exact List.map_congr_left fun j hj => if_pos (List.mem_range.1 hj)
    · simp
  have hrow : w1.ownsRow (q + 1) 22 1 vn' (k + 1) ((List.range (k + 1)).map (fun j => if j < k then V j else vr)) := by rw [e0]; exact ho
  have s1 := h.sep.grew 6 rfl hg (fun k hk => (ho.lt k hk).2)
  have s2 : Sep w1 (qsL q c vf vt vi vc vn' (.slice none 0 0) (k + 1) (fun j => if j < k then V j else vr) m U) := by
    have s3 : Sep w1 (blk q :: blk c :: vf :: vt :: vi :: vc :: vn' :: ((List.range k).map V ++ vr :: (List.range m).map U)) := s1.perm (.cons _ (.cons _ (.cons _ (.cons _ (.cons _ (.cons _ (.cons _ (List.perm_middle (l₁ := (List.range k).map V) (a := vr) (l₂ := (List.range m).map U)).symm)))))))
    have s4 : Sep w1 (.slice none 0 0 :: (blk q :: blk c :: vf :: vt :: vi :: vc :: vn' :: ((List.range k).map V ++ vr :: (List.range m).map U))) := s3.new (fun k hk => by simp [Value.ownBlock] at hk) (Nat.le_refl _)
    have e1 : qsL q c vf vt vi vc vn' (.slice none 0 0) (k + 1) (fun j => if j < k then V j else vr) m U = blk q :: blk c :: vf :: vt :: vi :: vc :: vn' :: .slice none 0 0 :: ((List.range k).map V ++ vr :: (List.range m).map U) := by
      unfold qsL; rw [e0]; simp
    rw [e1]
    refine s4.perm ?_
    have hp := List.perm_middle (l₁ := [blk q, blk c, vf, vt, vi, vc, vn']) (a := Value.slice none 0 0) (l₂ := (List.range k).map V ++ vr :: (List.range m).map U)
    exact hp.symm
  exact ⟨h.rs.grow hg (h.sep.dj 0 6 rfl rfl (by omega)) (fun k hk => by have := (h.on.lt k hk).1; have := h.lt; omega), s2, rowIs_grew h.row hg (h.sep.dj 1 6 rfl rfl (by omega)),
    h.of.keptG hg (h.sep.dj 2 6 rfl rfl (by omega)), h.ot.keptG hg (h.sep.dj 3 6 rfl rfl (by omega)), h.oi.keptG hg (h.sep.dj 4 6 rfl rfl (by omega)), ownsRow_grew h.oc hg (h.sep.dj 5 6 rfl rfl (by omega)), hrow, Own.nil _ _ _,
    fun j hj => by
      try dsimp only
      by_cases e : j < k
      · rw [if_pos e, if_pos e]
        have hj := e
        exact (h.oV j hj).keptG hg (h.sep.dj (j + 8) 6 (qsL_V hj) rfl (by omega))
      · rw [if_neg e, if_neg e]
        exact h.or.keptG hg (h.sep.dj 7 6 rfl rfl (by omega)),
    fun j hj => (h.oU j hj).keptG hg (h.sep.dj (k + j + 8) 6 (qsL_U hj) rfl (by omega)), h.lt⟩
theorem QS.pushC (h : QS w q c n wr rf rt ri rc vf vt vi vc vn vr F T I R k V D m U G) {vc' : Value} (ho : w1.ownsRow (q + 1) 22 1 vc' (m + 1) ((List.range m).map U ++ [vr])) (hg : Grew wr w1 vc vc') :
    QS w q c n w1 rf rt ri rc vf vt vi vc' vn (.slice none 0 0) F T I [] k V D (m + 1) (fun j => if j < m then U j else vr) (fun j => if j < m then G j else R) := by
  have e0 : (List.range (m + 1)).map (fun j => if j < m then U j else vr) = (List.range m).map U ++ [vr] := by
    rw [List.range_succ, List.map_append]
    congr 1
    · exact List.map_congr_left fun j hj => if_pos (List.mem_range.1 hj)
    · simp
  have hrow : w1.ownsRow (q + 1) 22 1 vc' (m + 1) ((List.range (m + 1)).map (fun j => if j < m then U j else vr)) := by rw [e0]; exact ho
  have s1 := h.sep.grew 5 rfl hg (fun k hk => (ho.lt k hk).2)
  have s2 : Sep w1 (qsL q c vf vt vi vc' vn (.slice none 0 0) k V (m + 1) (fun j => if j < m then U j else vr)) := by
    have s3 : Sep w1 (blk q :: blk c :: vf :: vt :: vi :: vc' :: vn :: ((List.range k).map V ++ (List.range m).map U ++ [vr])) := s1.perm (.cons _ (.cons _ (.cons _ (.cons _ (.cons _ (.cons _ (.cons _ (List.perm_append_singleton vr ((List.range k).map V ++ (List.range m).map U)).symm)))))))
    have s4 : Sep w1 (.slice none 0 0 :: (blk q :: blk c :: vf :: vt :: vi :: vc' :: vn :: ((List.range k).map V ++ (List.range m).map U ++ [vr]))) := s3.new (fun k hk => by simp [Value.ownBlock] at hk) (Nat.le_refl _)
    have e1 : qsL q c vf vt vi vc' vn (.slice none 0 0) k V (m + 1) (fun j => if j < m then U j else vr) = blk q :: blk c :: vf :: vt :: vi :: vc' :: vn :: .slice none 0 0 :: ((List.range k).map V ++ (List.range m).map U ++ [vr]) := by
      unfold qsL; rw [e0]; simp
    rw [e1]
    refine s4.perm ?_
    have hp := List.perm_middle (l₁ := [blk q, blk c, vf, vt, vi, vc', vn]) (a := Value.slice none 0 0) (l₂ := (List.range k).map V ++ (List.range m).map U ++ [vr])
    exact hp.symm
  exact ⟨h.rs.grow hg (h.sep.dj 0 5 rfl rfl (by omega)) (fun k hk => by have := (h.oc.lt k hk).1; have := h.lt; omega), s2, rowIs_grew h.row hg (h.sep.dj 1 5 rfl rfl (by omega)),
    h.of.keptG hg (h.sep.dj 2 5 rfl rfl (by omega)), h.ot.keptG hg (h.sep.dj 3 5 rfl rfl (by omega)), h.oi.keptG hg (h.sep.dj 4 5 rfl rfl (by omega)), hrow, ownsRow_grew h.on hg (h.sep.dj 6 5 rfl rfl (by omega)), Own.nil _ _ _,
    fun j hj => (h.oV j hj).keptG hg (h.sep.dj (j + 8) 5 (qsL_V hj) rfl (by omega)),
    fun j hj => by
      try dsimp only
      by_cases e : j < m
      · rw [if_pos e, if_pos e]
        have hj := e
        exact (h.oU j hj).keptG hg (h.sep.dj (k + j + 8) 5 (qsL_U hj) rfl (by omega))
      · rw [if_neg e, if_neg e]
        exact h.or.keptG hg (h.sep.dj 7 5 rfl rfl (by omega)), h.lt⟩
theorem QS.setF (h : QS w q c n wr rf rt ri rc vf vt vi vc vn vr F T I R k V D m U G) : QS w q c n (wr.setCell ⟨c, 1, none⟩ vf) vf rt ri rc vf vt vi vc vn vr F T I R k V D m U G :=
  ⟨h.rs.grow (grew_set (k := c) (i := 1) vf) (h.sep.dj 0 1 rfl rfl (by omega)) (fun k hk => by have e : some c = some k := hk; injection e with e; have := h.lt; omega), h.sep.grew 1 rfl (grew_set (k := c) (i := 1) vf) (fun k hk => by have e : some c = some k := hk; injection e with e; subst e; have := h.row.lt; simpa [World.setCell] using this),
    (h.row.set 1 vf).congr fun k hk => (by simp only [rowD]; have : k = 0 ∨ k = 1 ∨ k = 2 ∨ k = 3 ∨ k = 4 := (by omega); rcases this with rfl | rfl | rfl | rfl | rfl <;> simp),
    h.of.keptG (grew_set (k := c) (i := 1) vf) (h.sep.dj 2 1 rfl rfl (by omega)), h.ot.keptG (grew_set (k := c) (i := 1) vf) (h.sep.dj 3 1 rfl rfl (by omega)), h.oi.keptG (grew_set (k := c) (i := 1) vf) (h.sep.dj 4 1 rfl rfl (by omega)), ownsRow_grew h.oc (grew_set (k := c) (i := 1) vf) (h.sep.dj 5 1 rfl rfl (by omega)), ownsRow_grew h.on (grew_set (k := c) (i := 1) vf) (h.sep.dj 6 1 rfl rfl (by omega)), h.or.keptG (grew_set (k := c) (i := 1) vf) (h.sep.dj 7 1 rfl rfl (by omega)),
    fun j hj => (h.oV j hj).keptG (grew_set (k := c) (i := 1) vf) (h.sep.dj (j + 8) 1 (qsL_V hj) rfl (by omega)), fun j hj => (h.oU j hj).keptG (grew_set (k := c) (i := 1) vf) (h.sep.dj (k + j + 8) 1 (qsL_U hj) rfl (by omega)), h.lt⟩
theorem QS.setT (h : QS w q c n wr rf rt ri rc vf vt vi vc vn vr F T I R k V D m U G) : QS w q c n (wr.setCell ⟨c, 2, none⟩ vt) rf vt ri rc vf vt vi vc vn vr F T I R k V D m U G :=
  ⟨h.rs.grow (grew_set (k := c) (i := 2) vt) (h.sep.dj 0 1 rfl rfl (by omega)) (fun k hk => by have e : some c = some k := hk; injection e with e; have := h.lt; omega), h.sep.grew 1 rfl (grew_set (k := c) (i := 2) vt) (fun k hk => by have e : some c = some k := hk; injection e with e; subst e; have := h.row.lt; simpa [World.setCell] using this),
    (h.row.set 2 vt).congr fun k hk => (by simp only [rowD]; have : k = 0 ∨ k = 1 ∨ k = 2 ∨ k = 3 ∨ k = 4 := (by omega); rcases this with rfl | rfl | rfl | rfl | rfl <;> simp),
    h.of.keptG (grew_set (k := c) (i := 2) vt) (h.sep.dj 2 1 rfl rfl (by omega)), h.ot.keptG (grew_set (k := c) (i := 2) vt) (h.sep.dj 3 1 rfl rfl (by omega)), h.oi.keptG (grew_set (k := c) (i := 2) vt) (h.sep.dj 4 1 rfl rfl (by omega)), ownsRow_grew h.oc (grew_set (k := c) (i := 2) vt) (h.sep.dj 5 1 rfl rfl (by omega)), ownsRow_grew h.on (grew_set (k := c) (i := 2) vt) (h.sep.dj 6 1 rfl rfl (by omega)), h.or.keptG (grew_set (k := c) (i := 2) vt) (h.sep.dj 7 1 rfl rfl (by omega)),
    fun j hj => (h.oV j hj).keptG (grew_set (k := c) (i := 2) vt) (h.sep.dj (j + 8) 1 (qsL_V hj) rfl (by omega)), fun j hj => (h.oU j hj).keptG (grew_set (k := c) (i := 2) vt) (h.sep.dj (k + j + 8) 1 (qsL_U hj) rfl (by omega)), h.lt⟩
theorem QS.setI (h : QS w q c n wr rf rt ri rc vf vt vi vc vn vr F T I R k V D m U G) : QS w q c n (wr.setCell ⟨c, 3, none⟩ vi) rf rt vi rc vf vt vi vc vn vr F T I R k V D m U G :=
  ⟨h.rs.grow (grew_set (k := c) (i := 3) vi) (h.sep.dj 0 1 rfl rfl (by omega)) (fun k hk => by have e : some c = some k := hk; injection e with e; have := h.lt; omega), h.sep.grew 1 rfl (grew_set (k := c) (i := 3) vi) (fun k hk => by have e : some c = some k := hk; injection e with e; subst e; have := h.row.lt; simpa [World.setCell] using this),
    (h.row.set 3 vi).congr fun k hk => (by simp only [rowD]; have : k = 0 ∨ k = 1 ∨ k = 2 ∨ k = 3 ∨ k = 4 := (by omega); rcases this with rfl | rfl | rfl | rfl | rfl <;> simp),
    h.of.keptG (grew_set (k := c) (i := 3) vi) (h.sep.dj 2 1 rfl rfl (by omega)), h.ot.keptG (grew_set (k := c) (i := 3) vi) (h.sep.dj 3 1 rfl rfl (by omega)), h.oi.keptG (grew_set (k := c) (i := 3) vi) (h.sep.dj 4 1 rfl rfl (by omega)), ownsRow_grew h.oc (grew_set (k := c) (i := 3) vi) (h.sep.dj 5 1 rfl rfl (by omega)), ownsRow_grew h.on (grew_set (k := c) (i := 3) vi) (h.sep.dj 6 1 rfl rfl (by omega)), h.or.keptG (grew_set (k := c) (i := 3) vi) (h.sep.dj 7 1 rfl rfl (by omega)),
    fun j hj => (h.oV j hj).keptG (grew_set (k := c) (i := 3) vi) (h.sep.dj (j + 8) 1 (qsL_V hj) rfl (by omega)), fun j hj => (h.oU j hj).keptG (grew_set (k := c) (i := 3) vi) (h.sep.dj (k + j + 8) 1 (qsL_U hj) rfl (by omega)), h.lt⟩
theorem QS.setC (h : QS w q c n wr rf rt ri rc vf vt vi vc vn vr F T I R k V D m U G) : QS w q c n (wr.setCell ⟨c, 4, none⟩ vc) rf rt ri vc vf vt vi vc vn vr F T I R k V D m U G :=
  ⟨h.rs.grow (grew_set (k := c) (i := 4) vc) (h.sep.dj 0 1 rfl rfl (by omega)) (fun k hk => by have e : some c = some k := hk; injection e with e; have := h.lt; omega), h.sep.grew 1 rfl (grew_set (k := c) (i := 4) vc) (fun k hk => by have e : some c = some k := hk; injection e with e; subst e; have := h.row.lt; simpa [World.setCell] using this),
    (h.row.set 4 vc).congr fun k hk => (by simp only [rowD]; have : k = 0 ∨ k = 1 ∨ k = 2 ∨ k = 3 ∨ k = 4 := (by omega); rcases this with rfl | rfl | rfl | rfl | rfl <;> simp),
    h.of.keptG (grew_set (k := c) (i := 4) vc) (h.sep.dj 2 1 rfl rfl (by omega)), h.ot.keptG (grew_set (k := c) (i := 4) vc) (h.sep.dj 3 1 rfl rfl (by omega)), h.oi.keptG (grew_set (k := c) (i := 4) vc) (h.sep.dj 4 1 rfl rfl (by omega)), ownsRow_grew h.oc (grew_set (k := c) (i := 4) vc) (h.sep.dj 5 1 rfl rfl (by omega)), ownsRow_grew h.on (grew_set (k := c) (i := 4) vc) (h.sep.dj 6 1 rfl rfl (by omega)), h.or.keptG (grew_set (k := c) (i := 4) vc) (h.sep.dj 7 1 rfl rfl (by omega)),
    fun j hj => (h.oV j hj).keptG (grew_set (k := c) (i := 4) vc) (h.sep.dj (j + 8) 1 (qsL_V hj) rfl (by omega)), fun j hj => (h.oU j hj).keptG (grew_set (k := c) (i := 4) vc) (h.sep.dj (k + j + 8) 1 (qsL_U hj) rfl (by omega)), h.lt⟩
theorem QS.newR (h : QS w q c n wr rf rt ri rc vf vt vi vc vn vr F T I R k V D m U G) : QS w q c n (wr.alloc (.cells #[] 2)) rf rt ri rc vf vt vi vc vn (.slice (some ⟨wr.heap.size, 0, none⟩) 0 0) F T I [] k V D m U G :=
  ⟨h.rs.alloc _, h.sep.setNew 7 (fun k hk => by have e : some wr.heap.size = some k := hk; injection e with e; subst e; simp) (by simp), rowIs_bel h.row (bel_box wr (.cells #[] 2)),
    h.of.kept (bel_box wr (.cells #[] 2)), h.ot.kept (bel_box wr (.cells #[] 2)), h.oi.kept (bel_box wr (.cells #[] 2)), ownsRow_bel h.oc (bel_box wr (.cells #[] 2)), ownsRow_bel h.on (bel_box wr (.cells #[] 2)), Own.empty _ _ _ (by have := h.rs.lt; omega), fun j hj => (h.oV j hj).kept (bel_box wr (.cells #[] 2)), fun j hj => (h.oU j hj).kept (bel_box wr (.cells #[] 2)), h.lt⟩
theorem QS.dropR (h : QS w q c n wr rf rt ri rc vf vt vi vc vn vr F T I R k V D m U G) : QS w q c n wr rf rt ri rc vf vt vi vc vn (.slice none 0 0) F T I [] k V D m U G :=
  ⟨h.rs, h.sep.setNew 7 (fun k hk => by simp [Value.ownBlock] at hk) (Nat.le_refl _), h.row, h.of, h.ot, h.oi, h.oc, h.on, Own.nil _ _ _, h.oV, h.oU, h.lt⟩
end

theorem own_up {E : TypeId} {w : World} {B : Nat} {v : Value} {xs : List Int} (h : Own E w B v xs) (o : Obj) : Own E (w.alloc o) B v xs := h.alloc o
theorem QS.start {w W0 : World} {q N : Nat} (hR : RS w q 25 W0) (hN : W0.heap.size = N) (n : Int) (V U : Nat → Value) (D G : Nat → List Int) :
    QS w q (N + 1 + 1 + 1 + 1 + 1) n ((((((W0.alloc (.cells #[] 22)).alloc (.cells #[] 2)).alloc (.cells #[] 2)).alloc (.cells #[] 2)).alloc (.cells #[] 22)).alloc (.cells #[.int .i64 n, .slice (some ⟨N + 1, 0, none⟩) 0 0, .slice (some ⟨N + 1 + 1, 0, none⟩) 0 0, .slice (some ⟨N + 1 + 1 + 1, 0, none⟩) 0 0, .slice (some ⟨N + 1 + 1 + 1 + 1, 0, none⟩) 0 0] 25))
      (.slice (some ⟨N + 1, 0, none⟩) 0 0) (.slice (some ⟨N + 1 + 1, 0, none⟩) 0 0) (.slice (some ⟨N + 1 + 1 + 1, 0, none⟩) 0 0) (.slice (some ⟨N + 1 + 1 + 1 + 1, 0, none⟩) 0 0) (.slice (some ⟨N + 1, 0, none⟩) 0 0) (.slice (some ⟨N + 1 + 1, 0, none⟩) 0 0) (.slice (some ⟨N + 1 + 1 + 1, 0, none⟩) 0 0) (.slice (some ⟨N + 1 + 1 + 1 + 1, 0, none⟩) 0 0) (.slice (some ⟨N, 0, none⟩) 0 0) (.slice none 0 0) [] [] [] [] 0 V D 0 U G := by
  have hq := hR.lt
  have hq2 := hR.2.1
  subst hN
  refine ⟨RS.alloc (RS.alloc (RS.alloc (RS.alloc (RS.alloc (RS.alloc hR _) _) _) _) _) _, ⟨?_, ?_⟩, ?_, ?_, ?_, ?_, ?_, ?_, Own.nil _ _ _, fun j hj => absurd hj (Nat.not_lt_zero _), fun j hj => absurd hj (Nat.not_lt_zero _), by omega⟩
  · intro v hv k hk
    simp only [qsL, List.range_zero, List.map_nil, List.append_nil, List.mem_cons, List.not_mem_nil, or_false] at hv
    rcases hv with rfl | rfl | rfl | rfl | rfl | rfl | rfl | rfl <;> simp [blk, Value.ownBlock] at hk <;> simp <;> omega
  · simp [qsL, Dj, blk, Value.ownBlock]
    omega
  · have h := World.rowIs_alloc (((((W0.alloc (.cells #[] 22)).alloc (.cells #[] 2)).alloc (.cells #[] 2)).alloc (.cells #[] 2)).alloc (.cells #[] 22)) #[.int .i64 n, .slice (some ⟨W0.heap.size + 1, 0, none⟩) 0 0, .slice (some ⟨W0.heap.size + 1 + 1, 0, none⟩) 0 0, .slice (some ⟨W0.heap.size + 1 + 1 + 1, 0, none⟩) 0 0, .slice (some ⟨W0.heap.size + 1 + 1 + 1 + 1, 0, none⟩) 0 0] 25 (rowD n (.slice (some ⟨W0.heap.size + 1, 0, none⟩) 0 0) (.slice (some ⟨W0.heap.size + 1 + 1, 0, none⟩) 0 0) (.slice (some ⟨W0.heap.size + 1 + 1 + 1, 0, none⟩) 0 0) (.slice (some ⟨W0.heap.size + 1 + 1 + 1 + 1, 0, none⟩) 0 0)) (fun i hi => by
      have : i = 0 ∨ i = 1 ∨ i = 2 ∨ i = 3 ∨ i = 4 := by simp at hi; omega
      rcases this with rfl | rfl | rfl | rfl | rfl <;> rfl)
    simp only [World.size_alloc] at h
    exact h
  · exact own_up (own_up (own_up (own_up (Own.empty' (by simp; omega) (by simp)) _) _) _) _
  · exact own_up (own_up (own_up (Own.empty' (by simp; omega) (by simp)) _) _) _
  · exact own_up (own_up (Own.empty' (by simp; omega) (by simp)) _) _
  · have h := (OF.empty (E := 2) (E' := 22) (B := q + 1) (m := W0.heap.size + 1 + 1 + 1 + 1) (w := (((W0.alloc (.cells #[] 22)).alloc (.cells #[] 2)).alloc (.cells #[] 2)).alloc (.cells #[] 2)) (D := G) (by simp; omega) (by simp))
    obtain ⟨V', h1, -⟩ := h
    exact World.ownsRow.alloc h1 _
  · have h := (OF.empty (E := 2) (E' := 22) (B := q + 1) (m := W0.heap.size) (w := W0) (D := G) (by omega) rfl)
    obtain ⟨V', h1, -⟩ := h
    exact World.ownsRow.alloc (World.ownsRow.alloc (World.ownsRow.alloc (World.ownsRow.alloc (World.ownsRow.alloc h1 _) _) _) _) _
/-- A category of the call's own, made of t's pairs, that reads. -/
structure VC (B T : Nat) (w : World) (v : Value) (c : Cat) : Prop where
  view : ∀ W : World, (∀ k, B ≤ k → k < T → W.heap[k]? = w.heap[k]?) → IC W v c
  top : T ≤ w.heap.size
theorem VC.is {B T : Nat} {w : World} {v : Value} {c : Cat} (h : VC B T w v c) : IC w v c := h.view w (fun _ _ _ => rfl)
theorem VC.size {B T : Nat} {w : World} {v : Value} {c : Cat} (_ : VC B T w v c) : True := trivial
theorem VC.kept {B T B' T' : Nat} {w w' : World} {v : Value} {c : Cat} (h : VC B T w v c) (hb : Within B' T' w w') (hd : T ≤ B' ∨ T' ≤ B) : VC B T w' v c :=
  ⟨fun W hW => h.view W fun k h1 h2 => (hW k h1 h2).trans (hb.block k (by omega) (by have := h.top; omega)), Nat.le_trans h.top hb.size⟩
theorem VC.shape5 {B T : Nat} {w : World} {v : Value} {c : Cat} (h : VC B T w v c) : ∃ n aF lF kF aT lT kT aI lI kI aC lC kC, v = .agg #[.int .i64 n, .slice aF lF kF, .slice aT lT kT, .slice aI lI kI, .slice aC lC kC] := by
  obtain ⟨⟨vf, vt, vi, vc, rfl, h1, h2, h3, h4⟩, -⟩ := h.is
  obtain ⟨a1, b1, o1, c1, rfl, -⟩ := h1.ex
  obtain ⟨a2, b2, o2, c2, rfl, -⟩ := h2.ex
  obtain ⟨a3, b3, o3, c3, rfl, -⟩ := h3.ex
  obtain ⟨a4, b4, o4, c4, R4, rfl, -⟩ := h4.ex
  exact ⟨_, _, _, _, _, _, _, _, _, _, _, _, _, rfl⟩
theorem own_agree {E : TypeId} {w W : World} {B : Nat} {v : Value} {xs : List Int} (h : Own E w B v xs) (ha : ∀ k, B ≤ k → k < w.heap.size → W.heap[k]? = w.heap[k]?) : Own E W B v xs := by
  refine ⟨⟨h.row.1, ?_⟩, h.wf, h.len⟩
  rcases h.row.2 with hn | ⟨g, cap, cur, hv, hBg, hg, rest⟩
  · exact .inl hn
  · exact .inr ⟨g, cap, cur, hv, hBg, (ha g hBg (Array.getElem?_eq_some_iff.1 hg).1).trans hg, rest⟩
theorem rows_agree {E : TypeId} {w W : World} {B n sz : Nat} {v : Value} {xs : List Value} (h : w.ownsRow B E sz v n xs) (ha : ∀ k, B ≤ k → k < w.heap.size → W.heap[k]? = w.heap[k]?) : W.ownsRow B E sz v n xs := by
  refine ⟨h.1, ?_⟩
  rcases h.2 with hn | ⟨g, cap, cur, hv, hBg, hg, rest⟩
  · exact .inl hn
  · exact .inr ⟨g, cap, cur, hv, hBg, (ha g hBg (Array.getElem?_eq_some_iff.1 hg).1).trans hg, rest⟩
def PosV (w w' : World) (u : Value) (t : List (List Int)) : Prop := ∃ aF kF aT nT kT aI nI kI aC nC kC, u = .agg #[.int .i64 t.length, .slice aF (prs t).length kF, .slice aT nT kT, .slice aI nI kI, .slice aC nC kC] ∧ VC w.heap.size w'.heap.size w' u (posC t)
theorem Own.sh {E : TypeId} {w : World} {B : Nat} {v : Value} {xs : List Int} (h : Own E w B v xs) : ∃ (a : Option Addr) (g c : Nat), v = .slice a xs.length c ∧ (0 < xs.length → a = some ⟨g, 0, none⟩) := by
  rcases h.row.2 with ⟨rfl, hn⟩ | ⟨g, cap, cur, rfl, -⟩
  · exact ⟨none, 0, 0, by rw [hn], fun h => by omega⟩
  · exact ⟨_, g, cap, rfl, fun _ => rfl⟩
theorem Own.at {E : TypeId} {w : World} {B g n c : Nat} {xs : List Int} (h : Own E w B (.slice (some ⟨g, 0, none⟩) n c) xs) (hn : n = xs.length) {i : Nat} (hi : i < xs.length) : w.cell? ⟨g, i, none⟩ = some (.int .i64 (gi xs i)) := by
  subst hn
  rw [World.ownsRow.cellAt h.row i (by omega), gi_lt hi]
  simp [hi]
theorem rows_sh {E : TypeId} {w : World} {B n : Nat} {v : Value} {xs : List Value} (h : w.ownsRow B E 1 v n xs) : ∃ (a : Option Addr) (g c : Nat), v = .slice a n c ∧ (0 < n → a = some ⟨g, 0, none⟩) := by
  rcases h.2 with ⟨rfl, hn⟩ | ⟨g, cap, cur, rfl, -⟩
  · exact ⟨none, 0, 0, by rw [hn], fun h => by omega⟩
  · exact ⟨_, g, cap, rfl, fun _ => rfl⟩
theorem rows_at {E : TypeId} {w : World} {B g n c : Nat} {V : Nat → Value} (h : w.ownsRow B E 1 (.slice (some ⟨g, 0, none⟩) n c) n ((List.range n).map V)) {i : Nat} (hi : i < n) : w.cell? ⟨g, i, none⟩ = some (V i) := by
  rw [World.ownsRow.cellAt h i (by omega)]
  simp [hi]
theorem iss_rows {E : TypeId} {w : World} {B n : Nat} {v : Value} {U : Nat → Value} {xss : List (List Int)} (h : w.ownsRow B E 1 v n ((List.range n).map U)) (hU : ∀ j, j < n → IS w (U j) (gr xss j)) (hn : n = xss.length) (hl : n ≤ 4294967296) : ISS w v xss := by
  subst hn
  obtain ⟨a, g, c, rfl, ha⟩ := rows_sh h
  refine ⟨⟨a, g, 0, c, U, rfl, ha, fun i hi => ?_, hU⟩, hl⟩
  obtain rfl := ha (by omega)
  rw [Nat.zero_add]
  exact rows_at h hi
theorem rows_off {E : TypeId} {w W : World} {B q n sz : Nat} {v : Value} {xs : List Value} (h : w.ownsRow B E sz v n xs) (hW : Within q (q + 1) w W) (hd : Dj v (blk q)) : W.ownsRow B E sz v n xs :=
  ownsRow_within h hW (fun k hk => by
    have : k ≠ q := by
      rcases hd with hd | hd
      · rw [hk] at hd; cases hd
      · rw [hk] at hd; exact fun x => hd (by rw [x]; rfl)
    omega)
set_option maxHeartbeats 16000000 in
set_option maxRecDepth 100000 in
theorem c_l03Poset {w : World} {v : Value} {t : List (List Int)} (h : ISS w v t) (hsq : Sq 2 t) (h8 : t.length ≤ 8) : Calls Try.prog 24 #[v] w (Mk w fun w' u => PosV w w' u t) := by
  have hlen := h.len
  obtain ⟨ao, b, o, cc, R, rfl, ha, hc, hr⟩ := h.ex
  clear h
  obtain ⟨bR, oR, kR, hv⟩ := rows_view hr (fun i hi => (hsq i hi).1)
  have HV := Lib.hid hv
  have hc2 : ∀ i, i < t.length → w.cell? ⟨b, o + i, none⟩ = some (.slice (some ⟨bR i, oR i, none⟩) t.length (kR i)) := fun i hi => by rw [hc i hi, (HV.out i hi).1]
  have HC := Lib.hid hc2
  have HSQ := Lib.hid hsq
  clear hv hc hc2 hr hsq
  go_enter Try.func24, Try.ntmps24
  go_wp2_with fail
  have B0 : RS w w.heap.size 25 (w.alloc (.cells #[.int .i64 0, .slice none 0 0, .slice none 0 0, .slice none 0 0, .slice none 0 0] 25)) := RS.start (x0 := .int .i64 0) (x1 := .slice none 0 0) (x2 := .slice none 0 0) (x3 := .slice none 0 0) (x4 := .slice none 0 0) 0
  have hN : (w.alloc (.cells #[.int .i64 0, .slice none 0 0, .slice none 0 0, .slice none 0 0, .slice none 0 0] 25)).heap.size = w.heap.size + 1 := by simp
  have hq0 := QS.start B0 hN (t.length : Int) (fun _ => undef) (fun _ => undef) (fun _ => []) (fun _ => [])
  clear B0 hN
  generalize (((((((w.alloc (.cells #[.int .i64 0, .slice none 0 0, .slice none 0 0, .slice none 0 0, .slice none 0 0] 25)).alloc (.cells #[] 22)).alloc (.cells #[] 2)).alloc (.cells #[] 2)).alloc (.cells #[] 2)).alloc (.cells #[] 22)).alloc (.cells #[.int .i64 (t.length : Int), .slice (some ⟨w.heap.size + 1 + 1, 0, none⟩) 0 0, .slice (some ⟨w.heap.size + 1 + 1 + 1, 0, none⟩) 0 0, .slice (some ⟨w.heap.size + 1 + 1 + 1 + 1, 0, none⟩) 0 0, .slice (some ⟨w.heap.size + 1 + 1 + 1 + 1 + 1, 0, none⟩) 0 0] 25)) = W1 at *
  generalize hcq : w.heap.size + 1 + 1 + 1 + 1 + 1 + 1 = c at *
  obtain ⟨vi0, hvi⟩ : ∃ x, x = Value.slice (some ⟨w.heap.size + 1 + 1 + 1 + 1, 0, none⟩) 0 0 := ⟨_, rfl⟩
  obtain ⟨vc0, hvc⟩ : ∃ x, x = Value.slice (some ⟨w.heap.size + 1 + 1 + 1 + 1 + 1, 0, none⟩) 0 0 := ⟨_, rfl⟩
  rw [← hvi, ← hvc] at hq0
  clear hcq
  have HQ0 := Lib.hid hq0
  have HVI := Lib.hid hvi
  have HVC := Lib.hid hvc
  clear hq0 hvi hvc
  go_loopw [4, 6, 7, 8] (fun vn iv _ _ wr => ∃ (i : Nat) (vf vt : Value) (V : Nat → Value) (D : Nat → List Int), i ≤ t.length ∧ iv = .int .i64 i ∧ QS w w.heap.size c t.length wr vf vt vi0 vc0 vf vt vi0 vc0 vn (.slice none 0 0) ((prTo t i).map Prod.fst) ((prTo t i).map Prod.snd) [] [] i V D 0 (fun _ => undef) (fun _ => []) ∧ Hid (∀ j, j < i → D j = tab (fun y => (cnt t j y : Int)) t.length)) (fun _ iv _ _ _ => t.length - (intOf iv).toNat)
  case atStart => exact ⟨0, _, _, _, _, Nat.zero_le _, rfl, HQ0.out, fun j hj => by omega⟩
  case round =>
    obtain ⟨i, vf, vt, V, D, hi, rfl, hq, hD⟩ := hrel
    by_cases hlt : i < t.length
    · have hn := hq.newR
      have HN := Lib.hid hn
      clear hn hq
      go_wp2_with fail
      generalize wr.alloc (.cells #[] 2) = Wn at *
      go_loopw [7, 8] (fun vr jv wr => ∃ (j : Nat) (vf vt : Value), j ≤ t.length ∧ jv = .int .i64 j ∧ QS w w.heap.size c t.length wr vf vt vi0 vc0 vf vt vi0 vc0 u4 vr ((prTo t i ++ prRow t i j).map Prod.fst) ((prTo t i ++ prRow t i j).map Prod.snd) [] (tab (fun y => (cnt t i y : Int)) j) i V D 0 (fun _ => undef) (fun _ => [])) (fun _ jv _ => t.length - (intOf jv).toNat)
      case atStart => exact ⟨0, _, _, Nat.zero_le _, rfl, by simpa [prRow, tab] using HN.out⟩
      case round =>
        obtain ⟨j, vf, vt, hj, rfl, hq⟩ := hrel
        by_cases hlj : j < t.length
        · obtain rfl := ha (by omega)
          have cr := upc hq.rs.bel (HC.out i hlt)
          have ce := upc hq.rs.bel ((HV.out i hlt).2 j hlj)
          have bij := HSQ.out.ent hlt hlj
          have hLn := prs_len h8 hi hj
          obtain ⟨L, hL⟩ : ∃ L, L = prTo t i ++ prRow t i j := ⟨_, rfl⟩
          rw [← hL] at hq hLn
          have HL := Lib.hid hL
          obtain ⟨FF, hFF⟩ : ∃ X, X = L.map Prod.fst := ⟨_, rfl⟩
          obtain ⟨TT, hTT⟩ : ∃ X, X = L.map Prod.snd := ⟨_, rfl⟩
          obtain ⟨RR, hRR⟩ : ∃ X, X = tab (fun y => (cnt t i y : Int)) j := ⟨_, rfl⟩
          rw [← hFF, ← hTT, ← hRR] at hq
          have hfl : FF.length ≤ 72 := by rw [hFF, List.length_map]; exact hLn
          have htl : TT.length ≤ 72 := by rw [hTT, List.length_map]; exact hLn
          have hrl : RR.length ≤ 8 := by rw [hRR, tab_length]; omega
          have HCN : Hid ((cnt t i j : Int) = (FF.length : Int)) := (by rw [hFF, List.length_map, hL]; rfl : (cnt t i j : Int) = (FF.length : Int))
          have HFF := Lib.hid hFF
          have HTT := Lib.hid hTT
          have HRR := Lib.hid hRR
          clear hL hFF hTT hRR
          obtain ⟨aF, kF, rfl⟩ := hq.of.shape
          obtain ⟨-, k1, k2, k3, k4, f1, f2, f3, f4⟩ := hq.facts
          go_wp2_with (at_builtin; refine hold ?_)
          refine app1 hq.or (by constructor <;> omega) (by omega) (by have := hq.rs.lt; omega) Try.underlying22 infoInt64 (by rfl) _ _ (by rfl) (by rfl) (by first | rfl | (rw [size_set]; rfl)) ?_
          intro v1 w1 o1 g1
          obtain ⟨a1, n1, c1, rfl⟩ : ∃ a n c, v1 = .slice a n c := (by obtain ⟨a, c, e⟩ := o1.shape; exact ⟨_, _, _, e⟩)
          have hq1 := hq.growR o1 g1
          obtain ⟨-, k1, k2, k3, k4, f1, f2, f3, f4⟩ := hq1.facts
          clear hq g1 o1
          have cr1 := upc hq1.rs.bel (HC.out i hlt)
          have ce1 := upc hq1.rs.bel ((HV.out i hlt).2 j hlj)
          clear cr ce
          by_cases h1 : ge t i j = 1
          · have h1b : (ge t i j == 1) = true := by simp [h1]
            have H1 : Hid (ge t i j ≠ 0) := show ge t i j ≠ 0 by omega
            clear h1
            go_wp2_with (at_builtin; refine hold ?_)
            refine app1 hq1.of (by constructor <;> omega) (by omega) (by have := hq1.rs.lt; omega) Try.underlying22 infoInt64 (by rfl) _ _ (by rfl) (by rfl) (by first | rfl | (rw [size_set]; rfl)) ?_
            intro v2 w2 o2 g2
            obtain ⟨a2, n2, c2, rfl⟩ : ∃ a n c, v2 = .slice a n c := (by obtain ⟨a, c, e⟩ := o2.shape; exact ⟨_, _, _, e⟩)
            have hq2 := hq1.growF o2 g2
            obtain ⟨-, k1, k2, k3, k4, f1, f2, f3, f4⟩ := hq2.facts
            have hs2 := hq2.setF
            obtain ⟨-, m1, m2, m3, m4, l1, l2, l3, l4⟩ := hs2.facts
            clear hq1 hq2 g2 o2
            go_wp2_with (at_builtin; refine hold ?_)
            try clear k1
            try clear k2
            try clear k3
            try clear k4
            try clear f1
            try clear f2
            try clear f3
            try clear f4
            try clear m1
            try clear m2
            try clear m3
            try clear m4
            try clear l1
            try clear l2
            try clear l3
            try clear l4
            refine app1 hs2.ot (by constructor <;> omega) (by omega) (by have := hs2.rs.lt; omega) Try.underlying22 infoInt64 (by rfl) _ _ (by rfl) (by rfl) (by first | rfl | (rw [size_set]; rfl)) ?_
            intro v3 w3 o3 g3
            obtain ⟨a3, n3, c3, rfl⟩ : ∃ a n c, v3 = .slice a n c := (by obtain ⟨a, c, e⟩ := o3.shape; exact ⟨_, _, _, e⟩)
            have hq3 := hs2.growT o3 g3
            obtain ⟨-, k1, k2, k3, k4, f1, f2, f3, f4⟩ := hq3.facts
            have hs3 := hq3.setT
            obtain ⟨-, m1, m2, m3, m4, l1, l2, l3, l4⟩ := hs3.facts
            clear hs2 hq3 g3 o3
            have HQ := Lib.hid hs3
            clear hs3
            go_wp2_with fail
            go_roundw
            case rel => exact ⟨j + 1, _, _, by omega, by go_num, by
              rw [prRow_yes H1.out, tab_succ, ← HRR.out, HCN.out, ← List.append_assoc, ← HL.out, List.map_append, List.map_append, ← HFF.out, ← HTT.out]
              exact HQ.out⟩
            case measure => simp [intOf]; omega
          · have h1b : (ge t i j == 1) = false := by simp [h1]
            have H1 : Hid (ge t i j = 0) := show ge t i j = 0 by omega
            have HQ := Lib.hid hq1
            clear h1 hq1 k1 k2 k3 k4 f1 f2 f3 f4
            go_wp2_with fail
            go_roundw
            case rel => exact ⟨j + 1, _, _, by omega, by go_num, by
              rw [prRow_no H1.out, tab_succ, ← HRR.out, HCN.out, ← HL.out, ← HFF.out, ← HTT.out]
              exact HQ.out⟩
            case measure => simp [intOf]; omega
        · have hjn : t.length = j := by omega
          subst hjn
          obtain ⟨RR, hRR⟩ : ∃ X, X = tab (fun y => (cnt t i y : Int)) t.length := ⟨_, rfl⟩
          rw [← hRR] at hq
          have HRR := Lib.hid hRR
          clear hRR
          obtain ⟨aR, kR', rfl⟩ := hq.or.shape
          go_wp2_with (at_builtin; refine hold ?_)
          refine appV hq.on rfl (by omega) (by have := hq.rs.lt; omega) Try.underlying23 infoInts (by rfl) _ _ (by rfl) (by rfl) (by first | rfl | (rw [size_set]; rfl)) ?_
          intro v1 w1 o1 g1
          have HQ := Lib.hid (hq.pushN o1 g1)
          clear hq o1 g1
          go_wp2_with fail
          go_roundw
          case rel => exact ⟨i + 1, _, _, _, _, by omega, by go_num, HQ.out, fun j hj => by
            by_cases e : j < i
            · rw [if_pos e]; exact hD.out j e
            · obtain rfl : j = i := by omega
              rw [if_neg e]; exact HRR.out⟩
          case measure => simp [intOf]; omega
    · have hin : t.length = i := by omega
      subst hin
      obtain ⟨L, hL⟩ : ∃ L, L = prTo t t.length := ⟨_, rfl⟩
      rw [← hL] at hq
      have HL : Hid (prs t = L) := hL.symm
      obtain ⟨FF, hFF⟩ : ∃ X, X = L.map Prod.fst := ⟨_, rfl⟩
      obtain ⟨TT, hTT⟩ : ∃ X, X = L.map Prod.snd := ⟨_, rfl⟩
      rw [← hFF, ← hTT] at hq
      have hL72 : L.length ≤ 72 := by
        have := prTo_len t t.length
        have h3 : t.length * t.length ≤ 8 * 8 := Nat.mul_le_mul h8 h8
        rw [hL]; omega
      have hfl : FF.length ≤ 72 := by rw [hFF, List.length_map]; exact hL72
      have HTF : Hid (TT.length = FF.length) := (by rw [hFF, hTT, List.length_map, List.length_map] : TT.length = FF.length)
      have HFL : Hid ((prs t).length = FF.length) := (by rw [hFF, List.length_map, HL.out] : (prs t).length = FF.length)
      have HFF : Hid (FF = (prs t).map Prod.fst) := (by rw [hFF, HL.out] : FF = (prs t).map Prod.fst)
      have HTT : Hid (TT = (prs t).map Prod.snd) := (by rw [hTT, HL.out] : TT = (prs t).map Prod.snd)
      obtain ⟨aF, gF, kF, rfl, haF⟩ := hq.of.sh
      obtain ⟨aT, gT, kT, rfl, haT⟩ := hq.ot.sh
      obtain ⟨aN, gN, kN, rfl, haN⟩ := rows_sh hq.on
      have hVs : ∃ (bV kV : Nat → Nat), ∀ j, j < t.length → V j = .slice (some ⟨bV j, 0, none⟩) t.length (kV j) := by
        have H : ∀ j, ∃ b k : Nat, j < t.length → V j = .slice (some ⟨b, 0, none⟩) t.length k := by
          intro j
          by_cases hj : j < t.length
          · obtain ⟨a, g, k, e1, e2⟩ := (hq.oV j hj).sh
            rw [hD.out j hj, tab_length] at e1 e2
            exact ⟨g, k, fun _ => by rw [e1, e2 (by omega)]⟩
          · exact ⟨0, 0, fun h => absurd h hj⟩
        exact ⟨fun j => (H j).choose, fun j => (H j).choose_spec.choose, fun j hj => (H j).choose_spec.choose_spec hj⟩
      obtain ⟨bV, kV, hVs⟩ := hVs
      have HVS := Lib.hid hVs
      have HQ1 := Lib.hid hq
      clear hL hFF hTT hVs hq
      go_wp2_with fail
      go_loopw [9] (fun iv wr => ∃ (i : Nat) (vi : Value), i ≤ t.length ∧ iv = .int .i64 i ∧ QS w w.heap.size c t.length wr (.slice aF FF.length kF) (.slice aT TT.length kT) vi vc0 (.slice aF FF.length kF) (.slice aT TT.length kT) vi vc0 (.slice aN t.length kN) (.slice none 0 0) FF TT (tab (fun y => (cnt t y y : Int)) i) [] t.length V D 0 (fun _ => undef) (fun _ => [])) (fun iv _ => t.length - (intOf iv).toNat)
      case atStart => exact ⟨0, _, Nat.zero_le _, rfl, HQ1.out⟩
      case round =>
        obtain ⟨i, vi, hi, rfl, hq⟩ := hrel
        by_cases hlt2 : i < t.length
        · obtain rfl := haN (by omega)
          have n1 := rows_at hq.on hlt2
          rw [HVS.out i hlt2] at n1
          have hoV := hq.oV i hlt2
          rw [HVS.out i hlt2] at hoV
          have n2 := hoV.at (i := i) (by rw [hD.out i hlt2, tab_length]) (by rw [hD.out i hlt2, tab_length]; exact hlt2)
          have hb1 := World.block_lt_of_cell? _ _ n1
          have hb2 := World.block_lt_of_cell? _ _ n2
          have hb3 := hq.row.lt
          simp only [] at hb1 hb2
          rw [hD.out i hlt2, gi_tab hlt2] at n2
          clear hoV
          obtain ⟨II, hII⟩ : ∃ X, X = tab (fun y => (cnt t y y : Int)) i := ⟨_, rfl⟩
          rw [← hII] at hq
          have hil : II.length ≤ 8 := by rw [hII, tab_length]; omega
          have HII := Lib.hid hII
          have hcn := prs_len h8 hi (Nat.le_of_lt hlt2)
          have HCI : Hid (I64 (cnt t i i : Int)) := (by unfold cnt; constructor <;> omega : I64 (cnt t i i : Int))
          generalize hcc : (cnt t i i : Int) = z at *
          have HCC := Lib.hid hcc
          clear hII hcn hcc
          have hqs := hq.rs.lt
          have HO : ∀ o, QS w w.heap.size c t.length ((wr.alloc o).drew) (.slice aF FF.length kF) (.slice aT TT.length kT) vi vc0 (.slice aF FF.length kF) (.slice aT TT.length kT) vi vc0 (.slice (some ⟨gN, 0, none⟩) t.length kN) (.slice none 0 0) FF TT II [] t.length V D 0 (fun _ => undef) (fun _ => []) := fun o => (hq.bel (bel_box wr o)).bel (Drawn.below (Drawn.one (Drawn.refl _)) _)
          have HOh := Lib.hid HO
          obtain ⟨-, k1, k2, k3, k4, f1, f2, f3, f4⟩ := hq.facts
          clear HO hq
          go_wp2_with fail
          go_region_law ((refine stepApp1 (n := wr.heap.size) (x := z) (HOh.out _).oi HCI.out ?_ ?_ ?_ Try.underlying22 infoInt64 ?_ (.tmp 70) (.tmp 78) ?_ ?_ ?_ ?_; (· simp); (· omega); (· (simp; omega)); (· rfl); (· rfl); (· rfl); (· rfl); intro v1 w1 o1 g1; obtain ⟨a1, n9, c1, rfl⟩ : ∃ a n c, v1 = .slice a n c := (by obtain ⟨a, c, e⟩ := o1.shape; exact ⟨_, _, _, e⟩); have hq1 := (HOh.out _).growI o1 g1; obtain ⟨-, x1, x2, x3, x4, y1, y2, y3, y4⟩ := hq1.facts))
          all_goals
            have HQ := Lib.hid hq1.setI
            clear hq1 x1 x2 x3 x4 y1 y2 y3 y4 k1 k2 k3 k4 f1 f2 f3 f4 n1 n2
            go_wp2_with fail
            go_roundw
            case rel => exact ⟨i + 1, _, by omega, by go_num, by rw [tab_succ, ← HII.out, HCC.out]; exact HQ.out⟩
            case measure => simp [intOf]; omega
        · have hie : t.length = i := by omega
          subst hie
          obtain ⟨II, hII⟩ : ∃ X, X = tab (fun y => (cnt t y y : Int)) t.length := ⟨_, rfl⟩
          rw [← hII] at hq
          have HII := Lib.hid hII
          obtain ⟨aI, gI, kI, rfl, -⟩ := hq.oi.sh
          have HQ2 := Lib.hid hq
          clear hII hq
          go_wp2_with fail
          go_loopw [10, 11, 12, 13] (fun fv _ _ _ wr => ∃ (f : Nat) (vc : Value) (U : Nat → Value) (G : Nat → List Int), f ≤ FF.length ∧ fv = .int .i64 f ∧ QS w w.heap.size c t.length wr (.slice aF FF.length kF) (.slice aT TT.length kT) (.slice aI II.length kI) vc (.slice aF FF.length kF) (.slice aT TT.length kT) (.slice aI II.length kI) vc (.slice aN t.length kN) (.slice none 0 0) FF TT II [] t.length V D f U G ∧ Hid (∀ j, j < f → G j = tab (posV t j) FF.length)) (fun fv _ _ _ _ => FF.length - (intOf fv).toNat)
          case atStart => exact ⟨0, _, _, _, Nat.zero_le _, rfl, HQ2.out, fun j hj => by omega⟩
          case round =>
            obtain ⟨f, vc, U, G, hf, rfl, hq, hG⟩ := hrel
            obtain ⟨k0, k1, k2, k3, k4, f1, f2, f3, f4⟩ := hq.facts
            by_cases hlf : f < FF.length
            · obtain rfl := haF (by omega)
              obtain rfl := haT (by have := HTF.out; omega)
              have HN := Lib.hid hq.newR
              clear hq
              go_wp2_with fail
              clear k0 k1 k2 k3 k4 f1 f2 f3 f4
              generalize wr.alloc (.cells #[] 2) = Wn at *
              go_loopw [11, 12, 13] (fun vr gv _ wr => ∃ g : Nat, g ≤ FF.length ∧ gv = .int .i64 g ∧ QS w w.heap.size c t.length wr (.slice (some ⟨gF, 0, none⟩) FF.length kF) (.slice (some ⟨gT, 0, none⟩) TT.length kT) (.slice aI II.length kI) vc (.slice (some ⟨gF, 0, none⟩) FF.length kF) (.slice (some ⟨gT, 0, none⟩) TT.length kT) (.slice aI II.length kI) vc (.slice aN t.length kN) vr FF TT II (tab (posV t f) g) t.length V D f U G) (fun _ gv _ _ => FF.length - (intOf gv).toNat)
              case atStart => exact ⟨0, Nat.zero_le _, rfl, HN.out⟩
              case round =>
                obtain ⟨g, hg, rfl, hq⟩ := hrel
                obtain ⟨-, k1, k2, k3, k4, f1, f2, f3, f4⟩ := hq.facts
                by_cases hlg : g < FF.length
                · obtain ⟨a, y, p1, p2, p3, p4⟩ := prs_gp (t := t) (f := f) (by have := HFL.out; omega)
                  obtain ⟨a', y', q1, q2, q3, q4⟩ := prs_gp (t := t) (f := g) (by have := HFL.out; omega)
                  have cT := hq.ot.at rfl (i := f) (by have := HTF.out; omega)
                  have cF := hq.of.at rfl hlg
                  have cT2 := hq.ot.at rfl (i := g) (by have := HTF.out; omega)
                  have cF2 := hq.of.at rfl hlf
                  rw [show gi TT f = (y : Int) by rw [HTT.out, gi_snd, p4]] at cT
                  rw [show gi FF g = (a' : Int) by rw [HFF.out, gi_fst, q4]] at cF
                  rw [show gi TT g = (y' : Int) by rw [HTT.out, gi_snd, q4]] at cT2
                  rw [show gi FF f = (a : Int) by rw [HFF.out, gi_fst, p4]] at cF2
                  obtain ⟨RR, hRR⟩ : ∃ X, X = tab (posV t f) g := ⟨_, rfl⟩
                  rw [← hRR] at hq
                  have hrl : RR.length ≤ 72 := by rw [hRR, tab_length]; omega
                  have HRR := Lib.hid hRR
                  have hft : (f : Int) < (TT.length : Int) := by have := HTF.out; omega
                  have hgt : (g : Int) < (TT.length : Int) := by have := HTF.out; omega
                  have hff : (f : Int) < (FF.length : Int) := by omega
                  have hgf : (g : Int) < (FF.length : Int) := by omega
                  clear hRR
                  by_cases e : y = a'
                  · subst e
                    have HPV : Hid (posV t f g = (cnt t a y' : Int)) := (by rw [posV, p4, q4, if_pos rfl]; rfl : posV t f g = (cnt t a y' : Int))
                    obtain rfl := haN (by omega)
                    have n1 := rows_at hq.on p1
                    rw [HVS.out a p1] at n1
                    have hoV := hq.oV a p1
                    rw [HVS.out a p1] at hoV
                    have n2 := hoV.at (i := y') (by rw [hD.out a p1, tab_length]) (by rw [hD.out a p1, tab_length]; exact q2)
                    rw [hD.out a p1, gi_tab q2] at n2
                    have hcn := prs_len h8 (Nat.le_of_lt p1) (Nat.le_of_lt q2)
                    have HZ : Hid (I64 (cnt t a y' : Int)) := (by unfold cnt; constructor <;> omega : I64 (cnt t a y' : Int))
                    generalize hcc : (cnt t a y' : Int) = z at *
                    have b1 : (a : Int) < (t.length : Int) := by omega
                    have b2 : (y' : Int) < (t.length : Int) := by omega
                    have b3 : (0 : Int) ≤ (a : Int) := by omega
                    have b4 : (0 : Int) ≤ (y' : Int) := by omega
                    clear hoV hcn hcc p3 q3 p4 q4
                    go_wp2_with fail
                    go_quiet (fail)
                    go_wp2_with fail
                    go_quiet (fail)
                    go_wp2_with (at_builtin; refine hold ?_)
                    clear n1 n2 cT cF cT2 cF2
                    refine app1 (hq.bel (Drawn.below ⟨_, rfl⟩ _)).or HZ.out (by omega) (by have := hq.rs.lt; simp; omega) Try.underlying22 infoInt64 (by rfl) _ _ (by rfl) (by rfl) (by first | rfl | (simp; rfl)) ?_
                    intro v1 w1 o1 g1
                    obtain ⟨a1, n9, c1, rfl⟩ : ∃ a n c, v1 = .slice a n c := (by obtain ⟨a, c, e⟩ := o1.shape; exact ⟨_, _, _, e⟩)
                    have HQ := Lib.hid ((hq.bel (Drawn.below ⟨_, rfl⟩ _)).growR o1 g1)
                    clear hq o1 g1
                    try clear k1 k2 k3 k4 f1 f2 f3 f4
                    go_wp2_with fail
                    go_roundw
                    case rel => exact ⟨g + 1, by omega, by go_num, by rw [tab_succ, ← HRR.out, HPV.out]; exact HQ.out⟩
                    case measure => simp [intOf]; omega
                  · have e1 : ((y : Int) == (a' : Int)) = false := by simp; omega
                    have e2 : (y == a') = false := by simp; omega
                    have HPV : Hid (posV t f g = -1) := (by rw [posV, p4, q4, if_neg (by simp; omega)] : posV t f g = -1)
                    have HZ : Hid (I64 (-1)) := (by constructor <;> omega : I64 (-1))
                    have HE := Lib.hid e
                    clear e p3 q3 p4 q4
                    go_wp2_with fail
                    go_quiet (fail)
                    go_wp2_with (at_builtin; refine hold ?_)
                    clear cT cF cT2 cF2
                    refine app1 (hq.bel (Drawn.below ⟨_, rfl⟩ _)).or HZ.out (by omega) (by have := hq.rs.lt; simp; omega) Try.underlying22 infoInt64 (by rfl) _ _ (by rfl) (by rfl) (by first | rfl | (simp; rfl)) ?_
                    intro v1 w1 o1 g1
                    obtain ⟨a1, n9, c1, rfl⟩ : ∃ a n c, v1 = .slice a n c := (by obtain ⟨a, c, e⟩ := o1.shape; exact ⟨_, _, _, e⟩)
                    have HQ := Lib.hid ((hq.bel (Drawn.below ⟨_, rfl⟩ _)).growR o1 g1)
                    clear hq o1 g1
                    try clear k1 k2 k3 k4 f1 f2 f3 f4
                    go_wp2_with fail
                    go_roundw
                    case rel => exact ⟨g + 1, by omega, by go_num, by rw [tab_succ, ← HRR.out, HPV.out]; exact HQ.out⟩
                    case measure => simp [intOf]; omega
                · have hge : FF.length = g := by omega
                  have hnl : decide ((g : Int) < (FF.length : Int)) = false := by simp; omega
                  have HGE := Lib.hid hge
                  obtain ⟨aR, kR', rfl⟩ := hq.or.shape
                  generalize hrn : (tab (posV t f) g).length = nr at *
                  clear hge hrn
                  go_wp2_with (at_builtin; refine hold ?_)
                  refine appV hq.oc rfl (by omega) (by have := hq.rs.lt; omega) Try.underlying23 infoInts (by rfl) _ _ (by rfl) (by rfl) (by first | rfl | (rw [size_set]; rfl)) ?_
                  intro v1 w1 o1 g1
                  obtain ⟨a1, n9, c1, rfl⟩ : ∃ a n c, v1 = .slice a n c := (by obtain ⟨a, g, c, e, -⟩ := rows_sh o1; exact ⟨_, _, _, e⟩)
                  have hq1 := hq.pushC o1 g1
                  obtain ⟨-, x1, x2, x3, x4, y1, y2, y3, y4⟩ := hq1.facts
                  have HQ := Lib.hid hq1.setC
                  clear hq o1 g1 hq1 k1 k2 k3 k4 f1 f2 f3 f4
                  go_wp2_with fail
                  go_roundw
                  case rel => exact ⟨f + 1, _, _, _, by omega, by go_num, HQ.out, fun j hj => by
                    by_cases e : j < f
                    · rw [if_pos e]; exact hG.out j e
                    · obtain rfl : j = f := by omega
                      rw [if_neg e, HGE.out]⟩
                  case measure => simp [intOf]; omega
            · have hfe : FF.length = f := by omega
              have hnl : decide ((f : Int) < (FF.length : Int)) = false := by simp; omega
              obtain ⟨aC, gC, kC, rfl, -⟩ := rows_sh hq.oc
              obtain ⟨-, x0, x1, x2, x3, x4, z0, z1, z2, z3, z4⟩ := hq.rs.all
              have HQ := Lib.hid hq
              have HFE := Lib.hid hfe
              clear hq hfe
              go_wp2_with fail
              refine bodyPost_ret (results_cell_row rfl _ _ w.heap.size 25 #[_, _, _, _, _] (0, 0) _ (by rfl) (RS.five (w := w) HQ.out.rs _ _ _ _ _) Try.underlying25 rfl (by kernel_rfl)) rfl ?_
              have hq := HQ.out
              have hW := set5_within wr w.heap.size (.int .i64 (t.length : Int)) (.slice aF FF.length kF) (.slice aT TT.length kT) (.slice aI II.length kI) (.slice aC f kC)
              refine ⟨_, rfl, ⟨aF, kF, aT, TT.length, kT, aI, II.length, kI, aC, f, kC, by rw [HFL.out], ⟨fun W hWW => ?_, Nat.le_refl _⟩⟩, hq.rs.five_bel _ _ _ _ _⟩
              have hag : ∀ k, w.heap.size + 1 ≤ k → k < wr.heap.size → W.heap[k]? = wr.heap[k]? := fun k h1 h2 => (hWW k (by omega) (by simp only [size_set]; exact h2)).trans (hW.block k (.inr h1) h2)
              have i1 := (own_agree hq.of hag).is
              have i2 := (own_agree hq.ot hag).is
              have i3 := (own_agree hq.oi hag).is
              have i4 := iss_rows (xss := posM t) (rows_agree hq.oc hag) (fun j hj => by
                have h1 := (own_agree (hq.oU j hj) hag).is
                have hj2 : j < (prs t).length := by have := HFL.out; have := HFE.out; omega
                rw [gr_posM hj2, HFL.out, ← hG.out j hj]
                exact h1) (by rw [posM_len, HFL.out, HFE.out]) (by have := HFE.out; omega)
              refine ⟨⟨_, _, _, _, rfl, ?_, ?_, ?_, i4⟩, ?_⟩
              · show IS _ _ ((prs t).map Prod.fst)
                rw [← HFF.out]; exact i1
              · show IS _ _ ((prs t).map Prod.snd)
                rw [← HTT.out]; exact i2
              · show IS _ _ (tab (fun y => (cnt t y y : Int)) t.length)
                rw [← HII.out]; exact i3
              · show I64 (t.length : Int)
                constructor <;> omega
end Go.Proofs.Ytmigbcadldkmfaa
