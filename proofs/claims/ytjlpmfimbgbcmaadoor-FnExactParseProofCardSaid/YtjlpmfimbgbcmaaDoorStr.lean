/-
  Slices of strings.
-/
import Derived.Test.YtjlpmfimbgbcmaaDoorSplt
import Derived.Test.YtjlpmfimbgbcmaaDoorAny
import Derived.Shelf.Slices.Turned
namespace Go.Proofs.YtjlpmfimbgbcmaaDoor
open Go.RowKit Go.Shelf

/-- v is a slice of strings that reads xs. -/
structure SL (w : World) (v : Value) (xs : List ByteArray) : Prop where
  ex : ∃ (ao : Option Addr) (b o c : Nat), v = .slice ao xs.length c ∧ (0 < xs.length → ao = some ⟨b, o, none⟩) ∧ ∀ (i : Nat) (hi : i < xs.length), w.cell? ⟨b, o + i, none⟩ = some (.string xs[i])
  len : xs.length ≤ 4294967296
/-- .. of the call's own, from block B on. -/
structure OwS (w : World) (B : Nat) (v : Value) (xs : List ByteArray) : Prop where
  row : w.ownsRow B 9 1 v xs.length (xs.map Value.string)
  len : xs.length ≤ 4294967296

theorem SL.kept {w w' : World} {v : Value} {xs : List ByteArray} (h : SL w v xs) (hb : Below w.heap.size w w') : SL w' v xs := by
  obtain ⟨ao, b, o, c, rfl, ha, hc⟩ := h.ex
  exact ⟨⟨ao, b, o, c, rfl, ha, fun i hi => (hb.cell (World.block_lt_of_cell? _ _ (hc i hi))).trans (hc i hi)⟩, h.len⟩
theorem OwS.sl {w : World} {B : Nat} {v : Value} {xs : List ByteArray} (h : OwS w B v xs) : SL w v xs := by
  refine ⟨?_, h.len⟩
  rcases h.row.2 with ⟨rfl, hn⟩ | ⟨g, cap, cur, rfl, hB, hg, hn, hc, hs, ht⟩
  · exact ⟨none, 0, 0, 0, by rw [hn], fun h0 => by omega, fun i hi => by omega⟩
  · refine ⟨some ⟨g, 0, none⟩, g, 0, cap, rfl, fun _ => rfl, fun i hi => ?_⟩
    rw [Nat.zero_add, h.row.cellAt i (by omega)]
    simp [hi]
theorem OwS.kept {w w' : World} {B : Nat} {v : Value} {xs : List ByteArray} (h : OwS w B v xs) (hb : Below w.heap.size w w') : OwS w' B v xs :=
  ⟨h.row.kept (row := none) ⟨hb.os, hb.tape, hb.output, hb.size, fun k hk _ => hb.block k hk⟩ (by
    rcases h.row.2 with ⟨rfl, _⟩ | ⟨g, cap, cur, rfl, _⟩
    · exact .inl rfl
    · exact .inr (by simp [Value.ownBlock])), h.len⟩
theorem OwS.lt {w : World} {B : Nat} {v : Value} {xs : List ByteArray} (h : OwS w B v xs) : ∀ k, v.ownBlock = some k → B ≤ k ∧ k < w.heap.size := h.row.lt
theorem OwS.mono {w : World} {B B' : Nat} {v : Value} {xs : List ByteArray} (h : OwS w B v xs) (hB : B' ≤ B) : OwS w B' v xs := by
  refine ⟨⟨h.row.1, ?_⟩, h.len⟩
  rcases h.row.2 with hn | ⟨g, cap, cur, hv, hBg, rest⟩
  · exact .inl hn
  · exact .inr ⟨g, cap, cur, hv, Nat.le_trans hB hBg, rest⟩
theorem OwS.shape {w : World} {B : Nat} {v : Value} {xs : List ByteArray} (h : OwS w B v xs) : ∃ a c, v = .slice a xs.length c := by
  obtain ⟨ao, b, o, c, hv, -⟩ := h.sl.ex
  exact ⟨ao, c, hv⟩
theorem OwS.empty (w : World) (B : Nat) (hB : B ≤ w.heap.size) : OwS (w.alloc (.cells #[] 9)) B (.slice (some ⟨w.heap.size, 0, none⟩) 0 0) [] :=
  ⟨World.ownsRow_made w #[] 0 hB (by simp [maxLen]) (by simp), by simp⟩
/-- What strings.Split hands back. -/
theorem OwS.split (w : World) (xs : List ByteArray) (h : xs.length ≤ 4294967296) : OwS (w.alloc (.cells (xs.map Value.string).toArray 9)) w.heap.size (.slice (some ⟨w.heap.size, 0, none⟩) xs.length xs.length) xs :=
  ⟨⟨by simp, .inr ⟨w.heap.size, xs.length, (xs.map Value.string).toArray, rfl, Nat.le_refl _, heap_alloc_new w _, Nat.le_refl _, by unfold maxLen; omega, by simp, by rw [Nat.mul_one]; exact List.take_of_length_le (by simp)⟩⟩, h⟩

section
variable {w : World}
/-- append(out, list...). -/
theorem run_appS {B : Nat} {v u : Value} {xs ys : List ByteArray} {ty : TypeId} (hown : OwS w B v xs) (hy : SL w u ys) (hl : xs.length + ys.length ≤ 4294967296) (hB : B ≤ w.heap.size) :
    ∃ v' w', (Builtin.append_ #[51, 51] ty #[v, u]).run Tryd.prog w = .ok v' w' ∧ OwS w' B v' (xs ++ ys) ∧ Grew w w' v v' := by
  obtain ⟨i, hi, hz0, hz1, hz2⟩ := info_parts info9
  obtain ⟨ao, b, o, c, rfl, ha, hc⟩ := hy.ex
  by_cases h0 : 0 < ys.length
  · obtain rfl := ha h0
    obtain ⟨v', w', hr, h2, h3⟩ := run_append_own2 (P := Tryd.prog) (w := w) B 51 ty 9 i (.string ByteArray.empty) 1 16 Tryd.underlying51 hi hz0 hz1 hz2 rfl (by decide) v xs.length _ hown.row ⟨b, o, none⟩ ys.length c (ys.map Value.string) (by simp)
      (by
        intro j z hj
        rw [List.getElem?_map] at hj
        have hlt : j < ys.length := by
          rcases Nat.lt_or_ge j ys.length with h | h
          · exact h
          · rw [List.getElem?_eq_none h] at hj; cases hj
        rw [List.getElem?_eq_getElem hlt] at hj
        simp at hj
        subst hj
        have := hc j hlt
        by_cases e : j = 0
        · subst e; simpa [Addr.add] using this
        · simpa [Addr.add, e] using this)
      (by
        intro z hz
        obtain ⟨y, _, rfl⟩ := List.mem_map.1 hz
        rfl) (by unfold maxLen; omega) (by omega) hB
    refine ⟨v', w', hr, ⟨?_, by simp; omega⟩, h3⟩
    rw [List.length_append, List.map_append]; exact h2
  · have hys : ys = [] := by cases ys with | nil => rfl | cons _ _ => simp at h0
    subst hys
    cases ao with
    | none =>
      exact ⟨v, w, run_append_none 51 ty 9 i 1 Tryd.underlying51 hi v xs.length _ hown.row c, by simpa using hown, Grew.refl w v⟩
    | some a =>
      obtain ⟨v', w', hr, h2, h3⟩ := run_append_own2 (P := Tryd.prog) (w := w) B 51 ty 9 i (.string ByteArray.empty) 1 16 Tryd.underlying51 hi hz0 hz1 hz2 rfl (by decide) v xs.length _ hown.row a 0 c [] (by simp)
        (by intro j z hj; simp at hj) (by intro z hz; cases hz) (by unfold maxLen; simp at hl; omega) (by simp at hl; omega) hB
      exact ⟨v', w', hr, ⟨by simpa using h2, by simpa using hl⟩, h3⟩
theorem appS {B : Nat} {v u : Value} {xs ys : List ByteArray} (hown : OwS w B v xs) (hyl : SL w u ys) (hl : xs.length + ys.length ≤ 4294967296) (hB : B ≤ w.heap.size)
    {ops : Array Oper} {rest : List Oper} {o : Oper} {a : Act} {Q : Exit → Act → World → Prop} (hgd : o.guard = none) (s y : Operand)
    (ho : o.op = .call { callee := .builtin .append, args := #[s, y], argTypes := #[51, 51] })
    (hs : a.eval s = v) (hy : a.eval y = u)
    (h : ∀ v' w', OwS w' B v' (xs ++ ys) → Grew w w' v v' → wpList Tryd.prog ops Q rest (a.put o.dst v') w') : wpList Tryd.prog ops Q (o :: rest) a w :=
  wpList_plain hgd fun K hK => by
    obtain ⟨v', w', hr, h2, h3⟩ := run_appS (w := w) (ty := o.type) hown hyl hl hB
    unfold Oper.wp execOp
    simp only [ho, resolve, invoke, builtin, Sem.run_bind, Sem.run_pure, Result.andThen_ok, List.map_toArray, List.map_cons, List.map_nil, hs, hy, hr]
    exact hK _ _ (h v' w' h2 h3)
theorem stepAppS {B : Nat} {v u : Value} {xs ys : List ByteArray} (hown : OwS w B v xs) (hyl : SL w u ys) (hl : xs.length + ys.length ≤ 4294967296) (hB : B ≤ w.heap.size)
    {ops : Array Oper} {o : Oper} {a : Act} {K : Act → World → Prop} {Q : Exit → Act → World → Prop} {F : Prop} (hgd : o.guard = none) (s y : Operand)
    (ho : o.op = .call { callee := .builtin .append, args := #[s, y], argTypes := #[51, 51] })
    (hs : a.eval s = v) (hy : a.eval y = u)
    (h : ∀ v' w', OwS w' B v' (xs ++ ys) → Grew w w' v v' → K (a.put o.dst v') w') : if Region.wanted o (yielded ops a.tmps) = true then Oper.wp Tryd.prog o a w K Q else F := by
  have hw : Region.wanted o (yielded ops a.tmps) = true := by simp [Region.wanted, hgd]
  rw [if_pos hw]
  obtain ⟨v', w', hr, h2, h3⟩ := run_appS (w := w) (ty := o.type) hown hyl hl hB
  unfold Oper.wp execOp
  simp only [ho, resolve, invoke, builtin, Sem.run_bind, Sem.run_pure, Result.andThen_ok, List.map_toArray, List.map_cons, List.map_nil, hs, hy, hr]
  exact h v' w' h2 h3
end

set_option maxRecDepth 100000 in
theorem c_CloneS {w : World} {v : Value} {xs : List ByteArray} (h : SL w v xs) : Calls Tryd.prog 80 #[v] w (fun e w' => ∃ u, e = .returned u ∧ OwS w' w.heap.size u xs ∧ Below w.heap.size w w') := by
  have HI := Lib.hid h
  obtain ⟨ao, b, o, c, rfl, ha, hc⟩ := h.ex
  have hl := h.len
  clear h ha hc
  have q := fun (w : World) (a : Option Addr) (n c n' c' : Nat) => Lib.run_eql_slice_nil (P := Tryd.prog) w 51 _ a n c n' c' Tryd.underlying51
  cases ao with
  | none =>
    have h0 : xs.length = 0 := by
      rcases Nat.eq_zero_or_pos xs.length with h | h
      · exact h
      · obtain ⟨ao', b', o', c', he, hb', -⟩ := HI.out.ex
        injection he with e1 e2 e3
        rw [hb' h] at e1; cases e1
    obtain rfl : xs = [] := List.length_eq_zero_iff.1 h0
    go_enter Tryd.func80, Tryd.ntmps80
    go_wp2_with fail
    go_ret
    exact ⟨_, rfl, ⟨World.ownsRow_nil _ _ _ _, by simp⟩, Below.refl _ _⟩
  | some ad =>
    go_enter Tryd.func80, Tryd.ntmps80
    go_wp2_with (at_builtin; refine hold ?_)
    refine appS (xs := []) (OwS.empty w w.heap.size (Nat.le_refl _)) (HI.out.kept ((Below.refl _ w).alloc (Nat.le_refl _) _)) (by simp; omega) (by simp) (by rfl) _ _ (by rfl) (by rfl) (by rfl) ?_
    intro v' w' ho hg
    simp only [List.nil_append] at ho
    have hb : Below w.heap.size w w' := hg.below ((Below.refl _ w).alloc (Nat.le_refl _) _) (by simp) (fun k hk => by simp [Value.ownBlock] at hk; omega)
    obtain ⟨a', c', rfl⟩ := ho.shape
    have HO := Lib.hid ho
    clear ho hg
    go_wp2_with fail
    go_ret
    exact ⟨_, rfl, HO.out, hb⟩

shelf_lay Lays.n110 Nm 110 at Tryd as lays110
theorem c_ContainsS {w : World} {v : Value} {xs : List ByteArray} (h : SL w v xs) (x : ByteArray) : Calls Tryd.prog 79 #[v, .string x] w (fun e w' => e = .returned (.bool (Lib.containsS xs x)) ∧ w' = w) := by
  obtain ⟨ao, b, o, c, rfl, ha, hc⟩ := h.ex
  have hl := h.len
  by_cases h0 : 0 < xs.length
  · obtain rfl := ha h0
    have := Any.slices_Contains_string lays110 b o xs.length c xs x w (Nat.le_refl _) (by omega) (fun j hj => by rw [hc j hj, List.getD_eq_getElem?_getD, List.getElem?_eq_getElem hj]; rfl)
    rw [List.take_length] at this
    exact this
  · have e : xs = [] := List.length_eq_zero_iff.1 (by omega)
    subst e
    exact Any.slices_Contains_string_empty lays110 ao c x w
end Go.Proofs.YtjlpmfimbgbcmaaDoor
