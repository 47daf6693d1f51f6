/-
  Drawing functions: l01Partition, l01TwoPartitions, DrawMeetPartitions.
-/
import Derived.Test.YtocgbhcfnphnhaaDraw2
import Derived.Test.YtocgbhcfnphnhaaJoin2
namespace Go.Proofs.Ytocgbhcfnphnhaa
open Go.RowKit

set_option maxHeartbeats 1600000 in
set_option maxRecDepth 100000 in
theorem c_l01Partition {w : World} {p : Nat} (h : Src w p) (m : Int) (hm : I64 m) : Calls Try.prog 69 #[.pointer (some ⟨p, 0, none⟩), .int .i64 m] w (Dl 2 w p (fun xs => xs.length ≤ 301)) := by
  have hp := h.lt
  have HS := Lib.hid h
  have HM := Lib.hid hm
  clear h hm
  go_enter Try.func69, Try.ntmps69
  go_wp2_with fail
  refine (c_l01Next HS.out 5 (by constructor <;> omega)).mono ?_
  rintro e w1 ⟨a, rfl, a0, a1, hs1, hw1⟩
  have a2 := a1 (by omega)
  have hz1 := hw1.size
  have HS1 := Lib.hid hs1
  have HW1 := Lib.hid hw1
  clear a1 hs1 hw1 HS
  go_wp2_with fail
  refine (c_l01Maps HS1.out m HM.out (1 + a) (by constructor <;> omega)).mono ?_
  rintro e w2 ⟨u, xs, rfl, hxl, ho2, hs2, hw2⟩
  obtain ⟨au, cu, rfl⟩ := ho2.own.shape
  have hz2 := hw2.size
  have HS2 := Lib.hid hs2
  have HW2 := Lib.hid (HW1.out.trans hw2)
  have HI2 := Lib.hid ho2.is
  clear hs2 hw2 ho2 HW1 HS1
  go_wp2_with fail
  refine (c_l01Classes HI2.out (by omega)).mono ?_
  rintro e w3 ⟨v, rfl, ho3, b3⟩
  have hcl := cls_length xs
  have hz3 := b3.size
  have HS3 := Lib.hid (HS2.out.keptB b3)
  have HW3 := Lib.hid (HW2.out.bel b3)
  have HO3 := Lib.hid ho3
  obtain ⟨a3, c3, hv3⟩ := ho3.own.shape
  rw [hcl] at hv3
  subst hv3
  generalize cls xs = ys at *
  clear ho3 b3 HS2 HW2 HI2
  go_wp2_with fail
  refine (c_l01Next HS3.out 20 (by constructor <;> omega)).mono ?_
  rintro e w4 ⟨d, rfl, d0, d1, hs4, hw4⟩
  have hz4 := hw4.size
  have HS4 := Lib.hid hs4
  have HW4 := Lib.hid (HW3.out.trans hw4)
  have HO4 := Lib.hid (HO3.out.kept hw4 (.inr (by omega)))
  clear hs4 hw4 HS3 HW3 HO3 d1
  by_cases hd : d = 0
  · have hdb : (d == 0) = true := by simp [hd]
    clear hd
    by_cases hl0 : 0 < xs.length
    · have hlb : decide ((0 : Int) < (xs.length : Int)) = true := decide_eq_true (by omega)
      go_wp2_with fail
      refine (c_l01Next HS4.out xs.length (by constructor <;> omega)).mono ?_
      rintro e w5 ⟨x, rfl, x0, x1, hs5, hw5⟩
      have x2 := x1 (by omega)
      obtain ⟨i, rfl⟩ := Int.eq_ofNat_of_zero_le x0
      have hz5 := hw5.size
      have HS5 := Lib.hid hs5
      have HW5 := Lib.hid (HW4.out.trans hw5)
      have HO5 := Lib.hid (HO4.out.kept hw5 (.inr (by omega)))
      clear hs5 hw5 HS4 HW4 HO4 x1
      go_wp2_with fail
      refine (c_l01Next HS5.out 6 (by constructor <;> omega)).mono ?_
      rintro e w6 ⟨y, rfl, y0, y1, hs6, hw6⟩
      have y2 := y1 (by omega)
      have hz6 := hw6.size
      have HS6 := Lib.hid hs6
      have HW6 := Lib.hid (HW5.out.trans hw6)
      have HO6 := Lib.hid (HO5.out.kept hw6 (.inr (by omega)))
      clear hs6 hw6 HS5 HW5 HO5 y1
      obtain ⟨ao5, g5, c5, hv5, hg5⟩ := HO6.out.own.opened
      obtain ⟨rfl, hgB⟩ := hg5 (by omega)
      injection hv5 with hv5 e1 e2
      clear e1
      subst hv5 e2
      have ci := HO6.out.own.cellAt hcl.symm (i := i) (by omega)
      have fi := HO6.out.own.frozenAt hcl.symm i
      have HSET := Lib.hid (HO6.out.own.set hcl.symm i (x := y - 1) (by constructor <;> omega))
      have i0 : (0 : Int) ≤ (i : Int) := by omega
      have i1 : (i : Int) < (xs.length : Int) := by omega
      clear hg5 x2 x0
      go_wp2_with fail
      go_ret
      exact ⟨_, ys.set i (y - 1), rfl, by show (ys.set i (y - 1)).length ≤ 301; rw [List.length_set]; omega, ⟨HSET.out.base (by omega), fun k hk => by have := HO6.out.top k hk; simp [World.setCell]; omega⟩, HS6.out.kept ((Within.refl g5 (g5 + 1) w6).setCell (Nat.le_refl _) (by simp) _) (by omega),
        ⟨HW6.out.os, HW6.out.tape, HW6.out.output, by have := HW6.out.size; simp [World.setCell]; omega, fun k hk hk2 => (Below.heap_setCell _ _ _ _ (by simp; omega)).trans (HW6.out.block k hk hk2)⟩⟩
    · have hlb : decide ((0 : Int) < (xs.length : Int)) = false := decide_eq_false (by omega)
      go_wp2_with fail
      go_ret
      exact ⟨_, ys, rfl, by omega, HO4.out.mono (by omega) (by omega), HS4.out, HW4.out⟩
  · have hdb : (d == 0) = false := by simp [hd]
    clear hd
    go_wp2_with fail
    go_ret
    exact ⟨_, ys, rfl, by omega, HO4.out.mono (by omega) (by omega), HS4.out, HW4.out⟩
/-- The end of a draw of two lists. -/
def Mkll (w : World) : Ending → World → Prop := fun e w' => ∃ u v xs ys, e = .returned (.tuple #[u, v]) ∧ IS w' u xs ∧ IS w' v ys ∧ xs.length ≤ 301 ∧ ys.length ≤ 301 ∧ Below w.heap.size w w'
set_option maxHeartbeats 1600000 in
theorem c_l01TwoPartitions {w : World} {ao : Option Addr} {len cap : Nat} (h : RawB w (.slice ao len cap)) (hl : len ≤ 4096) : Calls Try.prog 46 #[.slice ao len cap] w (Mkll w) := by
  have HF := Lib.hid (c_l01From h hl)
  clear h
  go_enter Try.func46, Try.ntmps46
  go_wp2_with fail
  refine HF.out.mono ?_
  rintro e w1 ⟨p, rfl, hs1, hp, hb1⟩
  have HB1 := Lib.hid hb1
  have HS1 := Lib.hid hs1
  clear hs1 hb1 HF
  go_wp2_with fail
  refine (c_l01Next HS1.out 9 (by constructor <;> omega)).mono ?_
  rintro e w2 ⟨m, rfl, m0, m1, hs2, hw2⟩
  have m2 := m1 (by omega)
  have hz2 := hw2.size
  have hz1 := HB1.out.size
  have HB2 := Lib.hid (hw2.below HB1.out hp (by omega))
  have HS2 := Lib.hid hs2
  clear hs2 hw2 m1
  go_wp2_with fail
  refine (c_l01Partition HS2.out m (by constructor <;> omega)).mono ?_
  rintro e w3 ⟨u, xs, rfl, hxl, ho3, hs3, hw3⟩
  obtain ⟨au, cu, rfl⟩ := ho3.own.shape
  have hz3 := hw3.size
  have hp2 := HS2.out.lt
  have HB3 := Lib.hid (hw3.below HB2.out hp (by omega))
  have HS3 := Lib.hid hs3
  have HO3 := Lib.hid ho3
  clear hs3 hw3 ho3
  go_wp2_with fail
  refine (c_l01Next HS3.out 30 (by constructor <;> omega)).mono ?_
  rintro e w4 ⟨d, rfl, -, -, hs4, hw4⟩
  have hz4 := hw4.size
  have HB4 := Lib.hid (hw4.below HB3.out hp (by omega))
  have HS4 := Lib.hid hs4
  have HO4 := Lib.hid (HO3.out.kept hw4 (.inr (by omega)))
  clear hs4 hw4 HO3
  by_cases hd : d = 0
  · have hdb : (d == 0) = true := by simp [hd]
    clear hd
    go_wp2_with fail
    refine (c_l01Partition HS4.out (m + 1) (by constructor <;> omega)).mono ?_
    rintro e w5 ⟨v, ys, rfl, hyl, ho5, hs5, hw5⟩
    obtain ⟨av, cv, rfl⟩ := ho5.own.shape
    have HB5 := Lib.hid (hw5.below HB4.out hp (by omega))
    have HI4 := Lib.hid (HO4.out.kept hw5 (.inr (by omega))).is
    have HI5 := Lib.hid ho5.is
    clear hs5 hw5 ho5
    go_wp2_with fail
    go_ret2
    exact ⟨_, _, xs, ys, rfl, HI4.out, HI5.out, hxl, hyl, HB5.out⟩
  · have hdb : (d == 0) = false := by simp [hd]
    clear hd
    go_wp2_with fail
    refine (c_l01Partition HS4.out m (by constructor <;> omega)).mono ?_
    rintro e w5 ⟨v, ys, rfl, hyl, ho5, hs5, hw5⟩
    obtain ⟨av, cv, rfl⟩ := ho5.own.shape
    have HB5 := Lib.hid (hw5.below HB4.out hp (by omega))
    have HI4 := Lib.hid (HO4.out.kept hw5 (.inr (by omega))).is
    have HI5 := Lib.hid ho5.is
    clear hs5 hw5 ho5
    go_wp2_with fail
    go_ret2
    exact ⟨_, _, xs, ys, rfl, HI4.out, HI5.out, hxl, hyl, HB5.out⟩
theorem c_DrawMeetPartitions {w : World} {ao : Option Addr} {len cap : Nat} (h : RawB w (.slice ao len cap)) (hl : len ≤ 4096) : Calls Try.prog 13 #[.slice ao len cap] w (Mkll w) := by
  have HF := Lib.hid (c_l01TwoPartitions h hl)
  clear h
  go_enter Try.func13, Try.ntmps13
  go_wp2_with fail
  refine HF.out.mono ?_
  rintro e w1 ⟨u, v, xs, ys, rfl, hu, hv, hx, hy, hb⟩
  have HU := Lib.hid hu
  have HV := Lib.hid hv
  have HB := Lib.hid hb
  clear hu hv hb HF
  go_wp2_with fail
  go_ret2
  exact ⟨_, _, xs, ys, rfl, HU.out, HV.out, hx, hy, HB.out⟩
end Go.Proofs.Ytocgbhcfnphnhaa
