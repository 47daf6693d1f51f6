/- FnExactPathCategory returns true for every input and leaves its arguments as they were. No condition. -/
import Derived.Test.YtllbjckbinolmaaSp
import Derived.Test.YtllbjckbinolmaaPiw
namespace Go.Proofs.Ytllbjckbinolmaa
open Go.ChangeShapes Go.WideShapes Go.ChangeAt Go.RowKit
set_option maxHeartbeats 6400000 in
theorem walk_FnExactPathCategory (aN : Int) (aFrom : Value) (aTo : Value) (w : World) (haN : I64 aN) (haFrom : RawI w aFrom) (haTo : RawI w aTo) :
    Calls Try.prog 3 #[.int .i64 aN, aFrom, aTo] w (fun e w' => e = .returned (.bool true) ∧ Below w.heap.size w w') := by
  obtain ⟨aoaFrom, lenaFrom, capaFrom, rfl, hlaFrom, hxaFrom⟩ := haFrom
  obtain ⟨aoaTo, lenaTo, capaTo, rfl, hlaTo, hxaTo⟩ := haTo
  rcases Nat.lt_or_ge 1048576 lenaFrom with hbaFrom | hbaFrom
  · go_enter Try.func3, Try.ntmps3
    go_wp2_with fail
    go_ret
    exact ⟨rfl, Below.refl _ _⟩
  obtain ⟨xsaFrom, hxlaFrom, IaFrom⟩ := hxaFrom hbaFrom
  clear hxaFrom
  rcases Nat.lt_or_ge 1048576 lenaTo with hbaTo | hbaTo
  · go_enter Try.func3, Try.ntmps3
    go_wp2_with fail
    go_ret
    exact ⟨rfl, Below.refl _ _⟩
  obtain ⟨xsaTo, hxlaTo, IaTo⟩ := hxaTo hbaTo
  clear hxaTo
  go_enter Try.func3, Try.ntmps3
  go_wp2_with fail
  refine (c_toInt64S IaFrom).mono ?_
  rintro e w1 ⟨u1, rfl, o1, b⟩
  have n := below_within b w.heap.size
  have z1 := n.size
  have B := n.below (Below.refl _ _) (Nat.le_refl _) (Nat.le_refl _)
  have JaFrom := IaFrom.kept B
  have JaTo := IaTo.kept B
  clear n b
  go_wp2_with fail
  refine (c_toInt64S JaTo).mono ?_
  rintro e w2 ⟨u2, rfl, o2, b⟩
  have n := below_within b w1.heap.size
  have z2 := n.size
  replace B := n.below B (by omega) (Nat.le_refl _)
  replace JaFrom := IaFrom.kept B
  replace JaTo := IaTo.kept B
  replace o1 := o1.kept n (by omega)
  clear n b
  go_wp2_with fail
  refine (s_PathCategory aN haN o1.is o2.is).mono ?_
  rintro e w3 ⟨u3, rfl, o3, b⟩
  obtain ⟨nu3, au3, lau3, kau3, bu3, lbu3, kbu3, cu3, lcu3, kcu3, du3, ldu3, kdu3, rfl⟩ := o3.shape5
  have n := below_within b w2.heap.size
  have z3 := n.size
  replace B := n.below B (by omega) (Nat.le_refl _)
  replace JaFrom := IaFrom.kept B
  replace JaTo := IaTo.kept B
  replace o1 := o1.kept n (by omega)
  replace o2 := o2.kept n (by omega)
  clear n b
  have lo3 := o3.size
  go_wp2_with fail
  have b : Below w3.heap.size w3 (w3.alloc (.cells #[.int .i64 nu3, .slice au3 lau3 kau3, .slice bu3 lbu3 kbu3, .slice cu3 lcu3 kcu3, .slice du3 ldu3 kdu3] 25)) := bel_box w3 _
  have Xu30 : (w3.alloc (.cells #[.int .i64 nu3, .slice au3 lau3 kau3, .slice bu3 lbu3 kbu3, .slice cu3 lcu3 kcu3, .slice du3 ldu3 kdu3] 25)).cell? ⟨w3.heap.size, 0, none⟩ = some (.int .i64 nu3) := by simp
  have Xu31 : (w3.alloc (.cells #[.int .i64 nu3, .slice au3 lau3 kau3, .slice bu3 lbu3 kbu3, .slice cu3 lcu3 kcu3, .slice du3 ldu3 kdu3] 25)).cell? ⟨w3.heap.size, 1, none⟩ = some (.slice au3 lau3 kau3) := by simp
  have Xu32 : (w3.alloc (.cells #[.int .i64 nu3, .slice au3 lau3 kau3, .slice bu3 lbu3 kbu3, .slice cu3 lcu3 kcu3, .slice du3 ldu3 kdu3] 25)).cell? ⟨w3.heap.size, 2, none⟩ = some (.slice bu3 lbu3 kbu3) := by simp
  have Xu33 : (w3.alloc (.cells #[.int .i64 nu3, .slice au3 lau3 kau3, .slice bu3 lbu3 kbu3, .slice cu3 lcu3 kcu3, .slice du3 ldu3 kdu3] 25)).cell? ⟨w3.heap.size, 3, none⟩ = some (.slice cu3 lcu3 kcu3) := by simp
  have Xu34 : (w3.alloc (.cells #[.int .i64 nu3, .slice au3 lau3 kau3, .slice bu3 lbu3 kbu3, .slice cu3 lcu3 kcu3, .slice du3 ldu3 kdu3] 25)).cell? ⟨w3.heap.size, 4, none⟩ = some (.slice du3 ldu3 kdu3) := by simp
  have hzu3 : w3.heap.size < (w3.alloc (.cells #[.int .i64 nu3, .slice au3 lau3 kau3, .slice bu3 lbu3 kbu3, .slice cu3 lcu3 kcu3, .slice du3 ldu3 kdu3] 25)).heap.size := by simp
  generalize (w3.alloc (.cells #[.int .i64 nu3, .slice au3 lau3 kau3, .slice bu3 lbu3 kbu3, .slice cu3 lcu3 kcu3, .slice du3 ldu3 kdu3] 25)) = w4 at *
  have n := below_within b w3.heap.size
  have z4 := n.size
  replace B := n.below B (by omega) (Nat.le_refl _)
  replace JaFrom := IaFrom.kept B
  replace JaTo := IaTo.kept B
  replace o1 := o1.kept n (by omega)
  replace o2 := o2.kept n (by omega)
  replace o3 := o3.kept n (by omega)
  clear n b
  refine (c_toInt64S JaFrom).mono ?_
  rintro e w5 ⟨u4, rfl, o4, b⟩
  have n := below_within b w4.heap.size
  have z5 := n.size
  replace B := n.below B (by omega) (Nat.le_refl _)
  replace Xu30 := within_cell n Xu30 (by omega)
  replace Xu31 := within_cell n Xu31 (by omega)
  replace Xu32 := within_cell n Xu32 (by omega)
  replace Xu33 := within_cell n Xu33 (by omega)
  replace Xu34 := within_cell n Xu34 (by omega)
  replace JaFrom := IaFrom.kept B
  replace JaTo := IaTo.kept B
  replace o1 := o1.kept n (by omega)
  replace o2 := o2.kept n (by omega)
  replace o3 := o3.kept n (by omega)
  clear n b
  go_wp2_with fail
  refine (c_toInt64S JaTo).mono ?_
  rintro e w6 ⟨u5, rfl, o5, b⟩
  have n := below_within b w5.heap.size
  have z6 := n.size
  replace B := n.below B (by omega) (Nat.le_refl _)
  replace Xu30 := within_cell n Xu30 (by omega)
  replace Xu31 := within_cell n Xu31 (by omega)
  replace Xu32 := within_cell n Xu32 (by omega)
  replace Xu33 := within_cell n Xu33 (by omega)
  replace Xu34 := within_cell n Xu34 (by omega)
  replace JaFrom := IaFrom.kept B
  replace JaTo := IaTo.kept B
  replace o1 := o1.kept n (by omega)
  replace o2 := o2.kept n (by omega)
  replace o3 := o3.kept n (by omega)
  replace o4 := o4.kept n (by omega)
  clear n b
  go_wp2_with fail
  refine (i_PathCategory aN haN o4.is o5.is).mono ?_
  rintro e w7 ⟨u6, rfl, o6, b⟩
  obtain ⟨nu6, au6, lau6, kau6, bu6, lbu6, kbu6, cu6, lcu6, kcu6, du6, ldu6, kdu6, rfl⟩ := o6.shape5
  have n := below_within b w6.heap.size
  have z7 := n.size
  replace B := n.below B (by omega) (Nat.le_refl _)
  replace Xu30 := within_cell n Xu30 (by omega)
  replace Xu31 := within_cell n Xu31 (by omega)
  replace Xu32 := within_cell n Xu32 (by omega)
  replace Xu33 := within_cell n Xu33 (by omega)
  replace Xu34 := within_cell n Xu34 (by omega)
  replace JaFrom := IaFrom.kept B
  replace JaTo := IaTo.kept B
  replace o1 := o1.kept n (by omega)
  replace o2 := o2.kept n (by omega)
  replace o3 := o3.kept n (by omega)
  replace o4 := o4.kept n (by omega)
  replace o5 := o5.kept n (by omega)
  clear n b
  have lo6 := o6.size
  replace Xu30 := up_cell (bel_box w7 (.cells #[.int .i64 nu6, .slice au6 lau6 kau6, .slice bu6 lbu6 kbu6, .slice cu6 lcu6 kcu6, .slice du6 ldu6 kdu6] 25)) Xu30
  replace Xu31 := up_cell (bel_box w7 (.cells #[.int .i64 nu6, .slice au6 lau6 kau6, .slice bu6 lbu6 kbu6, .slice cu6 lcu6 kcu6, .slice du6 ldu6 kdu6] 25)) Xu31
  replace Xu32 := up_cell (bel_box w7 (.cells #[.int .i64 nu6, .slice au6 lau6 kau6, .slice bu6 lbu6 kbu6, .slice cu6 lcu6 kcu6, .slice du6 ldu6 kdu6] 25)) Xu32
  replace Xu33 := up_cell (bel_box w7 (.cells #[.int .i64 nu6, .slice au6 lau6 kau6, .slice bu6 lbu6 kbu6, .slice cu6 lcu6 kcu6, .slice du6 ldu6 kdu6] 25)) Xu33
  replace Xu34 := up_cell (bel_box w7 (.cells #[.int .i64 nu6, .slice au6 lau6 kau6, .slice bu6 lbu6 kbu6, .slice cu6 lcu6 kcu6, .slice du6 ldu6 kdu6] 25)) Xu34
  go_wp2_with fail
  have b : Below w7.heap.size w7 (w7.alloc (.cells #[.int .i64 nu6, .slice au6 lau6 kau6, .slice bu6 lbu6 kbu6, .slice cu6 lcu6 kcu6, .slice du6 ldu6 kdu6] 25)) := bel_box w7 _
  have Xu60 : (w7.alloc (.cells #[.int .i64 nu6, .slice au6 lau6 kau6, .slice bu6 lbu6 kbu6, .slice cu6 lcu6 kcu6, .slice du6 ldu6 kdu6] 25)).cell? ⟨w7.heap.size, 0, none⟩ = some (.int .i64 nu6) := by simp
  have Xu61 : (w7.alloc (.cells #[.int .i64 nu6, .slice au6 lau6 kau6, .slice bu6 lbu6 kbu6, .slice cu6 lcu6 kcu6, .slice du6 ldu6 kdu6] 25)).cell? ⟨w7.heap.size, 1, none⟩ = some (.slice au6 lau6 kau6) := by simp
  have Xu62 : (w7.alloc (.cells #[.int .i64 nu6, .slice au6 lau6 kau6, .slice bu6 lbu6 kbu6, .slice cu6 lcu6 kcu6, .slice du6 ldu6 kdu6] 25)).cell? ⟨w7.heap.size, 2, none⟩ = some (.slice bu6 lbu6 kbu6) := by simp
  have Xu63 : (w7.alloc (.cells #[.int .i64 nu6, .slice au6 lau6 kau6, .slice bu6 lbu6 kbu6, .slice cu6 lcu6 kcu6, .slice du6 ldu6 kdu6] 25)).cell? ⟨w7.heap.size, 3, none⟩ = some (.slice cu6 lcu6 kcu6) := by simp
  have Xu64 : (w7.alloc (.cells #[.int .i64 nu6, .slice au6 lau6 kau6, .slice bu6 lbu6 kbu6, .slice cu6 lcu6 kcu6, .slice du6 ldu6 kdu6] 25)).cell? ⟨w7.heap.size, 4, none⟩ = some (.slice du6 ldu6 kdu6) := by simp
  have hzu6 : w7.heap.size < (w7.alloc (.cells #[.int .i64 nu6, .slice au6 lau6 kau6, .slice bu6 lbu6 kbu6, .slice cu6 lcu6 kcu6, .slice du6 ldu6 kdu6] 25)).heap.size := by simp
  generalize (w7.alloc (.cells #[.int .i64 nu6, .slice au6 lau6 kau6, .slice bu6 lbu6 kbu6, .slice cu6 lcu6 kcu6, .slice du6 ldu6 kdu6] 25)) = w8 at *
  have n := below_within b w7.heap.size
  have z8 := n.size
  replace B := n.below B (by omega) (Nat.le_refl _)
  replace JaFrom := IaFrom.kept B
  replace JaTo := IaTo.kept B
  replace o1 := o1.kept n (by omega)
  replace o2 := o2.kept n (by omega)
  replace o3 := o3.kept n (by omega)
  replace o4 := o4.kept n (by omega)
  replace o5 := o5.kept n (by omega)
  replace o6 := o6.kept n (by omega)
  clear n b
  refine (c_eqCategory_refl o6.is o3.is).mono ?_
  rintro e w9 ⟨rfl, b⟩
  have n := below_within b w8.heap.size
  have z9 := n.size
  replace B := n.below B (by omega) (Nat.le_refl _)
  replace Xu30 := within_cell n Xu30 (by omega)
  replace Xu31 := within_cell n Xu31 (by omega)
  replace Xu32 := within_cell n Xu32 (by omega)
  replace Xu33 := within_cell n Xu33 (by omega)
  replace Xu34 := within_cell n Xu34 (by omega)
  replace Xu60 := within_cell n Xu60 (by omega)
  replace Xu61 := within_cell n Xu61 (by omega)
  replace Xu62 := within_cell n Xu62 (by omega)
  replace Xu63 := within_cell n Xu63 (by omega)
  replace Xu64 := within_cell n Xu64 (by omega)
  replace JaFrom := IaFrom.kept B
  replace JaTo := IaTo.kept B
  replace o1 := o1.kept n (by omega)
  replace o2 := o2.kept n (by omega)
  replace o3 := o3.kept n (by omega)
  replace o4 := o4.kept n (by omega)
  replace o5 := o5.kept n (by omega)
  replace o6 := o6.kept n (by omega)
  clear n b
  go_wp2_with fail
  refine (c_toInt64S JaFrom).mono ?_
  rintro e w10 ⟨u7, rfl, o7, b⟩
  have n := below_within b w9.heap.size
  have z10 := n.size
  replace B := n.below B (by omega) (Nat.le_refl _)
  replace Xu30 := within_cell n Xu30 (by omega)
  replace Xu31 := within_cell n Xu31 (by omega)
  replace Xu32 := within_cell n Xu32 (by omega)
  replace Xu33 := within_cell n Xu33 (by omega)
  replace Xu34 := within_cell n Xu34 (by omega)
  replace Xu60 := within_cell n Xu60 (by omega)
  replace Xu61 := within_cell n Xu61 (by omega)
  replace Xu62 := within_cell n Xu62 (by omega)
  replace Xu63 := within_cell n Xu63 (by omega)
  replace Xu64 := within_cell n Xu64 (by omega)
  replace JaFrom := IaFrom.kept B
  replace JaTo := IaTo.kept B
  replace o1 := o1.kept n (by omega)
  replace o2 := o2.kept n (by omega)
  replace o3 := o3.kept n (by omega)
  replace o4 := o4.kept n (by omega)
  replace o5 := o5.kept n (by omega)
  replace o6 := o6.kept n (by omega)
  clear n b
  go_wp2_with fail
  refine (c_eqInt64S_refl o4.is o7.is).mono ?_
  rintro e w11 ⟨rfl, d⟩
  have b := d.below w10.heap.size
  clear d
  have n := below_within b w10.heap.size
  have z11 := n.size
  replace B := n.below B (by omega) (Nat.le_refl _)
  replace Xu30 := within_cell n Xu30 (by omega)
  replace Xu31 := within_cell n Xu31 (by omega)
  replace Xu32 := within_cell n Xu32 (by omega)
  replace Xu33 := within_cell n Xu33 (by omega)
  replace Xu34 := within_cell n Xu34 (by omega)
  replace Xu60 := within_cell n Xu60 (by omega)
  replace Xu61 := within_cell n Xu61 (by omega)
  replace Xu62 := within_cell n Xu62 (by omega)
  replace Xu63 := within_cell n Xu63 (by omega)
  replace Xu64 := within_cell n Xu64 (by omega)
  replace JaFrom := IaFrom.kept B
  replace JaTo := IaTo.kept B
  replace o1 := o1.kept n (by omega)
  replace o2 := o2.kept n (by omega)
  replace o3 := o3.kept n (by omega)
  replace o4 := o4.kept n (by omega)
  replace o5 := o5.kept n (by omega)
  replace o6 := o6.kept n (by omega)
  replace o7 := o7.kept n (by omega)
  clear n b
  go_wp2_with fail
  refine (c_toInt64S JaTo).mono ?_
  rintro e w12 ⟨u8, rfl, o8, b⟩
  have n := below_within b w11.heap.size
  have z12 := n.size
  replace B := n.below B (by omega) (Nat.le_refl _)
  replace Xu30 := within_cell n Xu30 (by omega)
  replace Xu31 := within_cell n Xu31 (by omega)
  replace Xu32 := within_cell n Xu32 (by omega)
  replace Xu33 := within_cell n Xu33 (by omega)
  replace Xu34 := within_cell n Xu34 (by omega)
  replace Xu60 := within_cell n Xu60 (by omega)
  replace Xu61 := within_cell n Xu61 (by omega)
  replace Xu62 := within_cell n Xu62 (by omega)
  replace Xu63 := within_cell n Xu63 (by omega)
  replace Xu64 := within_cell n Xu64 (by omega)
  replace JaFrom := IaFrom.kept B
  replace JaTo := IaTo.kept B
  replace o1 := o1.kept n (by omega)
  replace o2 := o2.kept n (by omega)
  replace o3 := o3.kept n (by omega)
  replace o4 := o4.kept n (by omega)
  replace o5 := o5.kept n (by omega)
  replace o6 := o6.kept n (by omega)
  replace o7 := o7.kept n (by omega)
  clear n b
  go_wp2_with fail
  refine (c_eqInt64S_refl o5.is o8.is).mono ?_
  rintro e w13 ⟨rfl, d⟩
  have b := d.below w12.heap.size
  clear d
  have n := below_within b w12.heap.size
  have z13 := n.size
  replace B := n.below B (by omega) (Nat.le_refl _)
  replace Xu30 := within_cell n Xu30 (by omega)
  replace Xu31 := within_cell n Xu31 (by omega)
  replace Xu32 := within_cell n Xu32 (by omega)
  replace Xu33 := within_cell n Xu33 (by omega)
  replace Xu34 := within_cell n Xu34 (by omega)
  replace Xu60 := within_cell n Xu60 (by omega)
  replace Xu61 := within_cell n Xu61 (by omega)
  replace Xu62 := within_cell n Xu62 (by omega)
  replace Xu63 := within_cell n Xu63 (by omega)
  replace Xu64 := within_cell n Xu64 (by omega)
  replace JaFrom := IaFrom.kept B
  replace JaTo := IaTo.kept B
  replace o1 := o1.kept n (by omega)
  replace o2 := o2.kept n (by omega)
  replace o3 := o3.kept n (by omega)
  replace o4 := o4.kept n (by omega)
  replace o5 := o5.kept n (by omega)
  replace o6 := o6.kept n (by omega)
  replace o7 := o7.kept n (by omega)
  replace o8 := o8.kept n (by omega)
  clear n b
  go_wp2_with fail
  refine (c_markInt64S o4 _ (by omega) (by omega)).mono ?_
  rintro e w14 ⟨rfl, o4, n⟩
  have z14 := n.size
  replace B := n.below B (by omega) (Nat.le_refl _)
  replace Xu30 := within_cell n Xu30 (by omega)
  replace Xu31 := within_cell n Xu31 (by omega)
  replace Xu32 := within_cell n Xu32 (by omega)
  replace Xu33 := within_cell n Xu33 (by omega)
  replace Xu34 := within_cell n Xu34 (by omega)
  replace Xu60 := within_cell n Xu60 (by omega)
  replace Xu61 := within_cell n Xu61 (by omega)
  replace Xu62 := within_cell n Xu62 (by omega)
  replace Xu63 := within_cell n Xu63 (by omega)
  replace Xu64 := within_cell n Xu64 (by omega)
  replace JaFrom := IaFrom.kept B
  replace JaTo := IaTo.kept B
  replace o1 := o1.kept n (by omega)
  replace o2 := o2.kept n (by omega)
  replace o3 := o3.kept n (by omega)
  replace o5 := o5.kept n (by omega)
  replace o6 := o6.kept n (by omega)
  replace o7 := o7.kept n (by omega)
  replace o8 := o8.kept n (by omega)
  clear n
  go_wp2_with fail
  refine (c_markInt64S o5 _ (by omega) (by omega)).mono ?_
  rintro e w15 ⟨rfl, o5, n⟩
  have z15 := n.size
  replace B := n.below B (by omega) (Nat.le_refl _)
  replace Xu30 := within_cell n Xu30 (by omega)
  replace Xu31 := within_cell n Xu31 (by omega)
  replace Xu32 := within_cell n Xu32 (by omega)
  replace Xu33 := within_cell n Xu33 (by omega)
  replace Xu34 := within_cell n Xu34 (by omega)
  replace Xu60 := within_cell n Xu60 (by omega)
  replace Xu61 := within_cell n Xu61 (by omega)
  replace Xu62 := within_cell n Xu62 (by omega)
  replace Xu63 := within_cell n Xu63 (by omega)
  replace Xu64 := within_cell n Xu64 (by omega)
  replace JaFrom := IaFrom.kept B
  replace JaTo := IaTo.kept B
  replace o1 := o1.kept n (by omega)
  replace o2 := o2.kept n (by omega)
  replace o3 := o3.kept n (by omega)
  replace o4 := o4.kept n (by omega)
  replace o6 := o6.kept n (by omega)
  replace o7 := o7.kept n (by omega)
  replace o8 := o8.kept n (by omega)
  clear n
  go_wp2_with fail
  refine (c_eqCategory_refl o6.is o3.is).mono ?_
  rintro e w16 ⟨rfl, b⟩
  have n := below_within b w15.heap.size
  have z16 := n.size
  replace B := n.below B (by omega) (Nat.le_refl _)
  replace Xu30 := within_cell n Xu30 (by omega)
  replace Xu31 := within_cell n Xu31 (by omega)
  replace Xu32 := within_cell n Xu32 (by omega)
  replace Xu33 := within_cell n Xu33 (by omega)
  replace Xu34 := within_cell n Xu34 (by omega)
  replace Xu60 := within_cell n Xu60 (by omega)
  replace Xu61 := within_cell n Xu61 (by omega)
  replace Xu62 := within_cell n Xu62 (by omega)
  replace Xu63 := within_cell n Xu63 (by omega)
  replace Xu64 := within_cell n Xu64 (by omega)
  replace JaFrom := IaFrom.kept B
  replace JaTo := IaTo.kept B
  replace o1 := o1.kept n (by omega)
  replace o2 := o2.kept n (by omega)
  replace o3 := o3.kept n (by omega)
  replace o4 := o4.kept n (by omega)
  replace o5 := o5.kept n (by omega)
  replace o6 := o6.kept n (by omega)
  replace o7 := o7.kept n (by omega)
  replace o8 := o8.kept n (by omega)
  clear n b
  go_wp2_with fail
  refine (c_markCategory o6 _ (by omega) (by omega)).mono ?_
  rintro e w17 ⟨rfl, o6, n⟩
  have z17 := n.size
  replace B := n.below B (by omega) (Nat.le_refl _)
  replace Xu30 := within_cell n Xu30 (by omega)
  replace Xu31 := within_cell n Xu31 (by omega)
  replace Xu32 := within_cell n Xu32 (by omega)
  replace Xu33 := within_cell n Xu33 (by omega)
  replace Xu34 := within_cell n Xu34 (by omega)
  replace Xu60 := within_cell n Xu60 (by omega)
  replace Xu61 := within_cell n Xu61 (by omega)
  replace Xu62 := within_cell n Xu62 (by omega)
  replace Xu63 := within_cell n Xu63 (by omega)
  replace Xu64 := within_cell n Xu64 (by omega)
  replace JaFrom := IaFrom.kept B
  replace JaTo := IaTo.kept B
  replace o1 := o1.kept n (by omega)
  replace o2 := o2.kept n (by omega)
  replace o3 := o3.kept n (by omega)
  replace o4 := o4.kept n (by omega)
  replace o5 := o5.kept n (by omega)
  replace o7 := o7.kept n (by omega)
  replace o8 := o8.kept n (by omega)
  clear n
  go_wp2_with fail
  refine (c_heldCategory o6.is (by omega) (by omega)).mono ?_
  rintro e w18 ⟨rfl, b⟩
  have n := below_within b w17.heap.size
  have z18 := n.size
  replace B := n.below B (by omega) (Nat.le_refl _)
  replace Xu30 := within_cell n Xu30 (by omega)
  replace Xu31 := within_cell n Xu31 (by omega)
  replace Xu32 := within_cell n Xu32 (by omega)
  replace Xu33 := within_cell n Xu33 (by omega)
  replace Xu34 := within_cell n Xu34 (by omega)
  replace Xu60 := within_cell n Xu60 (by omega)
  replace Xu61 := within_cell n Xu61 (by omega)
  replace Xu62 := within_cell n Xu62 (by omega)
  replace Xu63 := within_cell n Xu63 (by omega)
  replace Xu64 := within_cell n Xu64 (by omega)
  replace JaFrom := IaFrom.kept B
  replace JaTo := IaTo.kept B
  replace o1 := o1.kept n (by omega)
  replace o2 := o2.kept n (by omega)
  replace o3 := o3.kept n (by omega)
  replace o4 := o4.kept n (by omega)
  replace o5 := o5.kept n (by omega)
  replace o6 := o6.kept n (by omega)
  replace o7 := o7.kept n (by omega)
  replace o8 := o8.kept n (by omega)
  clear n b
  go_wp2_with fail
  refine (c_toInt64S JaFrom).mono ?_
  rintro e w19 ⟨u9, rfl, o9, b⟩
  have n := below_within b w18.heap.size
  have z19 := n.size
  replace B := n.below B (by omega) (Nat.le_refl _)
  replace Xu30 := within_cell n Xu30 (by omega)
  replace Xu31 := within_cell n Xu31 (by omega)
  replace Xu32 := within_cell n Xu32 (by omega)
  replace Xu33 := within_cell n Xu33 (by omega)
  replace Xu34 := within_cell n Xu34 (by omega)
  replace Xu60 := within_cell n Xu60 (by omega)
  replace Xu61 := within_cell n Xu61 (by omega)
  replace Xu62 := within_cell n Xu62 (by omega)
  replace Xu63 := within_cell n Xu63 (by omega)
  replace Xu64 := within_cell n Xu64 (by omega)
  replace JaFrom := IaFrom.kept B
  replace JaTo := IaTo.kept B
  replace o1 := o1.kept n (by omega)
  replace o2 := o2.kept n (by omega)
  replace o3 := o3.kept n (by omega)
  replace o4 := o4.kept n (by omega)
  replace o5 := o5.kept n (by omega)
  replace o6 := o6.kept n (by omega)
  replace o7 := o7.kept n (by omega)
  replace o8 := o8.kept n (by omega)
  clear n b
  go_wp2_with fail
  refine (c_toInt64S JaTo).mono ?_
  rintro e w20 ⟨u10, rfl, o10, b⟩
  have n := below_within b w19.heap.size
  have z20 := n.size
  replace B := n.below B (by omega) (Nat.le_refl _)
  replace Xu30 := within_cell n Xu30 (by omega)
  replace Xu31 := within_cell n Xu31 (by omega)
  replace Xu32 := within_cell n Xu32 (by omega)
  replace Xu33 := within_cell n Xu33 (by omega)
  replace Xu34 := within_cell n Xu34 (by omega)
  replace Xu60 := within_cell n Xu60 (by omega)
  replace Xu61 := within_cell n Xu61 (by omega)
  replace Xu62 := within_cell n Xu62 (by omega)
  replace Xu63 := within_cell n Xu63 (by omega)
  replace Xu64 := within_cell n Xu64 (by omega)
  replace JaFrom := IaFrom.kept B
  replace JaTo := IaTo.kept B
  replace o1 := o1.kept n (by omega)
  replace o2 := o2.kept n (by omega)
  replace o3 := o3.kept n (by omega)
  replace o4 := o4.kept n (by omega)
  replace o5 := o5.kept n (by omega)
  replace o6 := o6.kept n (by omega)
  replace o7 := o7.kept n (by omega)
  replace o8 := o8.kept n (by omega)
  replace o9 := o9.kept n (by omega)
  clear n b
  go_wp2_with fail
  refine (i_PathCategory aN haN o9.is o10.is).mono ?_
  rintro e w21 ⟨u11, rfl, o11, b⟩
  obtain ⟨nu11, au11, lau11, kau11, bu11, lbu11, kbu11, cu11, lcu11, kcu11, du11, ldu11, kdu11, rfl⟩ := o11.shape5
  have n := below_within b w20.heap.size
  have z21 := n.size
  replace B := n.below B (by omega) (Nat.le_refl _)
  replace Xu30 := within_cell n Xu30 (by omega)
  replace Xu31 := within_cell n Xu31 (by omega)
  replace Xu32 := within_cell n Xu32 (by omega)
  replace Xu33 := within_cell n Xu33 (by omega)
  replace Xu34 := within_cell n Xu34 (by omega)
  replace Xu60 := within_cell n Xu60 (by omega)
  replace Xu61 := within_cell n Xu61 (by omega)
  replace Xu62 := within_cell n Xu62 (by omega)
  replace Xu63 := within_cell n Xu63 (by omega)
  replace Xu64 := within_cell n Xu64 (by omega)
  replace JaFrom := IaFrom.kept B
  replace JaTo := IaTo.kept B
  replace o1 := o1.kept n (by omega)
  replace o2 := o2.kept n (by omega)
  replace o3 := o3.kept n (by omega)
  replace o4 := o4.kept n (by omega)
  replace o5 := o5.kept n (by omega)
  replace o6 := o6.kept n (by omega)
  replace o7 := o7.kept n (by omega)
  replace o8 := o8.kept n (by omega)
  replace o9 := o9.kept n (by omega)
  replace o10 := o10.kept n (by omega)
  clear n b
  have lo11 := o11.size
  replace Xu30 := up_cell (bel_box w21 (.cells #[.int .i64 nu11, .slice au11 lau11 kau11, .slice bu11 lbu11 kbu11, .slice cu11 lcu11 kcu11, .slice du11 ldu11 kdu11] 25)) Xu30
  replace Xu31 := up_cell (bel_box w21 (.cells #[.int .i64 nu11, .slice au11 lau11 kau11, .slice bu11 lbu11 kbu11, .slice cu11 lcu11 kcu11, .slice du11 ldu11 kdu11] 25)) Xu31
  replace Xu32 := up_cell (bel_box w21 (.cells #[.int .i64 nu11, .slice au11 lau11 kau11, .slice bu11 lbu11 kbu11, .slice cu11 lcu11 kcu11, .slice du11 ldu11 kdu11] 25)) Xu32
  replace Xu33 := up_cell (bel_box w21 (.cells #[.int .i64 nu11, .slice au11 lau11 kau11, .slice bu11 lbu11 kbu11, .slice cu11 lcu11 kcu11, .slice du11 ldu11 kdu11] 25)) Xu33
  replace Xu34 := up_cell (bel_box w21 (.cells #[.int .i64 nu11, .slice au11 lau11 kau11, .slice bu11 lbu11 kbu11, .slice cu11 lcu11 kcu11, .slice du11 ldu11 kdu11] 25)) Xu34
  replace Xu60 := up_cell (bel_box w21 (.cells #[.int .i64 nu11, .slice au11 lau11 kau11, .slice bu11 lbu11 kbu11, .slice cu11 lcu11 kcu11, .slice du11 ldu11 kdu11] 25)) Xu60
  replace Xu61 := up_cell (bel_box w21 (.cells #[.int .i64 nu11, .slice au11 lau11 kau11, .slice bu11 lbu11 kbu11, .slice cu11 lcu11 kcu11, .slice du11 ldu11 kdu11] 25)) Xu61
  replace Xu62 := up_cell (bel_box w21 (.cells #[.int .i64 nu11, .slice au11 lau11 kau11, .slice bu11 lbu11 kbu11, .slice cu11 lcu11 kcu11, .slice du11 ldu11 kdu11] 25)) Xu62
  replace Xu63 := up_cell (bel_box w21 (.cells #[.int .i64 nu11, .slice au11 lau11 kau11, .slice bu11 lbu11 kbu11, .slice cu11 lcu11 kcu11, .slice du11 ldu11 kdu11] 25)) Xu63
  replace Xu64 := up_cell (bel_box w21 (.cells #[.int .i64 nu11, .slice au11 lau11 kau11, .slice bu11 lbu11 kbu11, .slice cu11 lcu11 kcu11, .slice du11 ldu11 kdu11] 25)) Xu64
  go_wp2_with fail
  have b : Below w21.heap.size w21 (w21.alloc (.cells #[.int .i64 nu11, .slice au11 lau11 kau11, .slice bu11 lbu11 kbu11, .slice cu11 lcu11 kcu11, .slice du11 ldu11 kdu11] 25)) := bel_box w21 _
  have Xu110 : (w21.alloc (.cells #[.int .i64 nu11, .slice au11 lau11 kau11, .slice bu11 lbu11 kbu11, .slice cu11 lcu11 kcu11, .slice du11 ldu11 kdu11] 25)).cell? ⟨w21.heap.size, 0, none⟩ = some (.int .i64 nu11) := by simp
  have Xu111 : (w21.alloc (.cells #[.int .i64 nu11, .slice au11 lau11 kau11, .slice bu11 lbu11 kbu11, .slice cu11 lcu11 kcu11, .slice du11 ldu11 kdu11] 25)).cell? ⟨w21.heap.size, 1, none⟩ = some (.slice au11 lau11 kau11) := by simp
  have Xu112 : (w21.alloc (.cells #[.int .i64 nu11, .slice au11 lau11 kau11, .slice bu11 lbu11 kbu11, .slice cu11 lcu11 kcu11, .slice du11 ldu11 kdu11] 25)).cell? ⟨w21.heap.size, 2, none⟩ = some (.slice bu11 lbu11 kbu11) := by simp
  have Xu113 : (w21.alloc (.cells #[.int .i64 nu11, .slice au11 lau11 kau11, .slice bu11 lbu11 kbu11, .slice cu11 lcu11 kcu11, .slice du11 ldu11 kdu11] 25)).cell? ⟨w21.heap.size, 3, none⟩ = some (.slice cu11 lcu11 kcu11) := by simp
  have Xu114 : (w21.alloc (.cells #[.int .i64 nu11, .slice au11 lau11 kau11, .slice bu11 lbu11 kbu11, .slice cu11 lcu11 kcu11, .slice du11 ldu11 kdu11] 25)).cell? ⟨w21.heap.size, 4, none⟩ = some (.slice du11 ldu11 kdu11) := by simp
  have hzu11 : w21.heap.size < (w21.alloc (.cells #[.int .i64 nu11, .slice au11 lau11 kau11, .slice bu11 lbu11 kbu11, .slice cu11 lcu11 kcu11, .slice du11 ldu11 kdu11] 25)).heap.size := by simp
  generalize (w21.alloc (.cells #[.int .i64 nu11, .slice au11 lau11 kau11, .slice bu11 lbu11 kbu11, .slice cu11 lcu11 kcu11, .slice du11 ldu11 kdu11] 25)) = w22 at *
  have n := below_within b w21.heap.size
  have z22 := n.size
  replace B := n.below B (by omega) (Nat.le_refl _)
  replace JaFrom := IaFrom.kept B
  replace JaTo := IaTo.kept B
  replace o1 := o1.kept n (by omega)
  replace o2 := o2.kept n (by omega)
  replace o3 := o3.kept n (by omega)
  replace o4 := o4.kept n (by omega)
  replace o5 := o5.kept n (by omega)
  replace o6 := o6.kept n (by omega)
  replace o7 := o7.kept n (by omega)
  replace o8 := o8.kept n (by omega)
  replace o9 := o9.kept n (by omega)
  replace o10 := o10.kept n (by omega)
  replace o11 := o11.kept n (by omega)
  clear n b
  refine (c_eqCategory_refl o11.is o3.is).mono ?_
  rintro e w23 ⟨rfl, b⟩
  have n := below_within b w22.heap.size
  have z23 := n.size
  replace B := n.below B (by omega) (Nat.le_refl _)
  replace Xu30 := within_cell n Xu30 (by omega)
  replace Xu31 := within_cell n Xu31 (by omega)
  replace Xu32 := within_cell n Xu32 (by omega)
  replace Xu33 := within_cell n Xu33 (by omega)
  replace Xu34 := within_cell n Xu34 (by omega)
  replace Xu60 := within_cell n Xu60 (by omega)
  replace Xu61 := within_cell n Xu61 (by omega)
  replace Xu62 := within_cell n Xu62 (by omega)
  replace Xu63 := within_cell n Xu63 (by omega)
  replace Xu64 := within_cell n Xu64 (by omega)
  replace Xu110 := within_cell n Xu110 (by omega)
  replace Xu111 := within_cell n Xu111 (by omega)
  replace Xu112 := within_cell n Xu112 (by omega)
  replace Xu113 := within_cell n Xu113 (by omega)
  replace Xu114 := within_cell n Xu114 (by omega)
  replace JaFrom := IaFrom.kept B
  replace JaTo := IaTo.kept B
  replace o1 := o1.kept n (by omega)
  replace o2 := o2.kept n (by omega)
  replace o3 := o3.kept n (by omega)
  replace o4 := o4.kept n (by omega)
  replace o5 := o5.kept n (by omega)
  replace o6 := o6.kept n (by omega)
  replace o7 := o7.kept n (by omega)
  replace o8 := o8.kept n (by omega)
  replace o9 := o9.kept n (by omega)
  replace o10 := o10.kept n (by omega)
  replace o11 := o11.kept n (by omega)
  clear n b
  go_wp2_with fail
  refine (c_heldCategory o6.is (by omega) (by omega)).mono ?_
  rintro e w24 ⟨rfl, b⟩
  have n := below_within b w23.heap.size
  have z24 := n.size
  replace B := n.below B (by omega) (Nat.le_refl _)
  replace Xu30 := within_cell n Xu30 (by omega)
  replace Xu31 := within_cell n Xu31 (by omega)
  replace Xu32 := within_cell n Xu32 (by omega)
  replace Xu33 := within_cell n Xu33 (by omega)
  replace Xu34 := within_cell n Xu34 (by omega)
  replace Xu60 := within_cell n Xu60 (by omega)
  replace Xu61 := within_cell n Xu61 (by omega)
  replace Xu62 := within_cell n Xu62 (by omega)
  replace Xu63 := within_cell n Xu63 (by omega)
  replace Xu64 := within_cell n Xu64 (by omega)
  replace Xu110 := within_cell n Xu110 (by omega)
  replace Xu111 := within_cell n Xu111 (by omega)
  replace Xu112 := within_cell n Xu112 (by omega)
  replace Xu113 := within_cell n Xu113 (by omega)
  replace Xu114 := within_cell n Xu114 (by omega)
  replace JaFrom := IaFrom.kept B
  replace JaTo := IaTo.kept B
  replace o1 := o1.kept n (by omega)
  replace o2 := o2.kept n (by omega)
  replace o3 := o3.kept n (by omega)
  replace o4 := o4.kept n (by omega)
  replace o5 := o5.kept n (by omega)
  replace o6 := o6.kept n (by omega)
  replace o7 := o7.kept n (by omega)
  replace o8 := o8.kept n (by omega)
  replace o9 := o9.kept n (by omega)
  replace o10 := o10.kept n (by omega)
  replace o11 := o11.kept n (by omega)
  clear n b
  go_wp2_with fail
  go_ret
  exact ⟨rfl, B⟩
section
set_option maxRecDepth 100000 in
theorem lifted_FnExactPathCategory (os : Os) (started : os.Started) (H : Type) (enc : TypeId × Value → H) :
    ReturnsInHanded {} Try.checked os 3 .any (Rows.fnExactPathCategorySpec.pre6 enc Try.prog Try.f3 Rows.fnExactPathCategoryRow.domain false) (Rows.fnExactPathCategorySpec.post enc Try.prog Try.f3 false true false false) := by
  refine returnsInHanded_of_change (C := Try.checked) ownKnobNone started (by kernel_rfl) Try.func3
    (ChangeSpec.witness6 (enc := enc) (C := Try.checked) false ⟨#[], #[.int .i64 0, .slice none 0 0, .slice none 0 0], []⟩ 8 (by kernel_rfl) (by kernel_rfl) (by kernel_rfl) (by kernel_rfl)) ?_
  intro W base args ds gs before hval0 hW hcnd _
  have hval : ∀ (j : Nat) t v, Try.f3.params[j]? = some t → args[j]? = some v → Value.okWide Try.prog W .any base t v := hval0
  have hW' := hW
  obtain ⟨p, q, hA0, hV, rfl, hfz, hnd⟩ := hW
  have hA : DataW.TrodAll enc Try.prog W 0 (fun _ => true) true Try.f3.params.toList args.toList ds p := hA0
  rw [Try.params3] at hA hval
  obtain ⟨v0, vs0, d0, ds0, p0, q0, hargs, rfl, rfl, h0, r0⟩ := trodAll_cons hA
  obtain ⟨v1, vs1, d1, ds1, p1, q1, rfl, rfl, rfl, h1, r1⟩ := trodAll_cons r0
  obtain ⟨v2, vs2, d2, ds2, p2, q2, rfl, rfl, rfl, h2, r2⟩ := trodAll_cons r1
  obtain ⟨rfl, rfl, rfl⟩ := trodAll_nil r2
  obtain rfl : args = #[v0, v1, v2] := by cases args; simp_all
  obtain ⟨rfl, rfl⟩ := trodVars_none hV
  obtain ⟨a0, rfl, rfl, rfl, w0⟩ := open_int Try.underlying2 (hval 0 2 v0 rfl rfl) h0
  have k1 := h1
  have lt1 : ∀ x ∈ p1, x.block < W.heap.size := by obtain ⟨m, hm⟩ := k1; exact DataW.trod_lt m _ _ _ hm
  obtain ⟨a1, len1, cap1, rfl⟩ := okWide_slice Try.underlying22 (hval 1 22 v1 rfl rfl)
  have w1 : RawI W (.slice a1 len1 cap1) := by obtain ⟨fuel, hf⟩ := h1; exact rawI_trod hf
  have k2 := h2
  have lt2 : ∀ x ∈ p2, x.block < W.heap.size := by obtain ⟨m, hm⟩ := k2; exact DataW.trod_lt m _ _ _ hm
  obtain ⟨a2, len2, cap2, rfl⟩ := okWide_slice Try.underlying22 (hval 2 22 v2 rfl rfl)
  have w2 : RawI W (.slice a2 len2 cap2) := by obtain ⟨fuel, hf⟩ := h2; exact rawI_trod hf
  clear hA0 hval0
  refine (walk_FnExactPathCategory a0 (.slice a1 len1 cap1) (.slice a2 len2 cap2) W (wf_I64 w0) w1 w2).mono fun e W' ⟨he, bel⟩ => ?_
  subst he
  exact ⟨_, rfl, _, _, _, [], _, [], hW', trodAll_mk1 (shut_bool Try.underlying4 _), (trodAll_cons_mk (shut_int Try.underlying2 w0) (trodAll_cons_mk (Below.trod laidOutB_prog (by kernel_rfl) (of_decide_eq_true (by kernel_rfl)) k1 bel lt1) (trodAll_cons_mk (Below.trod laidOutB_prog (by kernel_rfl) (of_decide_eq_true (by kernel_rfl)) k2 bel lt2) (trodAll_mk0)))), rfl, bel.frame _, fun h => by cases h⟩
end
/-- THE STATEMENT. -/
theorem proved_FnExactPathCategory : Rows.FnExactPathCategorySaid :=
  OpenClaim.holds_of_wide 3 Try.f3 rfl rfl rfl rfl rfl rfl rfl ⟨rfl, rfl, rfl, rfl, rfl⟩ rfl rfl rfl rfl rfl (by kernel_rfl) Try.func3 (by kernel_rfl)
    (of_decide_eq_true (by kernel_rfl)) (by unfold Func.isWrapper; first | (rw [if_pos (by decide +kernel)]; kernel_rfl) | (rw [if_neg (by decide +kernel)]; exact ⟨rfl, rfl⟩))
    (fun os started H enc _ => lifted_FnExactPathCategory os started H enc)
end Go.Proofs.Ytllbjckbinolmaa
