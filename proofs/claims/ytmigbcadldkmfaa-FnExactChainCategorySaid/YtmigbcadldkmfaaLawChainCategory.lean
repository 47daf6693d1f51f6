/- FnExactChainCategory returns true for every input and leaves its arguments as they were. No condition. -/
import Derived.Test.YtmigbcadldkmfaaChain
namespace Go.Proofs.Ytmigbcadldkmfaa
open Go.ChangeShapes Go.WideShapes Go.ChangeAt Go.RowKit
theorem walk_FnExactChainCategory (aN : Int) (w : World) (haN : I64 aN) :
    Calls Try.prog 3 #[.int .i64 aN] w (fun e w' => e = .returned (.bool true) ∧ Below w.heap.size w w') := by
  go_enter Try.func3, Try.ntmps3
  go_wp2_with fail
  refine (s_ChainCategory aN haN).mono ?_
  rintro e w1 ⟨u1, rfl, o1, b⟩
  obtain ⟨nu1, au1, lau1, kau1, bu1, lbu1, kbu1, cu1, lcu1, kcu1, du1, ldu1, kdu1, rfl⟩ := o1.shape5
  have n := below_within b w.heap.size
  have z1 := n.size
  have B := n.below (Below.refl _ _) (Nat.le_refl _) (Nat.le_refl _)
  clear n b
  have lo1 := o1.size
  go_wp2_with fail
  have b : Below w1.heap.size w1 (w1.alloc (.cells #[.int .i64 nu1, .slice au1 lau1 kau1, .slice bu1 lbu1 kbu1, .slice cu1 lcu1 kcu1, .slice du1 ldu1 kdu1] 25)) := bel_box w1 _
  have Xu10 : (w1.alloc (.cells #[.int .i64 nu1, .slice au1 lau1 kau1, .slice bu1 lbu1 kbu1, .slice cu1 lcu1 kcu1, .slice du1 ldu1 kdu1] 25)).cell? ⟨w1.heap.size, 0, none⟩ = some (.int .i64 nu1) := by simp
  have Xu11 : (w1.alloc (.cells #[.int .i64 nu1, .slice au1 lau1 kau1, .slice bu1 lbu1 kbu1, .slice cu1 lcu1 kcu1, .slice du1 ldu1 kdu1] 25)).cell? ⟨w1.heap.size, 1, none⟩ = some (.slice au1 lau1 kau1) := by simp
  have Xu12 : (w1.alloc (.cells #[.int .i64 nu1, .slice au1 lau1 kau1, .slice bu1 lbu1 kbu1, .slice cu1 lcu1 kcu1, .slice du1 ldu1 kdu1] 25)).cell? ⟨w1.heap.size, 2, none⟩ = some (.slice bu1 lbu1 kbu1) := by simp
  have Xu13 : (w1.alloc (.cells #[.int .i64 nu1, .slice au1 lau1 kau1, .slice bu1 lbu1 kbu1, .slice cu1 lcu1 kcu1, .slice du1 ldu1 kdu1] 25)).cell? ⟨w1.heap.size, 3, none⟩ = some (.slice cu1 lcu1 kcu1) := by simp
  have Xu14 : (w1.alloc (.cells #[.int .i64 nu1, .slice au1 lau1 kau1, .slice bu1 lbu1 kbu1, .slice cu1 lcu1 kcu1, .slice du1 ldu1 kdu1] 25)).cell? ⟨w1.heap.size, 4, none⟩ = some (.slice du1 ldu1 kdu1) := by simp
  have hzu1 : w1.heap.size < (w1.alloc (.cells #[.int .i64 nu1, .slice au1 lau1 kau1, .slice bu1 lbu1 kbu1, .slice cu1 lcu1 kcu1, .slice du1 ldu1 kdu1] 25)).heap.size := by simp
  generalize (w1.alloc (.cells #[.int .i64 nu1, .slice au1 lau1 kau1, .slice bu1 lbu1 kbu1, .slice cu1 lcu1 kcu1, .slice du1 ldu1 kdu1] 25)) = w2 at *
  have n := below_within b w1.heap.size
  have z2 := n.size
  replace B := n.below B (by omega) (Nat.le_refl _)
  replace o1 := o1.kept n (by omega)
  clear n b
  refine (i_ChainCategory aN haN).mono ?_
  rintro e w3 ⟨u2, rfl, o2, b⟩
  obtain ⟨nu2, au2, lau2, kau2, bu2, lbu2, kbu2, cu2, lcu2, kcu2, du2, ldu2, kdu2, rfl⟩ := o2.shape5
  have n := below_within b w2.heap.size
  have z3 := n.size
  replace B := n.below B (by omega) (Nat.le_refl _)
  replace Xu10 := within_cell n Xu10 (by omega)
  replace Xu11 := within_cell n Xu11 (by omega)
  replace Xu12 := within_cell n Xu12 (by omega)
  replace Xu13 := within_cell n Xu13 (by omega)
  replace Xu14 := within_cell n Xu14 (by omega)
  replace o1 := o1.kept n (by omega)
  clear n b
  have lo2 := o2.size
  replace Xu10 := up_cell (bel_box w3 (.cells #[.int .i64 nu2, .slice au2 lau2 kau2, .slice bu2 lbu2 kbu2, .slice cu2 lcu2 kcu2, .slice du2 ldu2 kdu2] 25)) Xu10
  replace Xu11 := up_cell (bel_box w3 (.cells #[.int .i64 nu2, .slice au2 lau2 kau2, .slice bu2 lbu2 kbu2, .slice cu2 lcu2 kcu2, .slice du2 ldu2 kdu2] 25)) Xu11
  replace Xu12 := up_cell (bel_box w3 (.cells #[.int .i64 nu2, .slice au2 lau2 kau2, .slice bu2 lbu2 kbu2, .slice cu2 lcu2 kcu2, .slice du2 ldu2 kdu2] 25)) Xu12
  replace Xu13 := up_cell (bel_box w3 (.cells #[.int .i64 nu2, .slice au2 lau2 kau2, .slice bu2 lbu2 kbu2, .slice cu2 lcu2 kcu2, .slice du2 ldu2 kdu2] 25)) Xu13
  replace Xu14 := up_cell (bel_box w3 (.cells #[.int .i64 nu2, .slice au2 lau2 kau2, .slice bu2 lbu2 kbu2, .slice cu2 lcu2 kcu2, .slice du2 ldu2 kdu2] 25)) Xu14
  go_wp2_with fail
  have b : Below w3.heap.size w3 (w3.alloc (.cells #[.int .i64 nu2, .slice au2 lau2 kau2, .slice bu2 lbu2 kbu2, .slice cu2 lcu2 kcu2, .slice du2 ldu2 kdu2] 25)) := bel_box w3 _
  have Xu20 : (w3.alloc (.cells #[.int .i64 nu2, .slice au2 lau2 kau2, .slice bu2 lbu2 kbu2, .slice cu2 lcu2 kcu2, .slice du2 ldu2 kdu2] 25)).cell? ⟨w3.heap.size, 0, none⟩ = some (.int .i64 nu2) := by simp
  have Xu21 : (w3.alloc (.cells #[.int .i64 nu2, .slice au2 lau2 kau2, .slice bu2 lbu2 kbu2, .slice cu2 lcu2 kcu2, .slice du2 ldu2 kdu2] 25)).cell? ⟨w3.heap.size, 1, none⟩ = some (.slice au2 lau2 kau2) := by simp
  have Xu22 : (w3.alloc (.cells #[.int .i64 nu2, .slice au2 lau2 kau2, .slice bu2 lbu2 kbu2, .slice cu2 lcu2 kcu2, .slice du2 ldu2 kdu2] 25)).cell? ⟨w3.heap.size, 2, none⟩ = some (.slice bu2 lbu2 kbu2) := by simp
  have Xu23 : (w3.alloc (.cells #[.int .i64 nu2, .slice au2 lau2 kau2, .slice bu2 lbu2 kbu2, .slice cu2 lcu2 kcu2, .slice du2 ldu2 kdu2] 25)).cell? ⟨w3.heap.size, 3, none⟩ = some (.slice cu2 lcu2 kcu2) := by simp
  have Xu24 : (w3.alloc (.cells #[.int .i64 nu2, .slice au2 lau2 kau2, .slice bu2 lbu2 kbu2, .slice cu2 lcu2 kcu2, .slice du2 ldu2 kdu2] 25)).cell? ⟨w3.heap.size, 4, none⟩ = some (.slice du2 ldu2 kdu2) := by simp
  have hzu2 : w3.heap.size < (w3.alloc (.cells #[.int .i64 nu2, .slice au2 lau2 kau2, .slice bu2 lbu2 kbu2, .slice cu2 lcu2 kcu2, .slice du2 ldu2 kdu2] 25)).heap.size := by simp
  generalize (w3.alloc (.cells #[.int .i64 nu2, .slice au2 lau2 kau2, .slice bu2 lbu2 kbu2, .slice cu2 lcu2 kcu2, .slice du2 ldu2 kdu2] 25)) = w4 at *
  have n := below_within b w3.heap.size
  have z4 := n.size
  replace B := n.below B (by omega) (Nat.le_refl _)
  replace o1 := o1.kept n (by omega)
  replace o2 := o2.kept n (by omega)
  clear n b
  refine (c_eqCategory_refl o2.is o1.is).mono ?_
  rintro e w5 ⟨rfl, b⟩
  have n := below_within b w4.heap.size
  have z5 := n.size
  replace B := n.below B (by omega) (Nat.le_refl _)
  replace Xu10 := within_cell n Xu10 (by omega)
  replace Xu11 := within_cell n Xu11 (by omega)
  replace Xu12 := within_cell n Xu12 (by omega)
  replace Xu13 := within_cell n Xu13 (by omega)
  replace Xu14 := within_cell n Xu14 (by omega)
  replace Xu20 := within_cell n Xu20 (by omega)
  replace Xu21 := within_cell n Xu21 (by omega)
  replace Xu22 := within_cell n Xu22 (by omega)
  replace Xu23 := within_cell n Xu23 (by omega)
  replace Xu24 := within_cell n Xu24 (by omega)
  replace o1 := o1.kept n (by omega)
  replace o2 := o2.kept n (by omega)
  clear n b
  go_wp2_with fail
  refine (c_markCategory o2 _ (by omega) (by omega)).mono ?_
  rintro e w6 ⟨rfl, o2, n⟩
  have z6 := n.size
  replace B := n.below B (by omega) (Nat.le_refl _)
  replace Xu10 := within_cell n Xu10 (by omega)
  replace Xu11 := within_cell n Xu11 (by omega)
  replace Xu12 := within_cell n Xu12 (by omega)
  replace Xu13 := within_cell n Xu13 (by omega)
  replace Xu14 := within_cell n Xu14 (by omega)
  replace Xu20 := within_cell n Xu20 (by omega)
  replace Xu21 := within_cell n Xu21 (by omega)
  replace Xu22 := within_cell n Xu22 (by omega)
  replace Xu23 := within_cell n Xu23 (by omega)
  replace Xu24 := within_cell n Xu24 (by omega)
  replace o1 := o1.kept n (by omega)
  clear n
  go_wp2_with fail
  refine (c_heldCategory o2.is (by omega) (by omega)).mono ?_
  rintro e w7 ⟨rfl, b⟩
  have n := below_within b w6.heap.size
  have z7 := n.size
  replace B := n.below B (by omega) (Nat.le_refl _)
  replace Xu10 := within_cell n Xu10 (by omega)
  replace Xu11 := within_cell n Xu11 (by omega)
  replace Xu12 := within_cell n Xu12 (by omega)
  replace Xu13 := within_cell n Xu13 (by omega)
  replace Xu14 := within_cell n Xu14 (by omega)
  replace Xu20 := within_cell n Xu20 (by omega)
  replace Xu21 := within_cell n Xu21 (by omega)
  replace Xu22 := within_cell n Xu22 (by omega)
  replace Xu23 := within_cell n Xu23 (by omega)
  replace Xu24 := within_cell n Xu24 (by omega)
  replace o1 := o1.kept n (by omega)
  replace o2 := o2.kept n (by omega)
  clear n b
  go_wp2_with fail
  refine (i_ChainCategory aN haN).mono ?_
  rintro e w8 ⟨u3, rfl, o3, b⟩
  obtain ⟨nu3, au3, lau3, kau3, bu3, lbu3, kbu3, cu3, lcu3, kcu3, du3, ldu3, kdu3, rfl⟩ := o3.shape5
  have n := below_within b w7.heap.size
  have z8 := n.size
  replace B := n.below B (by omega) (Nat.le_refl _)
  replace Xu10 := within_cell n Xu10 (by omega)
  replace Xu11 := within_cell n Xu11 (by omega)
  replace Xu12 := within_cell n Xu12 (by omega)
  replace Xu13 := within_cell n Xu13 (by omega)
  replace Xu14 := within_cell n Xu14 (by omega)
  replace Xu20 := within_cell n Xu20 (by omega)
  replace Xu21 := within_cell n Xu21 (by omega)
  replace Xu22 := within_cell n Xu22 (by omega)
  replace Xu23 := within_cell n Xu23 (by omega)
  replace Xu24 := within_cell n Xu24 (by omega)
  replace o1 := o1.kept n (by omega)
  replace o2 := o2.kept n (by omega)
  clear n b
  have lo3 := o3.size
  replace Xu10 := up_cell (bel_box w8 (.cells #[.int .i64 nu3, .slice au3 lau3 kau3, .slice bu3 lbu3 kbu3, .slice cu3 lcu3 kcu3, .slice du3 ldu3 kdu3] 25)) Xu10
  replace Xu11 := up_cell (bel_box w8 (.cells #[.int .i64 nu3, .slice au3 lau3 kau3, .slice bu3 lbu3 kbu3, .slice cu3 lcu3 kcu3, .slice du3 ldu3 kdu3] 25)) Xu11
  replace Xu12 := up_cell (bel_box w8 (.cells #[.int .i64 nu3, .slice au3 lau3 kau3, .slice bu3 lbu3 kbu3, .slice cu3 lcu3 kcu3, .slice du3 ldu3 kdu3] 25)) Xu12
  replace Xu13 := up_cell (bel_box w8 (.cells #[.int .i64 nu3, .slice au3 lau3 kau3, .slice bu3 lbu3 kbu3, .slice cu3 lcu3 kcu3, .slice du3 ldu3 kdu3] 25)) Xu13
  replace Xu14 := up_cell (bel_box w8 (.cells #[.int .i64 nu3, .slice au3 lau3 kau3, .slice bu3 lbu3 kbu3, .slice cu3 lcu3 kcu3, .slice du3 ldu3 kdu3] 25)) Xu14
  replace Xu20 := up_cell (bel_box w8 (.cells #[.int .i64 nu3, .slice au3 lau3 kau3, .slice bu3 lbu3 kbu3, .slice cu3 lcu3 kcu3, .slice du3 ldu3 kdu3] 25)) Xu20
  replace Xu21 := up_cell (bel_box w8 (.cells #[.int .i64 nu3, .slice au3 lau3 kau3, .slice bu3 lbu3 kbu3, .slice cu3 lcu3 kcu3, .slice du3 ldu3 kdu3] 25)) Xu21
  replace Xu22 := up_cell (bel_box w8 (.cells #[.int .i64 nu3, .slice au3 lau3 kau3, .slice bu3 lbu3 kbu3, .slice cu3 lcu3 kcu3, .slice du3 ldu3 kdu3] 25)) Xu22
  replace Xu23 := up_cell (bel_box w8 (.cells #[.int .i64 nu3, .slice au3 lau3 kau3, .slice bu3 lbu3 kbu3, .slice cu3 lcu3 kcu3, .slice du3 ldu3 kdu3] 25)) Xu23
  replace Xu24 := up_cell (bel_box w8 (.cells #[.int .i64 nu3, .slice au3 lau3 kau3, .slice bu3 lbu3 kbu3, .slice cu3 lcu3 kcu3, .slice du3 ldu3 kdu3] 25)) Xu24
  go_wp2_with fail
  have b : Below w8.heap.size w8 (w8.alloc (.cells #[.int .i64 nu3, .slice au3 lau3 kau3, .slice bu3 lbu3 kbu3, .slice cu3 lcu3 kcu3, .slice du3 ldu3 kdu3] 25)) := bel_box w8 _
  have Xu30 : (w8.alloc (.cells #[.int .i64 nu3, .slice au3 lau3 kau3, .slice bu3 lbu3 kbu3, .slice cu3 lcu3 kcu3, .slice du3 ldu3 kdu3] 25)).cell? ⟨w8.heap.size, 0, none⟩ = some (.int .i64 nu3) := by simp
  have Xu31 : (w8.alloc (.cells #[.int .i64 nu3, .slice au3 lau3 kau3, .slice bu3 lbu3 kbu3, .slice cu3 lcu3 kcu3, .slice du3 ldu3 kdu3] 25)).cell? ⟨w8.heap.size, 1, none⟩ = some (.slice au3 lau3 kau3) := by simp
  have Xu32 : (w8.alloc (.cells #[.int .i64 nu3, .slice au3 lau3 kau3, .slice bu3 lbu3 kbu3, .slice cu3 lcu3 kcu3, .slice du3 ldu3 kdu3] 25)).cell? ⟨w8.heap.size, 2, none⟩ = some (.slice bu3 lbu3 kbu3) := by simp
  have Xu33 : (w8.alloc (.cells #[.int .i64 nu3, .slice au3 lau3 kau3, .slice bu3 lbu3 kbu3, .slice cu3 lcu3 kcu3, .slice du3 ldu3 kdu3] 25)).cell? ⟨w8.heap.size, 3, none⟩ = some (.slice cu3 lcu3 kcu3) := by simp
  have Xu34 : (w8.alloc (.cells #[.int .i64 nu3, .slice au3 lau3 kau3, .slice bu3 lbu3 kbu3, .slice cu3 lcu3 kcu3, .slice du3 ldu3 kdu3] 25)).cell? ⟨w8.heap.size, 4, none⟩ = some (.slice du3 ldu3 kdu3) := by simp
  have hzu3 : w8.heap.size < (w8.alloc (.cells #[.int .i64 nu3, .slice au3 lau3 kau3, .slice bu3 lbu3 kbu3, .slice cu3 lcu3 kcu3, .slice du3 ldu3 kdu3] 25)).heap.size := by simp
  generalize (w8.alloc (.cells #[.int .i64 nu3, .slice au3 lau3 kau3, .slice bu3 lbu3 kbu3, .slice cu3 lcu3 kcu3, .slice du3 ldu3 kdu3] 25)) = w9 at *
  have n := below_within b w8.heap.size
  have z9 := n.size
  replace B := n.below B (by omega) (Nat.le_refl _)
  replace o1 := o1.kept n (by omega)
  replace o2 := o2.kept n (by omega)
  replace o3 := o3.kept n (by omega)
  clear n b
  refine (c_eqCategory_refl o3.is o1.is).mono ?_
  rintro e w10 ⟨rfl, b⟩
  have n := below_within b w9.heap.size
  have z10 := n.size
  replace B := n.below B (by omega) (Nat.le_refl _)
  replace Xu10 := within_cell n Xu10 (by omega)
  replace Xu11 := within_cell n Xu11 (by omega)
  replace Xu12 := within_cell n Xu12 (by omega)
  replace Xu13 := within_cell n Xu13 (by omega)
  replace Xu14 := within_cell n Xu14 (by omega)
  replace Xu20 := within_cell n Xu20 (by omega)
  replace Xu21 := within_cell n Xu21 (by omega)
  replace Xu22 := within_cell n Xu22 (by omega)
  replace Xu23 := within_cell n Xu23 (by omega)
  replace Xu24 := within_cell n Xu24 (by omega)
  replace Xu30 := within_cell n Xu30 (by omega)
  replace Xu31 := within_cell n Xu31 (by omega)
  replace Xu32 := within_cell n Xu32 (by omega)
  replace Xu33 := within_cell n Xu33 (by omega)
  replace Xu34 := within_cell n Xu34 (by omega)
  replace o1 := o1.kept n (by omega)
  replace o2 := o2.kept n (by omega)
  replace o3 := o3.kept n (by omega)
  clear n b
  go_wp2_with fail
  refine (c_heldCategory o2.is (by omega) (by omega)).mono ?_
  rintro e w11 ⟨rfl, b⟩
  have n := below_within b w10.heap.size
  have z11 := n.size
  replace B := n.below B (by omega) (Nat.le_refl _)
  replace Xu10 := within_cell n Xu10 (by omega)
  replace Xu11 := within_cell n Xu11 (by omega)
  replace Xu12 := within_cell n Xu12 (by omega)
  replace Xu13 := within_cell n Xu13 (by omega)
  replace Xu14 := within_cell n Xu14 (by omega)
  replace Xu20 := within_cell n Xu20 (by omega)
  replace Xu21 := within_cell n Xu21 (by omega)
  replace Xu22 := within_cell n Xu22 (by omega)
  replace Xu23 := within_cell n Xu23 (by omega)
  replace Xu24 := within_cell n Xu24 (by omega)
  replace Xu30 := within_cell n Xu30 (by omega)
  replace Xu31 := within_cell n Xu31 (by omega)
  replace Xu32 := within_cell n Xu32 (by omega)
  replace Xu33 := within_cell n Xu33 (by omega)
  replace Xu34 := within_cell n Xu34 (by omega)
  replace o1 := o1.kept n (by omega)
  replace o2 := o2.kept n (by omega)
  replace o3 := o3.kept n (by omega)
  clear n b
  go_wp2_with fail
  go_ret
  exact ⟨rfl, B⟩
section
set_option maxRecDepth 100000 in
theorem lifted_FnExactChainCategory (os : Os) (started : os.Started) (H : Type) (enc : TypeId × Value → H) :
    ReturnsInHanded {} Try.checked os 3 .any (Rows.fnExactChainCategorySpec.pre6 enc Try.prog Try.f3 Rows.fnExactChainCategoryRow.domain false) (Rows.fnExactChainCategorySpec.post enc Try.prog Try.f3 false true false false) := by
  refine returnsInHanded_of_change (C := Try.checked) ownKnobNone started (by kernel_rfl) Try.func3
    (ChangeSpec.witness6 (enc := enc) (C := Try.checked) false ⟨#[], #[.int .i64 0], []⟩ 8 (by kernel_rfl) (by kernel_rfl) (by kernel_rfl) (by kernel_rfl)) ?_
  intro W base args ds gs before hval0 hW hcnd _
  have hval : ∀ (j : Nat) t v, Try.f3.params[j]? = some t → args[j]? = some v → Value.okWide Try.prog W .any base t v := hval0
  have hW' := hW
  obtain ⟨p, q, hA0, hV, rfl, hfz, hnd⟩ := hW
  have hA : DataW.TrodAll enc Try.prog W 0 (fun _ => true) true Try.f3.params.toList args.toList ds p := hA0
  rw [Try.params3] at hA hval
  obtain ⟨v0, vs0, d0, ds0, p0, q0, hargs, rfl, rfl, h0, r0⟩ := trodAll_cons hA
  obtain ⟨rfl, rfl, rfl⟩ := trodAll_nil r0
  obtain rfl : args = #[v0] := by cases args; simp_all
  obtain ⟨rfl, rfl⟩ := trodVars_none hV
  obtain ⟨a0, rfl, rfl, rfl, w0⟩ := open_int Try.underlying2 (hval 0 2 v0 rfl rfl) h0
  clear hA0 hval0
  refine (walk_FnExactChainCategory a0 W (wf_I64 w0)).mono fun e W' ⟨he, bel⟩ => ?_
  subst he
  exact ⟨_, rfl, _, _, _, [], _, [], hW', trodAll_mk1 (shut_bool Try.underlying4 _), (trodAll_cons_mk (shut_int Try.underlying2 w0) (trodAll_mk0)), rfl, bel.frame _, fun h => by cases h⟩
end
/-- THE STATEMENT. -/
theorem proved_FnExactChainCategory : Rows.FnExactChainCategorySaid :=
  OpenClaim.holds_of_wide 3 Try.f3 rfl rfl rfl rfl rfl rfl rfl ⟨rfl, rfl, rfl, rfl, rfl⟩ rfl rfl rfl rfl rfl (by kernel_rfl) Try.func3 (by kernel_rfl)
    (of_decide_eq_true (by kernel_rfl)) (by unfold Func.isWrapper; first | (rw [if_pos (by decide +kernel)]; kernel_rfl) | (rw [if_neg (by decide +kernel)]; exact ⟨rfl, rfl⟩))
    (fun os started H enc _ => lifted_FnExactChainCategory os started H enc)
end Go.Proofs.Ytmigbcadldkmfaa
