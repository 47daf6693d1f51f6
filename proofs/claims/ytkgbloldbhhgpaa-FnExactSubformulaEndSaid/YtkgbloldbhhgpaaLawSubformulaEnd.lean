/- FnExactSubformulaEnd returns true for every input and leaves its arguments as they were. No condition. -/
import Derived.Test.YtkgbloldbhhgpaaNodeLaw2
import Derived.Test.YtkgbloldbhhgpaaNode2
namespace Go.Proofs.Ytkgbloldbhhgpaa
open Go.ChangeShapes Go.WideShapes Go.ChangeAt Go.RowKit
theorem walk_FnExactSubformulaEnd (aList : Value) (aI : Int) (w : World) (haList : RawN w aList) (haI : I64 aI) :
    Calls Try.prog 4 #[aList, .int .i64 aI] w (fun e w' => e = .returned (.bool true) ∧ Below w.heap.size w w') := by
  go_enter Try.func4, Try.ntmps4
  go_wp2_with fail
  have B := Below.refl w.heap.size w
  obtain ⟨q0, hq0⟩ : ∃ q : Int, q = 1048576 := ⟨_, rfl⟩
  refine (c_szNodeS haList B 1048576 (by omega) (by omega)).mono ?_
  rintro e w1 ⟨q1, rfl, d, hq⟩
  replace B := bel_next B d
  clear d
  rcases hq with hq | ⟨hqa1, hqb1, hqx⟩
  · have hqn : decide (q1 < 0) = true := by simp [hq]
    go_wp2_with fail
    go_ret
    exact ⟨rfl, B⟩
  have hqn1 : decide (q1 < 0) = false := by simp; omega
  obtain ⟨xsaList, IaList⟩ := hqx
  have SaList := IaList.size
  go_wp2_with fail
  have z0 := B.size
  have JaList := IaList.kept B
  refine (c_toNodeS JaList).mono ?_
  rintro e w2 ⟨u1, rfl, o1, b⟩
  have n := below_within b w1.heap.size
  have z2 := n.size
  replace B := n.below B (by omega) (Nat.le_refl _)
  replace JaList := IaList.kept B
  clear n b
  go_wp2_with fail
  refine (s_SubformulaEnd o1.is aI haI).mono ?_
  rintro e w3 ⟨rfl, b⟩
  have n := below_within b w2.heap.size
  have z3 := n.size
  replace B := n.below B (by omega) (Nat.le_refl _)
  replace JaList := IaList.kept B
  replace o1 := o1.kept n (by omega)
  clear n b
  go_wp2_with fail
  refine (c_toNodeS JaList).mono ?_
  rintro e w4 ⟨u2, rfl, o2, b⟩
  have n := below_within b w3.heap.size
  have z4 := n.size
  replace B := n.below B (by omega) (Nat.le_refl _)
  replace JaList := IaList.kept B
  replace o1 := o1.kept n (by omega)
  clear n b
  go_wp2_with fail
  refine (i_SubformulaEnd o2.is aI haI).mono ?_
  rintro e w5 ⟨rfl, b⟩
  have n := below_within b w4.heap.size
  have z5 := n.size
  replace B := n.below B (by omega) (Nat.le_refl _)
  replace JaList := IaList.kept B
  replace o1 := o1.kept n (by omega)
  replace o2 := o2.kept n (by omega)
  clear n b
  go_wp2_with fail
  refine (c_toNodeS JaList).mono ?_
  rintro e w6 ⟨u3, rfl, o3, b⟩
  have n := below_within b w5.heap.size
  have z6 := n.size
  replace B := n.below B (by omega) (Nat.le_refl _)
  replace JaList := IaList.kept B
  replace o1 := o1.kept n (by omega)
  replace o2 := o2.kept n (by omega)
  clear n b
  go_wp2_with fail
  refine (c_eqNodeS_refl o2.is o3.is).mono ?_
  rintro e w7 ⟨rfl, b⟩
  have n := below_within b w6.heap.size
  have z7 := n.size
  replace B := n.below B (by omega) (Nat.le_refl _)
  replace JaList := IaList.kept B
  replace o1 := o1.kept n (by omega)
  replace o2 := o2.kept n (by omega)
  replace o3 := o3.kept n (by omega)
  clear n b
  go_wp2_with fail
  go_ret
  exact ⟨rfl, B⟩
section
set_option maxRecDepth 100000 in
theorem lifted_FnExactSubformulaEnd (os : Os) (started : os.Started) (H : Type) (enc : TypeId × Value → H) :
    ReturnsInHanded {} Try.checked os 4 .any (Rows.fnExactSubformulaEndSpec.pre6 enc Try.prog Try.f4 Rows.fnExactSubformulaEndRow.domain false) (Rows.fnExactSubformulaEndSpec.post enc Try.prog Try.f4 false true false false) := by
  refine returnsInHanded_of_change (C := Try.checked) ownKnobNone started (by kernel_rfl) Try.func4
    (ChangeSpec.witness6 (enc := enc) (C := Try.checked) false ⟨#[], #[.slice none 0 0, .int .i64 0], []⟩ 8 (by kernel_rfl) (by kernel_rfl) (by kernel_rfl) (by kernel_rfl)) ?_
  intro W base args ds gs before hval0 hW hcnd _
  have hval : ∀ (j : Nat) t v, Try.f4.params[j]? = some t → args[j]? = some v → Value.okWide Try.prog W .any base t v := hval0
  have hW' := hW
  obtain ⟨p, q, hA0, hV, rfl, hfz, hnd⟩ := hW
  have hA : DataW.TrodAll enc Try.prog W 0 (fun _ => true) true Try.f4.params.toList args.toList ds p := hA0
  rw [Try.params4] at hA hval
  obtain ⟨v0, vs0, d0, ds0, p0, q0, hargs, rfl, rfl, h0, r0⟩ := trodAll_cons hA
  obtain ⟨v1, vs1, d1, ds1, p1, q1, rfl, rfl, rfl, h1, r1⟩ := trodAll_cons r0
  obtain ⟨rfl, rfl, rfl⟩ := trodAll_nil r1
  obtain rfl : args = #[v0, v1] := by cases args; simp_all
  obtain ⟨rfl, rfl⟩ := trodVars_none hV
  have k0 := h0
  have lt0 : ∀ x ∈ p0, x.block < W.heap.size := by obtain ⟨m, hm⟩ := k0; exact DataW.trod_lt m _ _ _ hm
  obtain ⟨a0, len0, cap0, rfl⟩ := okWide_slice Try.underlying22 (hval 0 22 v0 rfl rfl)
  have w0 : RawN W (.slice a0 len0 cap0) := by obtain ⟨fuel, hf⟩ := h0; exact rawN_trod hf
  obtain ⟨a1, rfl, rfl, rfl, w1⟩ := open_int Try.underlying2 (hval 1 2 v1 rfl rfl) h1
  clear hA0 hval0
  refine (walk_FnExactSubformulaEnd (.slice a0 len0 cap0) a1 W w0 (wf_I64 w1)).mono fun e W' ⟨he, bel⟩ => ?_
  subst he
  exact ⟨_, rfl, _, _, _, [], _, [], hW', trodAll_mk1 (shut_bool Try.underlying4 _), (trodAll_cons_mk (Below.trod laidOutB_prog (by kernel_rfl) (of_decide_eq_true (by kernel_rfl)) k0 bel lt0) (trodAll_cons_mk (shut_int Try.underlying2 w1) (trodAll_mk0))), rfl, bel.frame _, fun h => by cases h⟩
end
/-- THE STATEMENT. -/
theorem proved_FnExactSubformulaEnd : Rows.FnExactSubformulaEndSaid :=
  OpenClaim.holds_of_wide 4 Try.f4 rfl rfl rfl rfl rfl rfl rfl ⟨rfl, rfl, rfl, rfl, rfl⟩ rfl rfl rfl rfl rfl (by kernel_rfl) Try.func4 (by kernel_rfl)
    (of_decide_eq_true (by kernel_rfl)) (by unfold Func.isWrapper; first | (rw [if_pos (by decide +kernel)]; kernel_rfl) | (rw [if_neg (by decide +kernel)]; exact ⟨rfl, rfl⟩))
    (fun os started H enc _ => lifted_FnExactSubformulaEnd os started H enc)
end Go.Proofs.Ytkgbloldbhhgpaa
