/- FnExactNegateFormula returns true for every input and leaves its arguments as they were. No condition. -/
import Derived.Test.YtmhhgaggkgcdbaaNodeJoin
namespace Go.Proofs.Ytmhhgaggkgcdbaa
open Go.ChangeShapes Go.WideShapes Go.ChangeAt Go.RowKit
theorem walk_FnExactNegateFormula (aList : Value) (w : World) (haList : RawN w aList) :
    Calls Try.prog 4 #[aList] w (fun e w' => e = .returned (.bool true) ∧ Below w.heap.size w w') := by
  go_enter Try.func4, Try.ntmps4
  go_wp2_with fail
  have B := Below.refl w.heap.size w
  obtain ⟨q0, hq0⟩ : ∃ q : Int, q = 1048576 := ⟨_, rfl⟩
  refine (c_szNodeS haList B 1048576 (by omega) (by omega)).mono ?_
  rintro e w1 ⟨q1, rfl, d, hq⟩
  replace B := bel_next B d
  clear d
  rcases hq with hq | ⟨hqa1, hqb1, hqx⟩
  · have hqn : decide (q1 < 0) = true := by simp [hq]
    go_wp2_with fail
    go_ret
    exact ⟨rfl, B⟩
  have hqn1 : decide (q1 < 0) = false := by simp; omega
  obtain ⟨xsaList, IaList⟩ := hqx
  have SaList := IaList.size
  go_wp2_with fail
  have z0 := B.size
  have JaList := IaList.kept B
  refine (c_toNodeS JaList).mono ?_
  rintro e w2 ⟨u1, rfl, o1, b⟩
  have n := below_within b w1.heap.size
  have z2 := n.size
  replace B := n.below B (by omega) (Nat.le_refl _)
  replace JaList := IaList.kept B
  clear n b
  go_wp2_with fail
  refine (s_NegateFormula o1.is).mono ?_
  rintro e w3 ⟨u2, rfl, o2, b⟩
  have n := below_within b w2.heap.size
  have z3 := n.size
  replace B := n.below B (by omega) (Nat.le_refl _)
  replace JaList := IaList.kept B
  replace o1 := o1.kept n (by omega)
  clear n b
  have lo2 := o2.size
  go_wp2_with fail
  refine (c_toNodeS JaList).mono ?_
  rintro e w4 ⟨u3, rfl, o3, b⟩
  have n := below_within b w3.heap.size
  have z4 := n.size
  replace B := n.below B (by omega) (Nat.le_refl _)
  replace JaList := IaList.kept B
  replace o1 := o1.kept n (by omega)
  replace o2 := o2.kept n (by omega)
  clear n b
  go_wp2_with fail
  refine (i_NegateFormula o3.is).mono ?_
  rintro e w5 ⟨u4, rfl, o4, b⟩
  have n := below_within b w4.heap.size
  have z5 := n.size
  replace B := n.below B (by omega) (Nat.le_refl _)
  replace JaList := IaList.kept B
  replace o1 := o1.kept n (by omega)
  replace o2 := o2.kept n (by omega)
  replace o3 := o3.kept n (by omega)
  clear n b
  have lo4 := o4.size
  go_wp2_with fail
  refine (c_eqNodeS_refl o4.is o2.is).mono ?_
  rintro e w6 ⟨rfl, b⟩
  have n := below_within b w5.heap.size
  have z6 := n.size
  replace B := n.below B (by omega) (Nat.le_refl _)
  replace JaList := IaList.kept B
  replace o1 := o1.kept n (by omega)
  replace o2 := o2.kept n (by omega)
  replace o3 := o3.kept n (by omega)
  replace o4 := o4.kept n (by omega)
  clear n b
  go_wp2_with fail
  refine (c_toNodeS JaList).mono ?_
  rintro e w7 ⟨u5, rfl, o5, b⟩
  have n := below_within b w6.heap.size
  have z7 := n.size
  replace B := n.below B (by omega) (Nat.le_refl _)
  replace JaList := IaList.kept B
  replace o1 := o1.kept n (by omega)
  replace o2 := o2.kept n (by omega)
  replace o3 := o3.kept n (by omega)
  replace o4 := o4.kept n (by omega)
  clear n b
  go_wp2_with fail
  refine (c_eqNodeS_refl o3.is o5.is).mono ?_
  rintro e w8 ⟨rfl, b⟩
  have n := below_within b w7.heap.size
  have z8 := n.size
  replace B := n.below B (by omega) (Nat.le_refl _)
  replace JaList := IaList.kept B
  replace o1 := o1.kept n (by omega)
  replace o2 := o2.kept n (by omega)
  replace o3 := o3.kept n (by omega)
  replace o4 := o4.kept n (by omega)
  replace o5 := o5.kept n (by omega)
  clear n b
  go_wp2_with fail
  refine (c_markNodeS o3.ml _ (by omega) (by omega)).mono ?_
  rintro e w9 ⟨rfl, o3, n⟩
  have z9 := n.size
  replace B := n.below B (by omega) (Nat.le_refl _)
  replace JaList := IaList.kept B
  replace o1 := o1.kept n (by omega)
  replace o2 := o2.kept n (by omega)
  replace o4 := o4.kept n (by omega)
  replace o5 := o5.kept n (by omega)
  clear n
  go_wp2_with fail
  refine (c_eqNodeS_refl o4.is o2.is).mono ?_
  rintro e w10 ⟨rfl, b⟩
  have n := below_within b w9.heap.size
  have z10 := n.size
  replace B := n.below B (by omega) (Nat.le_refl _)
  replace JaList := IaList.kept B
  replace o1 := o1.kept n (by omega)
  replace o2 := o2.kept n (by omega)
  replace o3 := o3.kept n (by omega)
  replace o4 := o4.kept n (by omega)
  replace o5 := o5.kept n (by omega)
  clear n b
  go_wp2_with fail
  refine (c_markNodeS o4.ml _ (by omega) (by omega)).mono ?_
  rintro e w11 ⟨rfl, o4, n⟩
  have z11 := n.size
  replace B := n.below B (by omega) (Nat.le_refl _)
  replace JaList := IaList.kept B
  replace o1 := o1.kept n (by omega)
  replace o2 := o2.kept n (by omega)
  replace o3 := o3.kept n (by omega)
  replace o5 := o5.kept n (by omega)
  clear n
  go_wp2_with fail
  refine (c_heldNodeS o4.is (by omega) (by omega)).mono ?_
  rintro e w12 ⟨rfl, d⟩
  have b := d.below w11.heap.size
  clear d
  have n := below_within b w11.heap.size
  have z12 := n.size
  replace B := n.below B (by omega) (Nat.le_refl _)
  replace JaList := IaList.kept B
  replace o1 := o1.kept n (by omega)
  replace o2 := o2.kept n (by omega)
  replace o3 := o3.kept n (by omega)
  replace o4 := o4.kept n (by omega)
  replace o5 := o5.kept n (by omega)
  clear n b
  go_wp2_with fail
  refine (c_toNodeS JaList).mono ?_
  rintro e w13 ⟨u6, rfl, o6, b⟩
  have n := below_within b w12.heap.size
  have z13 := n.size
  replace B := n.below B (by omega) (Nat.le_refl _)
  replace JaList := IaList.kept B
  replace o1 := o1.kept n (by omega)
  replace o2 := o2.kept n (by omega)
  replace o3 := o3.kept n (by omega)
  replace o4 := o4.kept n (by omega)
  replace o5 := o5.kept n (by omega)
  clear n b
  go_wp2_with fail
  refine (i_NegateFormula o6.is).mono ?_
  rintro e w14 ⟨u7, rfl, o7, b⟩
  have n := below_within b w13.heap.size
  have z14 := n.size
  replace B := n.below B (by omega) (Nat.le_refl _)
  replace JaList := IaList.kept B
  replace o1 := o1.kept n (by omega)
  replace o2 := o2.kept n (by omega)
  replace o3 := o3.kept n (by omega)
  replace o4 := o4.kept n (by omega)
  replace o5 := o5.kept n (by omega)
  replace o6 := o6.kept n (by omega)
  clear n b
  have lo7 := o7.size
  go_wp2_with fail
  refine (c_eqNodeS_refl o7.is o2.is).mono ?_
  rintro e w15 ⟨rfl, b⟩
  have n := below_within b w14.heap.size
  have z15 := n.size
  replace B := n.below B (by omega) (Nat.le_refl _)
  replace JaList := IaList.kept B
  replace o1 := o1.kept n (by omega)
  replace o2 := o2.kept n (by omega)
  replace o3 := o3.kept n (by omega)
  replace o4 := o4.kept n (by omega)
  replace o5 := o5.kept n (by omega)
  replace o6 := o6.kept n (by omega)
  replace o7 := o7.kept n (by omega)
  clear n b
  go_wp2_with fail
  refine (c_heldNodeS o4.is (by omega) (by omega)).mono ?_
  rintro e w16 ⟨rfl, d⟩
  have b := d.below w15.heap.size
  clear d
  have n := below_within b w15.heap.size
  have z16 := n.size
  replace B := n.below B (by omega) (Nat.le_refl _)
  replace JaList := IaList.kept B
  replace o1 := o1.kept n (by omega)
  replace o2 := o2.kept n (by omega)
  replace o3 := o3.kept n (by omega)
  replace o4 := o4.kept n (by omega)
  replace o5 := o5.kept n (by omega)
  replace o6 := o6.kept n (by omega)
  replace o7 := o7.kept n (by omega)
  clear n b
  go_wp2_with fail
  go_ret
  exact ⟨rfl, B⟩
section
set_option maxRecDepth 100000 in
theorem lifted_FnExactNegateFormula (os : Os) (started : os.Started) (H : Type) (enc : TypeId × Value → H) :
    ReturnsInHanded {} Try.checked os 4 .any (Rows.fnExactNegateFormulaSpec.pre6 enc Try.prog Try.f4 Rows.fnExactNegateFormulaRow.domain false) (Rows.fnExactNegateFormulaSpec.post enc Try.prog Try.f4 false true false false) := by
  refine returnsInHanded_of_change (C := Try.checked) ownKnobNone started (by kernel_rfl) Try.func4
    (ChangeSpec.witness6 (enc := enc) (C := Try.checked) false ⟨#[], #[.slice none 0 0], []⟩ 8 (by kernel_rfl) (by kernel_rfl) (by kernel_rfl) (by kernel_rfl)) ?_
  intro W base args ds gs before hval0 hW hcnd _
  have hval : ∀ (j : Nat) t v, Try.f4.params[j]? = some t → args[j]? = some v → Value.okWide Try.prog W .any base t v := hval0
  have hW' := hW
  obtain ⟨p, q, hA0, hV, rfl, hfz, hnd⟩ := hW
  have hA : DataW.TrodAll enc Try.prog W 0 (fun _ => true) true Try.f4.params.toList args.toList ds p := hA0
  rw [Try.params4] at hA hval
  obtain ⟨v0, vs0, d0, ds0, p0, q0, hargs, rfl, rfl, h0, r0⟩ := trodAll_cons hA
  obtain ⟨rfl, rfl, rfl⟩ := trodAll_nil r0
  obtain rfl : args = #[v0] := by cases args; simp_all
  obtain ⟨rfl, rfl⟩ := trodVars_none hV
  have k0 := h0
  have lt0 : ∀ x ∈ p0, x.block < W.heap.size := by obtain ⟨m, hm⟩ := k0; exact DataW.trod_lt m _ _ _ hm
  obtain ⟨a0, len0, cap0, rfl⟩ := okWide_slice Try.underlying22 (hval 0 22 v0 rfl rfl)
  have w0 : RawN W (.slice a0 len0 cap0) := by obtain ⟨fuel, hf⟩ := h0; exact rawN_trod hf
  clear hA0 hval0
  refine (walk_FnExactNegateFormula (.slice a0 len0 cap0) W w0).mono fun e W' ⟨he, bel⟩ => ?_
  subst he
  exact ⟨_, rfl, _, _, _, [], _, [], hW', trodAll_mk1 (shut_bool Try.underlying4 _), (trodAll_cons_mk (Below.trod laidOutB_prog (by kernel_rfl) (of_decide_eq_true (by kernel_rfl)) k0 bel lt0) (trodAll_mk0)), rfl, bel.frame _, fun h => by cases h⟩
end
/-- THE STATEMENT. -/
theorem proved_FnExactNegateFormula : Rows.FnExactNegateFormulaSaid :=
  OpenClaim.holds_of_wide 4 Try.f4 rfl rfl rfl rfl rfl rfl rfl ⟨rfl, rfl, rfl, rfl, rfl⟩ rfl rfl rfl rfl rfl (by kernel_rfl) Try.func4 (by kernel_rfl)
    (of_decide_eq_true (by kernel_rfl)) (by unfold Func.isWrapper; first | (rw [if_pos (by decide +kernel)]; kernel_rfl) | (rw [if_neg (by decide +kernel)]; exact ⟨rfl, rfl⟩))
    (fun os started H enc _ => lifted_FnExactNegateFormula os started H enc)
end Go.Proofs.Ytmhhgaggkgcdbaa
