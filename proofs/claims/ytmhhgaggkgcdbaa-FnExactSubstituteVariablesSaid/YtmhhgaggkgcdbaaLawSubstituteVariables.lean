/- FnExactSubstituteVariables returns true for every input and leaves its arguments as they were. No condition. -/
import Derived.Test.YtmhhgaggkgcdbaaSubst2
namespace Go.Proofs.Ytmhhgaggkgcdbaa
open Go.ChangeShapes Go.WideShapes Go.ChangeAt Go.RowKit
theorem walk_FnExactSubstituteVariables (aList : Value) (aImages : Value) (aN : Int) (w : World) (haList : RawN w aList) (haImages : RawI w aImages) (haN : I64 aN) :
    Calls Try.prog 5 #[aList, aImages, .int .i64 aN] w (fun e w' => e = .returned (.bool true) ∧ Below w.heap.size w w') := by
  obtain ⟨aoaImages, lenaImages, capaImages, rfl, hlaImages, hxaImages⟩ := haImages
  rcases Nat.lt_or_ge 1048576 lenaImages with hbaImages | hbaImages
  · go_enter Try.func5, Try.ntmps5
    go_wp2_with fail
    go_ret
    exact ⟨rfl, Below.refl _ _⟩
  obtain ⟨xsaImages, hxlaImages, IaImages⟩ := hxaImages hbaImages
  clear hxaImages
  go_enter Try.func5, Try.ntmps5
  go_wp2_with fail
  have B := Below.refl w.heap.size w
  obtain ⟨q0, hq0⟩ : ∃ q : Int, q = 1048576 := ⟨_, rfl⟩
  refine (c_szNodeS haList B 1048576 (by omega) (by omega)).mono ?_
  rintro e w1 ⟨q1, rfl, d, hq⟩
  replace B := bel_next B d
  clear d
  rcases hq with hq | ⟨hqa1, hqb1, hqx⟩
  · have hqn : decide (q1 < 0) = true := by simp [hq]
    go_wp2_with fail
    go_ret
    exact ⟨rfl, B⟩
  have hqn1 : decide (q1 < 0) = false := by simp; omega
  obtain ⟨xsaList, IaList⟩ := hqx
  have SaList := IaList.size
  go_wp2_with fail
  have z0 := B.size
  have JaImages := IaImages.kept B
  have JaList := IaList.kept B
  refine (c_toNodeS JaList).mono ?_
  rintro e w2 ⟨u1, rfl, o1, b⟩
  have n := below_within b w1.heap.size
  have z2 := n.size
  replace B := n.below B (by omega) (Nat.le_refl _)
  replace JaImages := IaImages.kept B
  replace JaList := IaList.kept B
  clear n b
  go_wp2_with fail
  refine (c_toInt64S JaImages).mono ?_
  rintro e w3 ⟨u2, rfl, o2, b⟩
  have n := below_within b w2.heap.size
  have z3 := n.size
  replace B := n.below B (by omega) (Nat.le_refl _)
  replace JaImages := IaImages.kept B
  replace JaList := IaList.kept B
  replace o1 := o1.kept n (by omega)
  clear n b
  go_wp2_with fail
  refine (s_SubstituteVariables o1.is o2.is aN haN).mono ?_
  rintro e w4 ⟨u3, rfl, o3, b⟩
  have n := below_within b w3.heap.size
  have z4 := n.size
  replace B := n.below B (by omega) (Nat.le_refl _)
  replace JaImages := IaImages.kept B
  replace JaList := IaList.kept B
  replace o1 := o1.kept n (by omega)
  replace o2 := o2.kept n (by omega)
  clear n b
  have lo3 := o3.size
  go_wp2_with fail
  refine (c_toNodeS JaList).mono ?_
  rintro e w5 ⟨u4, rfl, o4, b⟩
  have n := below_within b w4.heap.size
  have z5 := n.size
  replace B := n.below B (by omega) (Nat.le_refl _)
  replace JaImages := IaImages.kept B
  replace JaList := IaList.kept B
  replace o1 := o1.kept n (by omega)
  replace o2 := o2.kept n (by omega)
  replace o3 := o3.kept n (by omega)
  clear n b
  go_wp2_with fail
  refine (c_toInt64S JaImages).mono ?_
  rintro e w6 ⟨u5, rfl, o5, b⟩
  have n := below_within b w5.heap.size
  have z6 := n.size
  replace B := n.below B (by omega) (Nat.le_refl _)
  replace JaImages := IaImages.kept B
  replace JaList := IaList.kept B
  replace o1 := o1.kept n (by omega)
  replace o2 := o2.kept n (by omega)
  replace o3 := o3.kept n (by omega)
  replace o4 := o4.kept n (by omega)
  clear n b
  go_wp2_with fail
  refine (i_SubstituteVariables o4.is o5.is aN haN).mono ?_
  rintro e w7 ⟨u6, rfl, o6, b⟩
  have n := below_within b w6.heap.size
  have z7 := n.size
  replace B := n.below B (by omega) (Nat.le_refl _)
  replace JaImages := IaImages.kept B
  replace JaList := IaList.kept B
  replace o1 := o1.kept n (by omega)
  replace o2 := o2.kept n (by omega)
  replace o3 := o3.kept n (by omega)
  replace o4 := o4.kept n (by omega)
  replace o5 := o5.kept n (by omega)
  clear n b
  have lo6 := o6.size
  go_wp2_with fail
  refine (c_eqNodeS_refl o6.is o3.is).mono ?_
  rintro e w8 ⟨rfl, b⟩
  have n := below_within b w7.heap.size
  have z8 := n.size
  replace B := n.below B (by omega) (Nat.le_refl _)
  replace JaImages := IaImages.kept B
  replace JaList := IaList.kept B
  replace o1 := o1.kept n (by omega)
  replace o2 := o2.kept n (by omega)
  replace o3 := o3.kept n (by omega)
  replace o4 := o4.kept n (by omega)
  replace o5 := o5.kept n (by omega)
  replace o6 := o6.kept n (by omega)
  clear n b
  go_wp2_with fail
  refine (c_toNodeS JaList).mono ?_
  rintro e w9 ⟨u7, rfl, o7, b⟩
  have n := below_within b w8.heap.size
  have z9 := n.size
  replace B := n.below B (by omega) (Nat.le_refl _)
  replace JaImages := IaImages.kept B
  replace JaList := IaList.kept B
  replace o1 := o1.kept n (by omega)
  replace o2 := o2.kept n (by omega)
  replace o3 := o3.kept n (by omega)
  replace o4 := o4.kept n (by omega)
  replace o5 := o5.kept n (by omega)
  replace o6 := o6.kept n (by omega)
  clear n b
  go_wp2_with fail
  refine (c_eqNodeS_refl o4.is o7.is).mono ?_
  rintro e w10 ⟨rfl, b⟩
  have n := below_within b w9.heap.size
  have z10 := n.size
  replace B := n.below B (by omega) (Nat.le_refl _)
  replace JaImages := IaImages.kept B
  replace JaList := IaList.kept B
  replace o1 := o1.kept n (by omega)
  replace o2 := o2.kept n (by omega)
  replace o3 := o3.kept n (by omega)
  replace o4 := o4.kept n (by omega)
  replace o5 := o5.kept n (by omega)
  replace o6 := o6.kept n (by omega)
  replace o7 := o7.kept n (by omega)
  clear n b
  go_wp2_with fail
  refine (c_toInt64S JaImages).mono ?_
  rintro e w11 ⟨u8, rfl, o8, b⟩
  have n := below_within b w10.heap.size
  have z11 := n.size
  replace B := n.below B (by omega) (Nat.le_refl _)
  replace JaImages := IaImages.kept B
  replace JaList := IaList.kept B
  replace o1 := o1.kept n (by omega)
  replace o2 := o2.kept n (by omega)
  replace o3 := o3.kept n (by omega)
  replace o4 := o4.kept n (by omega)
  replace o5 := o5.kept n (by omega)
  replace o6 := o6.kept n (by omega)
  replace o7 := o7.kept n (by omega)
  clear n b
  go_wp2_with fail
  refine (c_eqInt64S_refl o5.is o8.is).mono ?_
  rintro e w12 ⟨rfl, d⟩
  have b := d.below w11.heap.size
  clear d
  have n := below_within b w11.heap.size
  have z12 := n.size
  replace B := n.below B (by omega) (Nat.le_refl _)
  replace JaImages := IaImages.kept B
  replace JaList := IaList.kept B
  replace o1 := o1.kept n (by omega)
  replace o2 := o2.kept n (by omega)
  replace o3 := o3.kept n (by omega)
  replace o4 := o4.kept n (by omega)
  replace o5 := o5.kept n (by omega)
  replace o6 := o6.kept n (by omega)
  replace o7 := o7.kept n (by omega)
  replace o8 := o8.kept n (by omega)
  clear n b
  go_wp2_with fail
  refine (c_markNodeS o4.ml _ (by omega) (by omega)).mono ?_
  rintro e w13 ⟨rfl, o4, n⟩
  have z13 := n.size
  replace B := n.below B (by omega) (Nat.le_refl _)
  replace JaImages := IaImages.kept B
  replace JaList := IaList.kept B
  replace o1 := o1.kept n (by omega)
  replace o2 := o2.kept n (by omega)
  replace o3 := o3.kept n (by omega)
  replace o5 := o5.kept n (by omega)
  replace o6 := o6.kept n (by omega)
  replace o7 := o7.kept n (by omega)
  replace o8 := o8.kept n (by omega)
  clear n
  go_wp2_with fail
  refine (c_markInt64S o5 _ (by omega) (by omega)).mono ?_
  rintro e w14 ⟨rfl, o5, n⟩
  have z14 := n.size
  replace B := n.below B (by omega) (Nat.le_refl _)
  replace JaImages := IaImages.kept B
  replace JaList := IaList.kept B
  replace o1 := o1.kept n (by omega)
  replace o2 := o2.kept n (by omega)
  replace o3 := o3.kept n (by omega)
  replace o4 := o4.kept n (by omega)
  replace o6 := o6.kept n (by omega)
  replace o7 := o7.kept n (by omega)
  replace o8 := o8.kept n (by omega)
  clear n
  go_wp2_with fail
  refine (c_eqNodeS_refl o6.is o3.is).mono ?_
  rintro e w15 ⟨rfl, b⟩
  have n := below_within b w14.heap.size
  have z15 := n.size
  replace B := n.below B (by omega) (Nat.le_refl _)
  replace JaImages := IaImages.kept B
  replace JaList := IaList.kept B
  replace o1 := o1.kept n (by omega)
  replace o2 := o2.kept n (by omega)
  replace o3 := o3.kept n (by omega)
  replace o4 := o4.kept n (by omega)
  replace o5 := o5.kept n (by omega)
  replace o6 := o6.kept n (by omega)
  replace o7 := o7.kept n (by omega)
  replace o8 := o8.kept n (by omega)
  clear n b
  go_wp2_with fail
  refine (c_markNodeS o6.ml _ (by omega) (by omega)).mono ?_
  rintro e w16 ⟨rfl, o6, n⟩
  have z16 := n.size
  replace B := n.below B (by omega) (Nat.le_refl _)
  replace JaImages := IaImages.kept B
  replace JaList := IaList.kept B
  replace o1 := o1.kept n (by omega)
  replace o2 := o2.kept n (by omega)
  replace o3 := o3.kept n (by omega)
  replace o4 := o4.kept n (by omega)
  replace o5 := o5.kept n (by omega)
  replace o7 := o7.kept n (by omega)
  replace o8 := o8.kept n (by omega)
  clear n
  go_wp2_with fail
  refine (c_heldNodeS o6.is (by omega) (by omega)).mono ?_
  rintro e w17 ⟨rfl, d⟩
  have b := d.below w16.heap.size
  clear d
  have n := below_within b w16.heap.size
  have z17 := n.size
  replace B := n.below B (by omega) (Nat.le_refl _)
  replace JaImages := IaImages.kept B
  replace JaList := IaList.kept B
  replace o1 := o1.kept n (by omega)
  replace o2 := o2.kept n (by omega)
  replace o3 := o3.kept n (by omega)
  replace o4 := o4.kept n (by omega)
  replace o5 := o5.kept n (by omega)
  replace o6 := o6.kept n (by omega)
  replace o7 := o7.kept n (by omega)
  replace o8 := o8.kept n (by omega)
  clear n b
  go_wp2_with fail
  refine (c_toNodeS JaList).mono ?_
  rintro e w18 ⟨u9, rfl, o9, b⟩
  have n := below_within b w17.heap.size
  have z18 := n.size
  replace B := n.below B (by omega) (Nat.le_refl _)
  replace JaImages := IaImages.kept B
  replace JaList := IaList.kept B
  replace o1 := o1.kept n (by omega)
  replace o2 := o2.kept n (by omega)
  replace o3 := o3.kept n (by omega)
  replace o4 := o4.kept n (by omega)
  replace o5 := o5.kept n (by omega)
  replace o6 := o6.kept n (by omega)
  replace o7 := o7.kept n (by omega)
  replace o8 := o8.kept n (by omega)
  clear n b
  go_wp2_with fail
  refine (c_toInt64S JaImages).mono ?_
  rintro e w19 ⟨u10, rfl, o10, b⟩
  have n := below_within b w18.heap.size
  have z19 := n.size
  replace B := n.below B (by omega) (Nat.le_refl _)
  replace JaImages := IaImages.kept B
  replace JaList := IaList.kept B
  replace o1 := o1.kept n (by omega)
  replace o2 := o2.kept n (by omega)
  replace o3 := o3.kept n (by omega)
  replace o4 := o4.kept n (by omega)
  replace o5 := o5.kept n (by omega)
  replace o6 := o6.kept n (by omega)
  replace o7 := o7.kept n (by omega)
  replace o8 := o8.kept n (by omega)
  replace o9 := o9.kept n (by omega)
  clear n b
  go_wp2_with fail
  refine (i_SubstituteVariables o9.is o10.is aN haN).mono ?_
  rintro e w20 ⟨u11, rfl, o11, b⟩
  have n := below_within b w19.heap.size
  have z20 := n.size
  replace B := n.below B (by omega) (Nat.le_refl _)
  replace JaImages := IaImages.kept B
  replace JaList := IaList.kept B
  replace o1 := o1.kept n (by omega)
  replace o2 := o2.kept n (by omega)
  replace o3 := o3.kept n (by omega)
  replace o4 := o4.kept n (by omega)
  replace o5 := o5.kept n (by omega)
  replace o6 := o6.kept n (by omega)
  replace o7 := o7.kept n (by omega)
  replace o8 := o8.kept n (by omega)
  replace o9 := o9.kept n (by omega)
  replace o10 := o10.kept n (by omega)
  clear n b
  have lo11 := o11.size
  go_wp2_with fail
  refine (c_eqNodeS_refl o11.is o3.is).mono ?_
  rintro e w21 ⟨rfl, b⟩
  have n := below_within b w20.heap.size
  have z21 := n.size
  replace B := n.below B (by omega) (Nat.le_refl _)
  replace JaImages := IaImages.kept B
  replace JaList := IaList.kept B
  replace o1 := o1.kept n (by omega)
  replace o2 := o2.kept n (by omega)
  replace o3 := o3.kept n (by omega)
  replace o4 := o4.kept n (by omega)
  replace o5 := o5.kept n (by omega)
  replace o6 := o6.kept n (by omega)
  replace o7 := o7.kept n (by omega)
  replace o8 := o8.kept n (by omega)
  replace o9 := o9.kept n (by omega)
  replace o10 := o10.kept n (by omega)
  replace o11 := o11.kept n (by omega)
  clear n b
  go_wp2_with fail
  refine (c_heldNodeS o6.is (by omega) (by omega)).mono ?_
  rintro e w22 ⟨rfl, d⟩
  have b := d.below w21.heap.size
  clear d
  have n := below_within b w21.heap.size
  have z22 := n.size
  replace B := n.below B (by omega) (Nat.le_refl _)
  replace JaImages := IaImages.kept B
  replace JaList := IaList.kept B
  replace o1 := o1.kept n (by omega)
  replace o2 := o2.kept n (by omega)
  replace o3 := o3.kept n (by omega)
  replace o4 := o4.kept n (by omega)
  replace o5 := o5.kept n (by omega)
  replace o6 := o6.kept n (by omega)
  replace o7 := o7.kept n (by omega)
  replace o8 := o8.kept n (by omega)
  replace o9 := o9.kept n (by omega)
  replace o10 := o10.kept n (by omega)
  replace o11 := o11.kept n (by omega)
  clear n b
  go_wp2_with fail
  go_ret
  exact ⟨rfl, B⟩
section
set_option maxRecDepth 100000 in
theorem lifted_FnExactSubstituteVariables (os : Os) (started : os.Started) (H : Type) (enc : TypeId × Value → H) :
    ReturnsInHanded {} Try.checked os 5 .any (Rows.fnExactSubstituteVariablesSpec.pre6 enc Try.prog Try.f5 Rows.fnExactSubstituteVariablesRow.domain false) (Rows.fnExactSubstituteVariablesSpec.post enc Try.prog Try.f5 false true false false) := by
  refine returnsInHanded_of_change (C := Try.checked) ownKnobNone started (by kernel_rfl) Try.func5
    (ChangeSpec.witness6 (enc := enc) (C := Try.checked) false ⟨#[], #[.slice none 0 0, .slice none 0 0, .int .i64 0], []⟩ 8 (by kernel_rfl) (by kernel_rfl) (by kernel_rfl) (by kernel_rfl)) ?_
  intro W base args ds gs before hval0 hW hcnd _
  have hval : ∀ (j : Nat) t v, Try.f5.params[j]? = some t → args[j]? = some v → Value.okWide Try.prog W .any base t v := hval0
  have hW' := hW
  obtain ⟨p, q, hA0, hV, rfl, hfz, hnd⟩ := hW
  have hA : DataW.TrodAll enc Try.prog W 0 (fun _ => true) true Try.f5.params.toList args.toList ds p := hA0
  rw [Try.params5] at hA hval
  obtain ⟨v0, vs0, d0, ds0, p0, q0, hargs, rfl, rfl, h0, r0⟩ := trodAll_cons hA
  obtain ⟨v1, vs1, d1, ds1, p1, q1, rfl, rfl, rfl, h1, r1⟩ := trodAll_cons r0
  obtain ⟨v2, vs2, d2, ds2, p2, q2, rfl, rfl, rfl, h2, r2⟩ := trodAll_cons r1
  obtain ⟨rfl, rfl, rfl⟩ := trodAll_nil r2
  obtain rfl : args = #[v0, v1, v2] := by cases args; simp_all
  obtain ⟨rfl, rfl⟩ := trodVars_none hV
  have k0 := h0
  have lt0 : ∀ x ∈ p0, x.block < W.heap.size := by obtain ⟨m, hm⟩ := k0; exact DataW.trod_lt m _ _ _ hm
  obtain ⟨a0, len0, cap0, rfl⟩ := okWide_slice Try.underlying22 (hval 0 22 v0 rfl rfl)
  have w0 : RawN W (.slice a0 len0 cap0) := by obtain ⟨fuel, hf⟩ := h0; exact rawN_trod hf
  have k1 := h1
  have lt1 : ∀ x ∈ p1, x.block < W.heap.size := by obtain ⟨m, hm⟩ := k1; exact DataW.trod_lt m _ _ _ hm
  obtain ⟨a1, len1, cap1, rfl⟩ := okWide_slice Try.underlying33 (hval 1 33 v1 rfl rfl)
  have w1 : RawI W (.slice a1 len1 cap1) := by obtain ⟨fuel, hf⟩ := h1; exact rawI_trod hf
  obtain ⟨a2, rfl, rfl, rfl, w2⟩ := open_int Try.underlying2 (hval 2 2 v2 rfl rfl) h2
  clear hA0 hval0
  refine (walk_FnExactSubstituteVariables (.slice a0 len0 cap0) (.slice a1 len1 cap1) a2 W w0 w1 (wf_I64 w2)).mono fun e W' ⟨he, bel⟩ => ?_
  subst he
  exact ⟨_, rfl, _, _, _, [], _, [], hW', trodAll_mk1 (shut_bool Try.underlying4 _), (trodAll_cons_mk (Below.trod laidOutB_prog (by kernel_rfl) (of_decide_eq_true (by kernel_rfl)) k0 bel lt0) (trodAll_cons_mk (Below.trod laidOutB_prog (by kernel_rfl) (of_decide_eq_true (by kernel_rfl)) k1 bel lt1) (trodAll_cons_mk (shut_int Try.underlying2 w2) (trodAll_mk0)))), rfl, bel.frame _, fun h => by cases h⟩
end
/-- THE STATEMENT. -/
theorem proved_FnExactSubstituteVariables : Rows.FnExactSubstituteVariablesSaid :=
  OpenClaim.holds_of_wide 5 Try.f5 rfl rfl rfl rfl rfl rfl rfl ⟨rfl, rfl, rfl, rfl, rfl⟩ rfl rfl rfl rfl rfl (by kernel_rfl) Try.func5 (by kernel_rfl)
    (of_decide_eq_true (by kernel_rfl)) (by unfold Func.isWrapper; first | (rw [if_pos (by decide +kernel)]; kernel_rfl) | (rw [if_neg (by decide +kernel)]; exact ⟨rfl, rfl⟩))
    (fun os started H enc _ => lifted_FnExactSubstituteVariables os started H enc)
end Go.Proofs.Ytmhhgaggkgcdbaa
