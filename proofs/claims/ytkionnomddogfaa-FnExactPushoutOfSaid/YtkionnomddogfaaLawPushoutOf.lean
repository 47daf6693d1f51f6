/- FnExactPushoutOf returns true for every input and leaves its arguments as they were. No condition. -/
import Derived.Test.YtkionnomddogfaaCoeq
import Derived.Test.YtkionnomddogfaaFrame
namespace Go.Proofs.Ytkionnomddogfaa
open Go.ChangeShapes Go.WideShapes Go.ChangeAt Go.RowKit
theorem walk_FnExactPushoutOf (aN : Int) (aF : Value) (aK : Int) (aG : Value) (w : World) (haN : I64 aN) (haF : RawI w aF) (haK : I64 aK) (haG : RawI w aG) :
    Calls Try.prog 9 #[.int .i64 aN, aF, .int .i64 aK, aG] w (fun e w' => e = .returned (.bool true) ∧ Below w.heap.size w w') := by
  obtain ⟨aoaF, lenaF, capaF, rfl, hlaF, hxaF⟩ := haF
  obtain ⟨aoaG, lenaG, capaG, rfl, hlaG, hxaG⟩ := haG
  rcases Nat.lt_or_ge 1048576 lenaF with hbaF | hbaF
  · go_enter Try.func9, Try.ntmps9
    go_wp2_with fail
    go_ret
    exact ⟨rfl, Below.refl _ _⟩
  obtain ⟨xsaF, hxlaF, IaF⟩ := hxaF hbaF
  clear hxaF
  rcases Nat.lt_or_ge 1048576 lenaG with hbaG | hbaG
  · go_enter Try.func9, Try.ntmps9
    go_wp2_with fail
    go_ret
    exact ⟨rfl, Below.refl _ _⟩
  obtain ⟨xsaG, hxlaG, IaG⟩ := hxaG hbaG
  clear hxaG
  go_enter Try.func9, Try.ntmps9
  go_wp2_with fail
  refine (c_toInt64S IaF).mono ?_
  rintro e w1 ⟨u1, rfl, o1, b⟩
  have n := below_within b w.heap.size
  have z1 := n.size
  have B := n.below (Below.refl _ _) (Nat.le_refl _) (Nat.le_refl _)
  have JaF := IaF.kept B
  have JaG := IaG.kept B
  clear n b
  go_wp2_with fail
  refine (c_toInt64S JaG).mono ?_
  rintro e w2 ⟨u2, rfl, o2, b⟩
  have n := below_within b w1.heap.size
  have z2 := n.size
  replace B := n.below B (by omega) (Nat.le_refl _)
  replace JaF := IaF.kept B
  replace JaG := IaG.kept B
  replace o1 := o1.kept n (by omega)
  clear n b
  go_wp2_with fail
  refine (s_PushoutOf aN haN o1.is aK haK o2.is).mono ?_
  rintro e w3 ⟨u3, rfl, o3, b⟩
  have n := below_within b w2.heap.size
  have z3 := n.size
  replace B := n.below B (by omega) (Nat.le_refl _)
  replace JaF := IaF.kept B
  replace JaG := IaG.kept B
  replace o1 := o1.kept n (by omega)
  replace o2 := o2.kept n (by omega)
  clear n b
  have lo3 := o3.size
  go_wp2_with fail
  refine (c_toInt64S JaF).mono ?_
  rintro e w4 ⟨u4, rfl, o4, b⟩
  have n := below_within b w3.heap.size
  have z4 := n.size
  replace B := n.below B (by omega) (Nat.le_refl _)
  replace JaF := IaF.kept B
  replace JaG := IaG.kept B
  replace o1 := o1.kept n (by omega)
  replace o2 := o2.kept n (by omega)
  replace o3 := o3.kept n (by omega)
  clear n b
  go_wp2_with fail
  refine (c_toInt64S JaG).mono ?_
  rintro e w5 ⟨u5, rfl, o5, b⟩
  have n := below_within b w4.heap.size
  have z5 := n.size
  replace B := n.below B (by omega) (Nat.le_refl _)
  replace JaF := IaF.kept B
  replace JaG := IaG.kept B
  replace o1 := o1.kept n (by omega)
  replace o2 := o2.kept n (by omega)
  replace o3 := o3.kept n (by omega)
  replace o4 := o4.kept n (by omega)
  clear n b
  go_wp2_with fail
  refine (i_PushoutOf aN haN o4.is aK haK o5.is).mono ?_
  rintro e w6 ⟨u6, rfl, o6, b⟩
  have n := below_within b w5.heap.size
  have z6 := n.size
  replace B := n.below B (by omega) (Nat.le_refl _)
  replace JaF := IaF.kept B
  replace JaG := IaG.kept B
  replace o1 := o1.kept n (by omega)
  replace o2 := o2.kept n (by omega)
  replace o3 := o3.kept n (by omega)
  replace o4 := o4.kept n (by omega)
  replace o5 := o5.kept n (by omega)
  clear n b
  have lo6 := o6.size
  go_wp2_with fail
  refine (c_eqInt64S_refl o6.is o3.is).mono ?_
  rintro e w7 ⟨rfl, d⟩
  have b := d.below w6.heap.size
  clear d
  have n := below_within b w6.heap.size
  have z7 := n.size
  replace B := n.below B (by omega) (Nat.le_refl _)
  replace JaF := IaF.kept B
  replace JaG := IaG.kept B
  replace o1 := o1.kept n (by omega)
  replace o2 := o2.kept n (by omega)
  replace o3 := o3.kept n (by omega)
  replace o4 := o4.kept n (by omega)
  replace o5 := o5.kept n (by omega)
  replace o6 := o6.kept n (by omega)
  clear n b
  go_wp2_with fail
  refine (c_toInt64S JaF).mono ?_
  rintro e w8 ⟨u7, rfl, o7, b⟩
  have n := below_within b w7.heap.size
  have z8 := n.size
  replace B := n.below B (by omega) (Nat.le_refl _)
  replace JaF := IaF.kept B
  replace JaG := IaG.kept B
  replace o1 := o1.kept n (by omega)
  replace o2 := o2.kept n (by omega)
  replace o3 := o3.kept n (by omega)
  replace o4 := o4.kept n (by omega)
  replace o5 := o5.kept n (by omega)
  replace o6 := o6.kept n (by omega)
  clear n b
  go_wp2_with fail
  refine (c_eqInt64S_refl o4.is o7.is).mono ?_
  rintro e w9 ⟨rfl, d⟩
  have b := d.below w8.heap.size
  clear d
  have n := below_within b w8.heap.size
  have z9 := n.size
  replace B := n.below B (by omega) (Nat.le_refl _)
  replace JaF := IaF.kept B
  replace JaG := IaG.kept B
  replace o1 := o1.kept n (by omega)
  replace o2 := o2.kept n (by omega)
  replace o3 := o3.kept n (by omega)
  replace o4 := o4.kept n (by omega)
  replace o5 := o5.kept n (by omega)
  replace o6 := o6.kept n (by omega)
  replace o7 := o7.kept n (by omega)
  clear n b
  go_wp2_with fail
  refine (c_toInt64S JaG).mono ?_
  rintro e w10 ⟨u8, rfl, o8, b⟩
  have n := below_within b w9.heap.size
  have z10 := n.size
  replace B := n.below B (by omega) (Nat.le_refl _)
  replace JaF := IaF.kept B
  replace JaG := IaG.kept B
  replace o1 := o1.kept n (by omega)
  replace o2 := o2.kept n (by omega)
  replace o3 := o3.kept n (by omega)
  replace o4 := o4.kept n (by omega)
  replace o5 := o5.kept n (by omega)
  replace o6 := o6.kept n (by omega)
  replace o7 := o7.kept n (by omega)
  clear n b
  go_wp2_with fail
  refine (c_eqInt64S_refl o5.is o8.is).mono ?_
  rintro e w11 ⟨rfl, d⟩
  have b := d.below w10.heap.size
  clear d
  have n := below_within b w10.heap.size
  have z11 := n.size
  replace B := n.below B (by omega) (Nat.le_refl _)
  replace JaF := IaF.kept B
  replace JaG := IaG.kept B
  replace o1 := o1.kept n (by omega)
  replace o2 := o2.kept n (by omega)
  replace o3 := o3.kept n (by omega)
  replace o4 := o4.kept n (by omega)
  replace o5 := o5.kept n (by omega)
  replace o6 := o6.kept n (by omega)
  replace o7 := o7.kept n (by omega)
  replace o8 := o8.kept n (by omega)
  clear n b
  go_wp2_with fail
  refine (c_markInt64S o4 _ (by omega) (by omega)).mono ?_
  rintro e w12 ⟨rfl, o4, n⟩
  have z12 := n.size
  replace B := n.below B (by omega) (Nat.le_refl _)
  replace JaF := IaF.kept B
  replace JaG := IaG.kept B
  replace o1 := o1.kept n (by omega)
  replace o2 := o2.kept n (by omega)
  replace o3 := o3.kept n (by omega)
  replace o5 := o5.kept n (by omega)
  replace o6 := o6.kept n (by omega)
  replace o7 := o7.kept n (by omega)
  replace o8 := o8.kept n (by omega)
  clear n
  go_wp2_with fail
  refine (c_markInt64S o5 _ (by omega) (by omega)).mono ?_
  rintro e w13 ⟨rfl, o5, n⟩
  have z13 := n.size
  replace B := n.below B (by omega) (Nat.le_refl _)
  replace JaF := IaF.kept B
  replace JaG := IaG.kept B
  replace o1 := o1.kept n (by omega)
  replace o2 := o2.kept n (by omega)
  replace o3 := o3.kept n (by omega)
  replace o4 := o4.kept n (by omega)
  replace o6 := o6.kept n (by omega)
  replace o7 := o7.kept n (by omega)
  replace o8 := o8.kept n (by omega)
  clear n
  go_wp2_with fail
  refine (c_eqInt64S_refl o6.is o3.is).mono ?_
  rintro e w14 ⟨rfl, d⟩
  have b := d.below w13.heap.size
  clear d
  have n := below_within b w13.heap.size
  have z14 := n.size
  replace B := n.below B (by omega) (Nat.le_refl _)
  replace JaF := IaF.kept B
  replace JaG := IaG.kept B
  replace o1 := o1.kept n (by omega)
  replace o2 := o2.kept n (by omega)
  replace o3 := o3.kept n (by omega)
  replace o4 := o4.kept n (by omega)
  replace o5 := o5.kept n (by omega)
  replace o6 := o6.kept n (by omega)
  replace o7 := o7.kept n (by omega)
  replace o8 := o8.kept n (by omega)
  clear n b
  go_wp2_with fail
  refine (c_markInt64S o6 _ (by omega) (by omega)).mono ?_
  rintro e w15 ⟨rfl, o6, n⟩
  have z15 := n.size
  replace B := n.below B (by omega) (Nat.le_refl _)
  replace JaF := IaF.kept B
  replace JaG := IaG.kept B
  replace o1 := o1.kept n (by omega)
  replace o2 := o2.kept n (by omega)
  replace o3 := o3.kept n (by omega)
  replace o4 := o4.kept n (by omega)
  replace o5 := o5.kept n (by omega)
  replace o7 := o7.kept n (by omega)
  replace o8 := o8.kept n (by omega)
  clear n
  go_wp2_with fail
  refine (c_heldInt64S o6.is (by omega) (by omega)).mono ?_
  rintro e w16 ⟨rfl, d⟩
  have b := d.below w15.heap.size
  clear d
  have n := below_within b w15.heap.size
  have z16 := n.size
  replace B := n.below B (by omega) (Nat.le_refl _)
  replace JaF := IaF.kept B
  replace JaG := IaG.kept B
  replace o1 := o1.kept n (by omega)
  replace o2 := o2.kept n (by omega)
  replace o3 := o3.kept n (by omega)
  replace o4 := o4.kept n (by omega)
  replace o5 := o5.kept n (by omega)
  replace o6 := o6.kept n (by omega)
  replace o7 := o7.kept n (by omega)
  replace o8 := o8.kept n (by omega)
  clear n b
  go_wp2_with fail
  refine (c_toInt64S JaF).mono ?_
  rintro e w17 ⟨u9, rfl, o9, b⟩
  have n := below_within b w16.heap.size
  have z17 := n.size
  replace B := n.below B (by omega) (Nat.le_refl _)
  replace JaF := IaF.kept B
  replace JaG := IaG.kept B
  replace o1 := o1.kept n (by omega)
  replace o2 := o2.kept n (by omega)
  replace o3 := o3.kept n (by omega)
  replace o4 := o4.kept n (by omega)
  replace o5 := o5.kept n (by omega)
  replace o6 := o6.kept n (by omega)
  replace o7 := o7.kept n (by omega)
  replace o8 := o8.kept n (by omega)
  clear n b
  go_wp2_with fail
  refine (c_toInt64S JaG).mono ?_
  rintro e w18 ⟨u10, rfl, o10, b⟩
  have n := below_within b w17.heap.size
  have z18 := n.size
  replace B := n.below B (by omega) (Nat.le_refl _)
  replace JaF := IaF.kept B
  replace JaG := IaG.kept B
  replace o1 := o1.kept n (by omega)
  replace o2 := o2.kept n (by omega)
  replace o3 := o3.kept n (by omega)
  replace o4 := o4.kept n (by omega)
  replace o5 := o5.kept n (by omega)
  replace o6 := o6.kept n (by omega)
  replace o7 := o7.kept n (by omega)
  replace o8 := o8.kept n (by omega)
  replace o9 := o9.kept n (by omega)
  clear n b
  go_wp2_with fail
  refine (i_PushoutOf aN haN o9.is aK haK o10.is).mono ?_
  rintro e w19 ⟨u11, rfl, o11, b⟩
  have n := below_within b w18.heap.size
  have z19 := n.size
  replace B := n.below B (by omega) (Nat.le_refl _)
  replace JaF := IaF.kept B
  replace JaG := IaG.kept B
  replace o1 := o1.kept n (by omega)
  replace o2 := o2.kept n (by omega)
  replace o3 := o3.kept n (by omega)
  replace o4 := o4.kept n (by omega)
  replace o5 := o5.kept n (by omega)
  replace o6 := o6.kept n (by omega)
  replace o7 := o7.kept n (by omega)
  replace o8 := o8.kept n (by omega)
  replace o9 := o9.kept n (by omega)
  replace o10 := o10.kept n (by omega)
  clear n b
  have lo11 := o11.size
  go_wp2_with fail
  refine (c_eqInt64S_refl o11.is o3.is).mono ?_
  rintro e w20 ⟨rfl, d⟩
  have b := d.below w19.heap.size
  clear d
  have n := below_within b w19.heap.size
  have z20 := n.size
  replace B := n.below B (by omega) (Nat.le_refl _)
  replace JaF := IaF.kept B
  replace JaG := IaG.kept B
  replace o1 := o1.kept n (by omega)
  replace o2 := o2.kept n (by omega)
  replace o3 := o3.kept n (by omega)
  replace o4 := o4.kept n (by omega)
  replace o5 := o5.kept n (by omega)
  replace o6 := o6.kept n (by omega)
  replace o7 := o7.kept n (by omega)
  replace o8 := o8.kept n (by omega)
  replace o9 := o9.kept n (by omega)
  replace o10 := o10.kept n (by omega)
  replace o11 := o11.kept n (by omega)
  clear n b
  go_wp2_with fail
  refine (c_heldInt64S o6.is (by omega) (by omega)).mono ?_
  rintro e w21 ⟨rfl, d⟩
  have b := d.below w20.heap.size
  clear d
  have n := below_within b w20.heap.size
  have z21 := n.size
  replace B := n.below B (by omega) (Nat.le_refl _)
  replace JaF := IaF.kept B
  replace JaG := IaG.kept B
  replace o1 := o1.kept n (by omega)
  replace o2 := o2.kept n (by omega)
  replace o3 := o3.kept n (by omega)
  replace o4 := o4.kept n (by omega)
  replace o5 := o5.kept n (by omega)
  replace o6 := o6.kept n (by omega)
  replace o7 := o7.kept n (by omega)
  replace o8 := o8.kept n (by omega)
  replace o9 := o9.kept n (by omega)
  replace o10 := o10.kept n (by omega)
  replace o11 := o11.kept n (by omega)
  clear n b
  go_wp2_with fail
  go_ret
  exact ⟨rfl, B⟩
section
set_option maxRecDepth 100000 in
theorem lifted_FnExactPushoutOf (os : Os) (started : os.Started) (H : Type) (enc : TypeId × Value → H) :
    ReturnsInHanded {} Try.checked os 9 .any (Rows.fnExactPushoutOfSpec.pre6 enc Try.prog Try.f9 Rows.fnExactPushoutOfRow.domain false) (Rows.fnExactPushoutOfSpec.post enc Try.prog Try.f9 false true false false) := by
  refine returnsInHanded_of_change (C := Try.checked) ownKnobNone started (by kernel_rfl) Try.func9
    (ChangeSpec.witness6 (enc := enc) (C := Try.checked) false ⟨#[], #[.int .i64 0, .slice none 0 0, .int .i64 0, .slice none 0 0], []⟩ 8 (by kernel_rfl) (by kernel_rfl) (by kernel_rfl) (by kernel_rfl)) ?_
  intro W base args ds gs before hval0 hW hcnd _
  have hval : ∀ (j : Nat) t v, Try.f9.params[j]? = some t → args[j]? = some v → Value.okWide Try.prog W .any base t v := hval0
  have hW' := hW
  obtain ⟨p, q, hA0, hV, rfl, hfz, hnd⟩ := hW
  have hA : DataW.TrodAll enc Try.prog W 0 (fun _ => true) true Try.f9.params.toList args.toList ds p := hA0
  rw [Try.params9] at hA hval
  obtain ⟨v0, vs0, d0, ds0, p0, q0, hargs, rfl, rfl, h0, r0⟩ := trodAll_cons hA
  obtain ⟨v1, vs1, d1, ds1, p1, q1, rfl, rfl, rfl, h1, r1⟩ := trodAll_cons r0
  obtain ⟨v2, vs2, d2, ds2, p2, q2, rfl, rfl, rfl, h2, r2⟩ := trodAll_cons r1
  obtain ⟨v3, vs3, d3, ds3, p3, q3, rfl, rfl, rfl, h3, r3⟩ := trodAll_cons r2
  obtain ⟨rfl, rfl, rfl⟩ := trodAll_nil r3
  obtain rfl : args = #[v0, v1, v2, v3] := by cases args; simp_all
  obtain ⟨rfl, rfl⟩ := trodVars_none hV
  obtain ⟨a0, rfl, rfl, rfl, w0⟩ := open_int Try.underlying2 (hval 0 2 v0 rfl rfl) h0
  have k1 := h1
  have lt1 : ∀ x ∈ p1, x.block < W.heap.size := by obtain ⟨m, hm⟩ := k1; exact DataW.trod_lt m _ _ _ hm
  obtain ⟨a1, len1, cap1, rfl⟩ := okWide_slice Try.underlying22 (hval 1 22 v1 rfl rfl)
  have w1 : RawI W (.slice a1 len1 cap1) := by obtain ⟨fuel, hf⟩ := h1; exact rawI_trod hf
  obtain ⟨a2, rfl, rfl, rfl, w2⟩ := open_int Try.underlying2 (hval 2 2 v2 rfl rfl) h2
  have k3 := h3
  have lt3 : ∀ x ∈ p3, x.block < W.heap.size := by obtain ⟨m, hm⟩ := k3; exact DataW.trod_lt m _ _ _ hm
  obtain ⟨a3, len3, cap3, rfl⟩ := okWide_slice Try.underlying22 (hval 3 22 v3 rfl rfl)
  have w3 : RawI W (.slice a3 len3 cap3) := by obtain ⟨fuel, hf⟩ := h3; exact rawI_trod hf
  clear hA0 hval0
  refine (walk_FnExactPushoutOf a0 (.slice a1 len1 cap1) a2 (.slice a3 len3 cap3) W (wf_I64 w0) w1 (wf_I64 w2) w3).mono fun e W' ⟨he, bel⟩ => ?_
  subst he
  exact ⟨_, rfl, _, _, _, [], _, [], hW', trodAll_mk1 (shut_bool Try.underlying4 _), (trodAll_cons_mk (shut_int Try.underlying2 w0) (trodAll_cons_mk (Below.trod laidOutB_prog (by kernel_rfl) (of_decide_eq_true (by kernel_rfl)) k1 bel lt1) (trodAll_cons_mk (shut_int Try.underlying2 w2) (trodAll_cons_mk (Below.trod laidOutB_prog (by kernel_rfl) (of_decide_eq_true (by kernel_rfl)) k3 bel lt3) (trodAll_mk0))))), rfl, bel.frame _, fun h => by cases h⟩
end
/-- THE STATEMENT. -/
theorem proved_FnExactPushoutOf : Rows.FnExactPushoutOfSaid :=
  OpenClaim.holds_of_wide 9 Try.f9 rfl rfl rfl rfl rfl rfl rfl ⟨rfl, rfl, rfl, rfl, rfl⟩ rfl rfl rfl rfl rfl (by kernel_rfl) Try.func9 (by kernel_rfl)
    (of_decide_eq_true (by kernel_rfl)) (by unfold Func.isWrapper; first | (rw [if_pos (by decide +kernel)]; kernel_rfl) | (rw [if_neg (by decide +kernel)]; exact ⟨rfl, rfl⟩))
    (fun os started H enc _ => lifted_FnExactPushoutOf os started H enc)
end Go.Proofs.Ytkionnomddogfaa
