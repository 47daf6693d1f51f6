/- FnExactJoinFormulas returns true for every input and leaves its arguments as they were. No condition. -/
import Derived.Test.YtmhhgaggkgcdbaaNodeJoin
namespace Go.Proofs.Ytmhhgaggkgcdbaa
open Go.ChangeShapes Go.WideShapes Go.ChangeAt Go.RowKit
theorem walk_FnExactJoinFormulas (aKind : Int) (aA : Value) (aB : Value) (w : World) (haKind : I64 aKind) (haA : RawN w aA) (haB : RawN w aB) :
    Calls Try.prog 3 #[.int .i64 aKind, aA, aB] w (fun e w' => e = .returned (.bool true) ∧ Below w.heap.size w w') := by
  go_enter Try.func3, Try.ntmps3
  go_wp2_with fail
  have B := Below.refl w.heap.size w
  obtain ⟨q0, hq0⟩ : ∃ q : Int, q = 1048576 := ⟨_, rfl⟩
  refine (c_szNodeS haA B 1048576 (by omega) (by omega)).mono ?_
  rintro e w1 ⟨q1, rfl, d, hq⟩
  replace B := bel_next B d
  clear d
  rcases hq with hq | ⟨hqa1, hqb1, hqx⟩
  · have hqn : decide (q1 < 0) = true := by simp [hq]
    go_wp2_with fail
    go_ret
    exact ⟨rfl, B⟩
  have hqn1 : decide (q1 < 0) = false := by simp; omega
  obtain ⟨xsaA, IaA⟩ := hqx
  have SaA := IaA.size
  go_wp2_with fail
  refine (c_szNodeS haB B q1 (by omega) (by omega)).mono ?_
  rintro e w2 ⟨q2, rfl, d, hq⟩
  replace B := bel_next B d
  clear d
  rcases hq with hq | ⟨hqa2, hqb2, hqx⟩
  · have hqn : decide (q2 < 0) = true := by simp [hq]
    go_wp2_with fail
    go_ret
    exact ⟨rfl, B⟩
  have hqn2 : decide (q2 < 0) = false := by simp; omega
  obtain ⟨xsaB, IaB⟩ := hqx
  have SaB := IaB.size
  go_wp2_with fail
  have z0 := B.size
  have JaA := IaA.kept B
  have JaB := IaB.kept B
  refine (c_toNodeS JaA).mono ?_
  rintro e w3 ⟨u1, rfl, o1, b⟩
  have n := below_within b w2.heap.size
  have z3 := n.size
  replace B := n.below B (by omega) (Nat.le_refl _)
  replace JaA := IaA.kept B
  replace JaB := IaB.kept B
  clear n b
  go_wp2_with fail
  refine (c_toNodeS JaB).mono ?_
  rintro e w4 ⟨u2, rfl, o2, b⟩
  have n := below_within b w3.heap.size
  have z4 := n.size
  replace B := n.below B (by omega) (Nat.le_refl _)
  replace JaA := IaA.kept B
  replace JaB := IaB.kept B
  replace o1 := o1.kept n (by omega)
  clear n b
  go_wp2_with fail
  refine (s_JoinFormulas aKind haKind o1.is o2.is).mono ?_
  rintro e w5 ⟨u3, rfl, o3, b⟩
  have n := below_within b w4.heap.size
  have z5 := n.size
  replace B := n.below B (by omega) (Nat.le_refl _)
  replace JaA := IaA.kept B
  replace JaB := IaB.kept B
  replace o1 := o1.kept n (by omega)
  replace o2 := o2.kept n (by omega)
  clear n b
  have lo3 := o3.size
  go_wp2_with fail
  refine (c_toNodeS JaA).mono ?_
  rintro e w6 ⟨u4, rfl, o4, b⟩
  have n := below_within b w5.heap.size
  have z6 := n.size
  replace B := n.below B (by omega) (Nat.le_refl _)
  replace JaA := IaA.kept B
  replace JaB := IaB.kept B
  replace o1 := o1.kept n (by omega)
  replace o2 := o2.kept n (by omega)
  replace o3 := o3.kept n (by omega)
  clear n b
  go_wp2_with fail
  refine (c_toNodeS JaB).mono ?_
  rintro e w7 ⟨u5, rfl, o5, b⟩
  have n := below_within b w6.heap.size
  have z7 := n.size
  replace B := n.below B (by omega) (Nat.le_refl _)
  replace JaA := IaA.kept B
  replace JaB := IaB.kept B
  replace o1 := o1.kept n (by omega)
  replace o2 := o2.kept n (by omega)
  replace o3 := o3.kept n (by omega)
  replace o4 := o4.kept n (by omega)
  clear n b
  go_wp2_with fail
  refine (i_JoinFormulas aKind haKind o4.is o5.is).mono ?_
  rintro e w8 ⟨u6, rfl, o6, b⟩
  have n := below_within b w7.heap.size
  have z8 := n.size
  replace B := n.below B (by omega) (Nat.le_refl _)
  replace JaA := IaA.kept B
  replace JaB := IaB.kept B
  replace o1 := o1.kept n (by omega)
  replace o2 := o2.kept n (by omega)
  replace o3 := o3.kept n (by omega)
  replace o4 := o4.kept n (by omega)
  replace o5 := o5.kept n (by omega)
  clear n b
  have lo6 := o6.size
  go_wp2_with fail
  refine (c_eqNodeS_refl o6.is o3.is).mono ?_
  rintro e w9 ⟨rfl, b⟩
  have n := below_within b w8.heap.size
  have z9 := n.size
  replace B := n.below B (by omega) (Nat.le_refl _)
  replace JaA := IaA.kept B
  replace JaB := IaB.kept B
  replace o1 := o1.kept n (by omega)
  replace o2 := o2.kept n (by omega)
  replace o3 := o3.kept n (by omega)
  replace o4 := o4.kept n (by omega)
  replace o5 := o5.kept n (by omega)
  replace o6 := o6.kept n (by omega)
  clear n b
  go_wp2_with fail
  refine (c_toNodeS JaA).mono ?_
  rintro e w10 ⟨u7, rfl, o7, b⟩
  have n := below_within b w9.heap.size
  have z10 := n.size
  replace B := n.below B (by omega) (Nat.le_refl _)
  replace JaA := IaA.kept B
  replace JaB := IaB.kept B
  replace o1 := o1.kept n (by omega)
  replace o2 := o2.kept n (by omega)
  replace o3 := o3.kept n (by omega)
  replace o4 := o4.kept n (by omega)
  replace o5 := o5.kept n (by omega)
  replace o6 := o6.kept n (by omega)
  clear n b
  go_wp2_with fail
  refine (c_eqNodeS_refl o4.is o7.is).mono ?_
  rintro e w11 ⟨rfl, b⟩
  have n := below_within b w10.heap.size
  have z11 := n.size
  replace B := n.below B (by omega) (Nat.le_refl _)
  replace JaA := IaA.kept B
  replace JaB := IaB.kept B
  replace o1 := o1.kept n (by omega)
  replace o2 := o2.kept n (by omega)
  replace o3 := o3.kept n (by omega)
  replace o4 := o4.kept n (by omega)
  replace o5 := o5.kept n (by omega)
  replace o6 := o6.kept n (by omega)
  replace o7 := o7.kept n (by omega)
  clear n b
  go_wp2_with fail
  refine (c_toNodeS JaB).mono ?_
  rintro e w12 ⟨u8, rfl, o8, b⟩
  have n := below_within b w11.heap.size
  have z12 := n.size
  replace B := n.below B (by omega) (Nat.le_refl _)
  replace JaA := IaA.kept B
  replace JaB := IaB.kept B
  replace o1 := o1.kept n (by omega)
  replace o2 := o2.kept n (by omega)
  replace o3 := o3.kept n (by omega)
  replace o4 := o4.kept n (by omega)
  replace o5 := o5.kept n (by omega)
  replace o6 := o6.kept n (by omega)
  replace o7 := o7.kept n (by omega)
  clear n b
  go_wp2_with fail
  refine (c_eqNodeS_refl o5.is o8.is).mono ?_
  rintro e w13 ⟨rfl, b⟩
  have n := below_within b w12.heap.size
  have z13 := n.size
  replace B := n.below B (by omega) (Nat.le_refl _)
  replace JaA := IaA.kept B
  replace JaB := IaB.kept B
  replace o1 := o1.kept n (by omega)
  replace o2 := o2.kept n (by omega)
  replace o3 := o3.kept n (by omega)
  replace o4 := o4.kept n (by omega)
  replace o5 := o5.kept n (by omega)
  replace o6 := o6.kept n (by omega)
  replace o7 := o7.kept n (by omega)
  replace o8 := o8.kept n (by omega)
  clear n b
  go_wp2_with fail
  refine (c_markNodeS o4.ml _ (by omega) (by omega)).mono ?_
  rintro e w14 ⟨rfl, o4, n⟩
  have z14 := n.size
  replace B := n.below B (by omega) (Nat.le_refl _)
  replace JaA := IaA.kept B
  replace JaB := IaB.kept B
  replace o1 := o1.kept n (by omega)
  replace o2 := o2.kept n (by omega)
  replace o3 := o3.kept n (by omega)
  replace o5 := o5.kept n (by omega)
  replace o6 := o6.kept n (by omega)
  replace o7 := o7.kept n (by omega)
  replace o8 := o8.kept n (by omega)
  clear n
  go_wp2_with fail
  refine (c_markNodeS o5.ml _ (by omega) (by omega)).mono ?_
  rintro e w15 ⟨rfl, o5, n⟩
  have z15 := n.size
  replace B := n.below B (by omega) (Nat.le_refl _)
  replace JaA := IaA.kept B
  replace JaB := IaB.kept B
  replace o1 := o1.kept n (by omega)
  replace o2 := o2.kept n (by omega)
  replace o3 := o3.kept n (by omega)
  replace o4 := o4.kept n (by omega)
  replace o6 := o6.kept n (by omega)
  replace o7 := o7.kept n (by omega)
  replace o8 := o8.kept n (by omega)
  clear n
  go_wp2_with fail
  refine (c_eqNodeS_refl o6.is o3.is).mono ?_
  rintro e w16 ⟨rfl, b⟩
  have n := below_within b w15.heap.size
  have z16 := n.size
  replace B := n.below B (by omega) (Nat.le_refl _)
  replace JaA := IaA.kept B
  replace JaB := IaB.kept B
  replace o1 := o1.kept n (by omega)
  replace o2 := o2.kept n (by omega)
  replace o3 := o3.kept n (by omega)
  replace o4 := o4.kept n (by omega)
  replace o5 := o5.kept n (by omega)
  replace o6 := o6.kept n (by omega)
  replace o7 := o7.kept n (by omega)
  replace o8 := o8.kept n (by omega)
  clear n b
  go_wp2_with fail
  refine (c_markNodeS o6.ml _ (by omega) (by omega)).mono ?_
  rintro e w17 ⟨rfl, o6, n⟩
  have z17 := n.size
  replace B := n.below B (by omega) (Nat.le_refl _)
  replace JaA := IaA.kept B
  replace JaB := IaB.kept B
  replace o1 := o1.kept n (by omega)
  replace o2 := o2.kept n (by omega)
  replace o3 := o3.kept n (by omega)
  replace o4 := o4.kept n (by omega)
  replace o5 := o5.kept n (by omega)
  replace o7 := o7.kept n (by omega)
  replace o8 := o8.kept n (by omega)
  clear n
  go_wp2_with fail
  refine (c_heldNodeS o6.is (by omega) (by omega)).mono ?_
  rintro e w18 ⟨rfl, d⟩
  have b := d.below w17.heap.size
  clear d
  have n := below_within b w17.heap.size
  have z18 := n.size
  replace B := n.below B (by omega) (Nat.le_refl _)
  replace JaA := IaA.kept B
  replace JaB := IaB.kept B
  replace o1 := o1.kept n (by omega)
  replace o2 := o2.kept n (by omega)
  replace o3 := o3.kept n (by omega)
  replace o4 := o4.kept n (by omega)
  replace o5 := o5.kept n (by omega)
  replace o6 := o6.kept n (by omega)
  replace o7 := o7.kept n (by omega)
  replace o8 := o8.kept n (by omega)
  clear n b
  go_wp2_with fail
  refine (c_toNodeS JaA).mono ?_
  rintro e w19 ⟨u9, rfl, o9, b⟩
  have n := below_within b w18.heap.size
  have z19 := n.size
  replace B := n.below B (by omega) (Nat.le_refl _)
  replace JaA := IaA.kept B
  replace JaB := IaB.kept B
  replace o1 := o1.kept n (by omega)
  replace o2 := o2.kept n (by omega)
  replace o3 := o3.kept n (by omega)
  replace o4 := o4.kept n (by omega)
  replace o5 := o5.kept n (by omega)
  replace o6 := o6.kept n (by omega)
  replace o7 := o7.kept n (by omega)
  replace o8 := o8.kept n (by omega)
  clear n b
  go_wp2_with fail
  refine (c_toNodeS JaB).mono ?_
  rintro e w20 ⟨u10, rfl, o10, b⟩
  have n := below_within b w19.heap.size
  have z20 := n.size
  replace B := n.below B (by omega) (Nat.le_refl _)
  replace JaA := IaA.kept B
  replace JaB := IaB.kept B
  replace o1 := o1.kept n (by omega)
  replace o2 := o2.kept n (by omega)
  replace o3 := o3.kept n (by omega)
  replace o4 := o4.kept n (by omega)
  replace o5 := o5.kept n (by omega)
  replace o6 := o6.kept n (by omega)
  replace o7 := o7.kept n (by omega)
  replace o8 := o8.kept n (by omega)
  replace o9 := o9.kept n (by omega)
  clear n b
  go_wp2_with fail
  refine (i_JoinFormulas aKind haKind o9.is o10.is).mono ?_
  rintro e w21 ⟨u11, rfl, o11, b⟩
  have n := below_within b w20.heap.size
  have z21 := n.size
  replace B := n.below B (by omega) (Nat.le_refl _)
  replace JaA := IaA.kept B
  replace JaB := IaB.kept B
  replace o1 := o1.kept n (by omega)
  replace o2 := o2.kept n (by omega)
  replace o3 := o3.kept n (by omega)
  replace o4 := o4.kept n (by omega)
  replace o5 := o5.kept n (by omega)
  replace o6 := o6.kept n (by omega)
  replace o7 := o7.kept n (by omega)
  replace o8 := o8.kept n (by omega)
  replace o9 := o9.kept n (by omega)
  replace o10 := o10.kept n (by omega)
  clear n b
  have lo11 := o11.size
  go_wp2_with fail
  refine (c_eqNodeS_refl o11.is o3.is).mono ?_
  rintro e w22 ⟨rfl, b⟩
  have n := below_within b w21.heap.size
  have z22 := n.size
  replace B := n.below B (by omega) (Nat.le_refl _)
  replace JaA := IaA.kept B
  replace JaB := IaB.kept B
  replace o1 := o1.kept n (by omega)
  replace o2 := o2.kept n (by omega)
  replace o3 := o3.kept n (by omega)
  replace o4 := o4.kept n (by omega)
  replace o5 := o5.kept n (by omega)
  replace o6 := o6.kept n (by omega)
  replace o7 := o7.kept n (by omega)
  replace o8 := o8.kept n (by omega)
  replace o9 := o9.kept n (by omega)
  replace o10 := o10.kept n (by omega)
  replace o11 := o11.kept n (by omega)
  clear n b
  go_wp2_with fail
  refine (c_heldNodeS o6.is (by omega) (by omega)).mono ?_
  rintro e w23 ⟨rfl, d⟩
  have b := d.below w22.heap.size
  clear d
  have n := below_within b w22.heap.size
  have z23 := n.size
  replace B := n.below B (by omega) (Nat.le_refl _)
  replace JaA := IaA.kept B
  replace JaB := IaB.kept B
  replace o1 := o1.kept n (by omega)
  replace o2 := o2.kept n (by omega)
  replace o3 := o3.kept n (by omega)
  replace o4 := o4.kept n (by omega)
  replace o5 := o5.kept n (by omega)
  replace o6 := o6.kept n (by omega)
  replace o7 := o7.kept n (by omega)
  replace o8 := o8.kept n (by omega)
  replace o9 := o9.kept n (by omega)
  replace o10 := o10.kept n (by omega)
  replace o11 := o11.kept n (by omega)
  clear n b
  go_wp2_with fail
  go_ret
  exact ⟨rfl, B⟩
section
set_option maxRecDepth 100000 in
theorem lifted_FnExactJoinFormulas (os : Os) (started : os.Started) (H : Type) (enc : TypeId × Value → H) :
    ReturnsInHanded {} Try.checked os 3 .any (Rows.fnExactJoinFormulasSpec.pre6 enc Try.prog Try.f3 Rows.fnExactJoinFormulasRow.domain false) (Rows.fnExactJoinFormulasSpec.post enc Try.prog Try.f3 false true false false) := by
  refine returnsInHanded_of_change (C := Try.checked) ownKnobNone started (by kernel_rfl) Try.func3
    (ChangeSpec.witness6 (enc := enc) (C := Try.checked) false ⟨#[], #[.int .i64 0, .slice none 0 0, .slice none 0 0], []⟩ 8 (by kernel_rfl) (by kernel_rfl) (by kernel_rfl) (by kernel_rfl)) ?_
  intro W base args ds gs before hval0 hW hcnd _
  have hval : ∀ (j : Nat) t v, Try.f3.params[j]? = some t → args[j]? = some v → Value.okWide Try.prog W .any base t v := hval0
  have hW' := hW
  obtain ⟨p, q, hA0, hV, rfl, hfz, hnd⟩ := hW
  have hA : DataW.TrodAll enc Try.prog W 0 (fun _ => true) true Try.f3.params.toList args.toList ds p := hA0
  rw [Try.params3] at hA hval
  obtain ⟨v0, vs0, d0, ds0, p0, q0, hargs, rfl, rfl, h0, r0⟩ := trodAll_cons hA
  obtain ⟨v1, vs1, d1, ds1, p1, q1, rfl, rfl, rfl, h1, r1⟩ := trodAll_cons r0
  obtain ⟨v2, vs2, d2, ds2, p2, q2, rfl, rfl, rfl, h2, r2⟩ := trodAll_cons r1
  obtain ⟨rfl, rfl, rfl⟩ := trodAll_nil r2
  obtain rfl : args = #[v0, v1, v2] := by cases args; simp_all
  obtain ⟨rfl, rfl⟩ := trodVars_none hV
  obtain ⟨a0, rfl, rfl, rfl, w0⟩ := open_int Try.underlying2 (hval 0 2 v0 rfl rfl) h0
  have k1 := h1
  have lt1 : ∀ x ∈ p1, x.block < W.heap.size := by obtain ⟨m, hm⟩ := k1; exact DataW.trod_lt m _ _ _ hm
  obtain ⟨a1, len1, cap1, rfl⟩ := okWide_slice Try.underlying22 (hval 1 22 v1 rfl rfl)
  have w1 : RawN W (.slice a1 len1 cap1) := by obtain ⟨fuel, hf⟩ := h1; exact rawN_trod hf
  have k2 := h2
  have lt2 : ∀ x ∈ p2, x.block < W.heap.size := by obtain ⟨m, hm⟩ := k2; exact DataW.trod_lt m _ _ _ hm
  obtain ⟨a2, len2, cap2, rfl⟩ := okWide_slice Try.underlying22 (hval 2 22 v2 rfl rfl)
  have w2 : RawN W (.slice a2 len2 cap2) := by obtain ⟨fuel, hf⟩ := h2; exact rawN_trod hf
  clear hA0 hval0
  refine (walk_FnExactJoinFormulas a0 (.slice a1 len1 cap1) (.slice a2 len2 cap2) W (wf_I64 w0) w1 w2).mono fun e W' ⟨he, bel⟩ => ?_
  subst he
  exact ⟨_, rfl, _, _, _, [], _, [], hW', trodAll_mk1 (shut_bool Try.underlying4 _), (trodAll_cons_mk (shut_int Try.underlying2 w0) (trodAll_cons_mk (Below.trod laidOutB_prog (by kernel_rfl) (of_decide_eq_true (by kernel_rfl)) k1 bel lt1) (trodAll_cons_mk (Below.trod laidOutB_prog (by kernel_rfl) (of_decide_eq_true (by kernel_rfl)) k2 bel lt2) (trodAll_mk0)))), rfl, bel.frame _, fun h => by cases h⟩
end
/-- THE STATEMENT. -/
theorem proved_FnExactJoinFormulas : Rows.FnExactJoinFormulasSaid :=
  OpenClaim.holds_of_wide 3 Try.f3 rfl rfl rfl rfl rfl rfl rfl ⟨rfl, rfl, rfl, rfl, rfl⟩ rfl rfl rfl rfl rfl (by kernel_rfl) Try.func3 (by kernel_rfl)
    (of_decide_eq_true (by kernel_rfl)) (by unfold Func.isWrapper; first | (rw [if_pos (by decide +kernel)]; kernel_rfl) | (rw [if_neg (by decide +kernel)]; exact ⟨rfl, rfl⟩))
    (fun os started H enc _ => lifted_FnExactJoinFormulas os started H enc)
end Go.Proofs.Ytmhhgaggkgcdbaa
