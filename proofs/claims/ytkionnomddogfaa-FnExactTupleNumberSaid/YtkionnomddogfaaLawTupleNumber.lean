/- FnExactTupleNumber returns true for every input and leaves its arguments as they were. No condition. -/
import Derived.Test.YtkionnomddogfaaTuple2
import Derived.Test.YtkionnomddogfaaFrame
namespace Go.Proofs.Ytkionnomddogfaa
open Go.ChangeShapes Go.WideShapes Go.ChangeAt Go.RowKit
theorem walk_FnExactTupleNumber (aSizes : Value) (aTuple : Value) (w : World) (haSizes : RawI w aSizes) (haTuple : RawI w aTuple) :
    Calls Try.prog 3 #[aSizes, aTuple] w (fun e w' => e = .returned (.bool true) ∧ Below w.heap.size w w') := by
  obtain ⟨aoaSizes, lenaSizes, capaSizes, rfl, hlaSizes, hxaSizes⟩ := haSizes
  obtain ⟨aoaTuple, lenaTuple, capaTuple, rfl, hlaTuple, hxaTuple⟩ := haTuple
  rcases Nat.lt_or_ge 1048576 lenaSizes with hbaSizes | hbaSizes
  · go_enter Try.func3, Try.ntmps3
    go_wp2_with fail
    go_ret
    exact ⟨rfl, Below.refl _ _⟩
  obtain ⟨xsaSizes, hxlaSizes, IaSizes⟩ := hxaSizes hbaSizes
  clear hxaSizes
  rcases Nat.lt_or_ge 1048576 lenaTuple with hbaTuple | hbaTuple
  · go_enter Try.func3, Try.ntmps3
    go_wp2_with fail
    go_ret
    exact ⟨rfl, Below.refl _ _⟩
  obtain ⟨xsaTuple, hxlaTuple, IaTuple⟩ := hxaTuple hbaTuple
  clear hxaTuple
  go_enter Try.func3, Try.ntmps3
  go_wp2_with fail
  refine (c_toInt64S IaSizes).mono ?_
  rintro e w1 ⟨u1, rfl, o1, b⟩
  have n := below_within b w.heap.size
  have z1 := n.size
  have B := n.below (Below.refl _ _) (Nat.le_refl _) (Nat.le_refl _)
  have JaSizes := IaSizes.kept B
  have JaTuple := IaTuple.kept B
  clear n b
  go_wp2_with fail
  refine (c_toInt64S JaTuple).mono ?_
  rintro e w2 ⟨u2, rfl, o2, b⟩
  have n := below_within b w1.heap.size
  have z2 := n.size
  replace B := n.below B (by omega) (Nat.le_refl _)
  replace JaSizes := IaSizes.kept B
  replace JaTuple := IaTuple.kept B
  replace o1 := o1.kept n (by omega)
  clear n b
  go_wp2_with fail
  refine (s_TupleNumber o1.is o2.is).mono ?_
  rintro e w3 ⟨rfl, b⟩
  have n := below_within b w2.heap.size
  have z3 := n.size
  replace B := n.below B (by omega) (Nat.le_refl _)
  replace JaSizes := IaSizes.kept B
  replace JaTuple := IaTuple.kept B
  replace o1 := o1.kept n (by omega)
  replace o2 := o2.kept n (by omega)
  clear n b
  go_wp2_with fail
  refine (c_toInt64S JaSizes).mono ?_
  rintro e w4 ⟨u3, rfl, o3, b⟩
  have n := below_within b w3.heap.size
  have z4 := n.size
  replace B := n.below B (by omega) (Nat.le_refl _)
  replace JaSizes := IaSizes.kept B
  replace JaTuple := IaTuple.kept B
  replace o1 := o1.kept n (by omega)
  replace o2 := o2.kept n (by omega)
  clear n b
  go_wp2_with fail
  refine (c_toInt64S JaTuple).mono ?_
  rintro e w5 ⟨u4, rfl, o4, b⟩
  have n := below_within b w4.heap.size
  have z5 := n.size
  replace B := n.below B (by omega) (Nat.le_refl _)
  replace JaSizes := IaSizes.kept B
  replace JaTuple := IaTuple.kept B
  replace o1 := o1.kept n (by omega)
  replace o2 := o2.kept n (by omega)
  replace o3 := o3.kept n (by omega)
  clear n b
  go_wp2_with fail
  refine (i_TupleNumber o3.is o4.is).mono ?_
  rintro e w6 ⟨rfl, b⟩
  have n := below_within b w5.heap.size
  have z6 := n.size
  replace B := n.below B (by omega) (Nat.le_refl _)
  replace JaSizes := IaSizes.kept B
  replace JaTuple := IaTuple.kept B
  replace o1 := o1.kept n (by omega)
  replace o2 := o2.kept n (by omega)
  replace o3 := o3.kept n (by omega)
  replace o4 := o4.kept n (by omega)
  clear n b
  go_wp2_with fail
  refine (c_toInt64S JaSizes).mono ?_
  rintro e w7 ⟨u5, rfl, o5, b⟩
  have n := below_within b w6.heap.size
  have z7 := n.size
  replace B := n.below B (by omega) (Nat.le_refl _)
  replace JaSizes := IaSizes.kept B
  replace JaTuple := IaTuple.kept B
  replace o1 := o1.kept n (by omega)
  replace o2 := o2.kept n (by omega)
  replace o3 := o3.kept n (by omega)
  replace o4 := o4.kept n (by omega)
  clear n b
  go_wp2_with fail
  refine (c_eqInt64S_refl o3.is o5.is).mono ?_
  rintro e w8 ⟨rfl, d⟩
  have b := d.below w7.heap.size
  clear d
  have n := below_within b w7.heap.size
  have z8 := n.size
  replace B := n.below B (by omega) (Nat.le_refl _)
  replace JaSizes := IaSizes.kept B
  replace JaTuple := IaTuple.kept B
  replace o1 := o1.kept n (by omega)
  replace o2 := o2.kept n (by omega)
  replace o3 := o3.kept n (by omega)
  replace o4 := o4.kept n (by omega)
  replace o5 := o5.kept n (by omega)
  clear n b
  go_wp2_with fail
  refine (c_toInt64S JaTuple).mono ?_
  rintro e w9 ⟨u6, rfl, o6, b⟩
  have n := below_within b w8.heap.size
  have z9 := n.size
  replace B := n.below B (by omega) (Nat.le_refl _)
  replace JaSizes := IaSizes.kept B
  replace JaTuple := IaTuple.kept B
  replace o1 := o1.kept n (by omega)
  replace o2 := o2.kept n (by omega)
  replace o3 := o3.kept n (by omega)
  replace o4 := o4.kept n (by omega)
  replace o5 := o5.kept n (by omega)
  clear n b
  go_wp2_with fail
  refine (c_eqInt64S_refl o4.is o6.is).mono ?_
  rintro e w10 ⟨rfl, d⟩
  have b := d.below w9.heap.size
  clear d
  have n := below_within b w9.heap.size
  have z10 := n.size
  replace B := n.below B (by omega) (Nat.le_refl _)
  replace JaSizes := IaSizes.kept B
  replace JaTuple := IaTuple.kept B
  replace o1 := o1.kept n (by omega)
  replace o2 := o2.kept n (by omega)
  replace o3 := o3.kept n (by omega)
  replace o4 := o4.kept n (by omega)
  replace o5 := o5.kept n (by omega)
  replace o6 := o6.kept n (by omega)
  clear n b
  go_wp2_with fail
  go_ret
  exact ⟨rfl, B⟩
section
set_option maxRecDepth 100000 in
theorem lifted_FnExactTupleNumber (os : Os) (started : os.Started) (H : Type) (enc : TypeId × Value → H) :
    ReturnsInHanded {} Try.checked os 3 .any (Rows.fnExactTupleNumberSpec.pre6 enc Try.prog Try.f3 Rows.fnExactTupleNumberRow.domain false) (Rows.fnExactTupleNumberSpec.post enc Try.prog Try.f3 false true false false) := by
  refine returnsInHanded_of_change (C := Try.checked) ownKnobNone started (by kernel_rfl) Try.func3
    (ChangeSpec.witness6 (enc := enc) (C := Try.checked) false ⟨#[], #[.slice none 0 0, .slice none 0 0], []⟩ 8 (by kernel_rfl) (by kernel_rfl) (by kernel_rfl) (by kernel_rfl)) ?_
  intro W base args ds gs before hval0 hW hcnd _
  have hval : ∀ (j : Nat) t v, Try.f3.params[j]? = some t → args[j]? = some v → Value.okWide Try.prog W .any base t v := hval0
  have hW' := hW
  obtain ⟨p, q, hA0, hV, rfl, hfz, hnd⟩ := hW
  have hA : DataW.TrodAll enc Try.prog W 0 (fun _ => true) true Try.f3.params.toList args.toList ds p := hA0
  rw [Try.params3] at hA hval
  obtain ⟨v0, vs0, d0, ds0, p0, q0, hargs, rfl, rfl, h0, r0⟩ := trodAll_cons hA
  obtain ⟨v1, vs1, d1, ds1, p1, q1, rfl, rfl, rfl, h1, r1⟩ := trodAll_cons r0
  obtain ⟨rfl, rfl, rfl⟩ := trodAll_nil r1
  obtain rfl : args = #[v0, v1] := by cases args; simp_all
  obtain ⟨rfl, rfl⟩ := trodVars_none hV
  have k0 := h0
  have lt0 : ∀ x ∈ p0, x.block < W.heap.size := by obtain ⟨m, hm⟩ := k0; exact DataW.trod_lt m _ _ _ hm
  obtain ⟨a0, len0, cap0, rfl⟩ := okWide_slice Try.underlying22 (hval 0 22 v0 rfl rfl)
  have w0 : RawI W (.slice a0 len0 cap0) := by obtain ⟨fuel, hf⟩ := h0; exact rawI_trod hf
  have k1 := h1
  have lt1 : ∀ x ∈ p1, x.block < W.heap.size := by obtain ⟨m, hm⟩ := k1; exact DataW.trod_lt m _ _ _ hm
  obtain ⟨a1, len1, cap1, rfl⟩ := okWide_slice Try.underlying22 (hval 1 22 v1 rfl rfl)
  have w1 : RawI W (.slice a1 len1 cap1) := by obtain ⟨fuel, hf⟩ := h1; exact rawI_trod hf
  clear hA0 hval0
  refine (walk_FnExactTupleNumber (.slice a0 len0 cap0) (.slice a1 len1 cap1) W w0 w1).mono fun e W' ⟨he, bel⟩ => ?_
  subst he
  exact ⟨_, rfl, _, _, _, [], _, [], hW', trodAll_mk1 (shut_bool Try.underlying4 _), (trodAll_cons_mk (Below.trod laidOutB_prog (by kernel_rfl) (of_decide_eq_true (by kernel_rfl)) k0 bel lt0) (trodAll_cons_mk (Below.trod laidOutB_prog (by kernel_rfl) (of_decide_eq_true (by kernel_rfl)) k1 bel lt1) (trodAll_mk0))), rfl, bel.frame _, fun h => by cases h⟩
end
/-- THE STATEMENT. -/
theorem proved_FnExactTupleNumber : Rows.FnExactTupleNumberSaid :=
  OpenClaim.holds_of_wide 3 Try.f3 rfl rfl rfl rfl rfl rfl rfl ⟨rfl, rfl, rfl, rfl, rfl⟩ rfl rfl rfl rfl rfl (by kernel_rfl) Try.func3 (by kernel_rfl)
    (of_decide_eq_true (by kernel_rfl)) (by unfold Func.isWrapper; first | (rw [if_pos (by decide +kernel)]; kernel_rfl) | (rw [if_neg (by decide +kernel)]; exact ⟨rfl, rfl⟩))
    (fun os started H enc _ => lifted_FnExactTupleNumber os started H enc)
end Go.Proofs.Ytkionnomddogfaa
