/- FnExactCountNumberings returns true for every input and leaves its arguments as they were. No condition. -/
import Derived.Test.YtkmkbmhpdnddnaaCatLaw2
import Derived.Test.YtkmkbmhpdnddnaaCat22
namespace Go.Proofs.Ytkmkbmhpdnddnaa
open Go.ChangeShapes Go.WideShapes Go.ChangeAt Go.RowKit
theorem walk_FnExactCountNumberings (aC : Value) (w : World) (haC : RawC w aC) :
    Calls Try.prog 4 #[aC] w (fun e w' => e = .returned (.bool true) ∧ Below w.heap.size w w') := by
  have hh := haC
  obtain ⟨kaC, vfaC, vtaC, viaC, vcaC, rfl, -⟩ := hh
  go_enter Try.func4, Try.ntmps4
  go_wp2_with fail
  have B : Below w.heap.size w (w.alloc (.cells #[.int .i64 kaC, vfaC, vtaC, viaC, vcaC] 25)) := bel_box w _
  have K0 : (w.alloc (.cells #[.int .i64 kaC, vfaC, vtaC, viaC, vcaC] 25)).cell? ⟨w.heap.size, 0, none⟩ = some (.int .i64 kaC) := by simp
  have K1 : (w.alloc (.cells #[.int .i64 kaC, vfaC, vtaC, viaC, vcaC] 25)).cell? ⟨w.heap.size, 1, none⟩ = some (vfaC) := by simp
  have K2 : (w.alloc (.cells #[.int .i64 kaC, vfaC, vtaC, viaC, vcaC] 25)).cell? ⟨w.heap.size, 2, none⟩ = some (vtaC) := by simp
  have K3 : (w.alloc (.cells #[.int .i64 kaC, vfaC, vtaC, viaC, vcaC] 25)).cell? ⟨w.heap.size, 3, none⟩ = some (viaC) := by simp
  have K4 : (w.alloc (.cells #[.int .i64 kaC, vfaC, vtaC, viaC, vcaC] 25)).cell? ⟨w.heap.size, 4, none⟩ = some (vcaC) := by simp
  have hz : w.heap.size < (w.alloc (.cells #[.int .i64 kaC, vfaC, vtaC, viaC, vcaC] 25)).heap.size := by simp
  generalize (w.alloc (.cells #[.int .i64 kaC, vfaC, vtaC, viaC, vcaC] 25)) = wb at *
  obtain ⟨q0, hq0⟩ : ∃ q : Int, q = 1048576 := ⟨_, rfl⟩
  refine (c_szCategory haC B 1048576 (by omega) (by omega)).mono ?_
  rintro e w1 ⟨q1, rfl, d, hq⟩
  replace B := bel_next B d
  replace K0 := up_cell d K0
  replace K1 := up_cell d K1
  replace K2 := up_cell d K2
  replace K3 := up_cell d K3
  replace K4 := up_cell d K4
  replace hz := Nat.lt_of_lt_of_le hz d.size
  clear d
  rcases hq with hq | ⟨hqa1, hqb1, hqx⟩
  · have hqn : decide (q1 < 0) = true := by simp [hq]
    go_wp2_with fail
    go_ret
    exact ⟨rfl, B⟩
  have hqn1 : decide (q1 < 0) = false := by simp; omega
  obtain ⟨xsaC, IaC⟩ := hqx
  have SaC := IaC.size
  go_wp2_with fail
  have z0 := B.size
  have JaC := IaC.kept B
  refine (c_toCategory JaC).mono ?_
  rintro e w2 ⟨u1, rfl, o1, b⟩
  obtain ⟨au1, bu1, cu1, du1, eu1, fu1, gu1, hu1, rfl⟩ := o1.shape
  have n := below_within b w1.heap.size
  have z2 := n.size
  replace B := n.below B (by omega) (Nat.le_refl _)
  replace K0 := within_cell n K0 (by omega)
  replace K1 := within_cell n K1 (by omega)
  replace K2 := within_cell n K2 (by omega)
  replace K3 := within_cell n K3 (by omega)
  replace K4 := within_cell n K4 (by omega)
  replace JaC := IaC.kept B
  clear n b
  go_wp2_with fail
  refine (s_CountNumberings o1.is).mono ?_
  rintro e w3 ⟨rfl, b⟩
  have n := below_within b w2.heap.size
  have z3 := n.size
  replace B := n.below B (by omega) (Nat.le_refl _)
  replace K0 := within_cell n K0 (by omega)
  replace K1 := within_cell n K1 (by omega)
  replace K2 := within_cell n K2 (by omega)
  replace K3 := within_cell n K3 (by omega)
  replace K4 := within_cell n K4 (by omega)
  replace JaC := IaC.kept B
  replace o1 := o1.kept n (by omega)
  clear n b
  go_wp2_with fail
  refine (c_toCategory JaC).mono ?_
  rintro e w4 ⟨u2, rfl, o2, b⟩
  obtain ⟨au2, bu2, cu2, du2, eu2, fu2, gu2, hu2, rfl⟩ := o2.shape
  have n := below_within b w3.heap.size
  have z4 := n.size
  replace B := n.below B (by omega) (Nat.le_refl _)
  replace K0 := within_cell n K0 (by omega)
  replace K1 := within_cell n K1 (by omega)
  replace K2 := within_cell n K2 (by omega)
  replace K3 := within_cell n K3 (by omega)
  replace K4 := within_cell n K4 (by omega)
  replace JaC := IaC.kept B
  replace o1 := o1.kept n (by omega)
  clear n b
  go_wp2_with fail
  have b : Below w4.heap.size w4 (w4.alloc (.cells #[.int .i64 xsaC.n, .slice au2 xsaC.fr.length eu2, .slice bu2 xsaC.to.length fu2, .slice cu2 xsaC.id.length gu2, .slice du2 xsaC.cm.length hu2] 29)) := bel_box w4 _
  have X20 : (w4.alloc (.cells #[.int .i64 xsaC.n, .slice au2 xsaC.fr.length eu2, .slice bu2 xsaC.to.length fu2, .slice cu2 xsaC.id.length gu2, .slice du2 xsaC.cm.length hu2] 29)).cell? ⟨w4.heap.size, 0, none⟩ = some (.int .i64 xsaC.n) := by simp
  have X21 : (w4.alloc (.cells #[.int .i64 xsaC.n, .slice au2 xsaC.fr.length eu2, .slice bu2 xsaC.to.length fu2, .slice cu2 xsaC.id.length gu2, .slice du2 xsaC.cm.length hu2] 29)).cell? ⟨w4.heap.size, 1, none⟩ = some (.slice au2 xsaC.fr.length eu2) := by simp
  have X22 : (w4.alloc (.cells #[.int .i64 xsaC.n, .slice au2 xsaC.fr.length eu2, .slice bu2 xsaC.to.length fu2, .slice cu2 xsaC.id.length gu2, .slice du2 xsaC.cm.length hu2] 29)).cell? ⟨w4.heap.size, 2, none⟩ = some (.slice bu2 xsaC.to.length fu2) := by simp
  have X23 : (w4.alloc (.cells #[.int .i64 xsaC.n, .slice au2 xsaC.fr.length eu2, .slice bu2 xsaC.to.length fu2, .slice cu2 xsaC.id.length gu2, .slice du2 xsaC.cm.length hu2] 29)).cell? ⟨w4.heap.size, 3, none⟩ = some (.slice cu2 xsaC.id.length gu2) := by simp
  have X24 : (w4.alloc (.cells #[.int .i64 xsaC.n, .slice au2 xsaC.fr.length eu2, .slice bu2 xsaC.to.length fu2, .slice cu2 xsaC.id.length gu2, .slice du2 xsaC.cm.length hu2] 29)).cell? ⟨w4.heap.size, 4, none⟩ = some (.slice du2 xsaC.cm.length hu2) := by simp
  have hz2 : w4.heap.size < (w4.alloc (.cells #[.int .i64 xsaC.n, .slice au2 xsaC.fr.length eu2, .slice bu2 xsaC.to.length fu2, .slice cu2 xsaC.id.length gu2, .slice du2 xsaC.cm.length hu2] 29)).heap.size := by simp
  generalize (w4.alloc (.cells #[.int .i64 xsaC.n, .slice au2 xsaC.fr.length eu2, .slice bu2 xsaC.to.length fu2, .slice cu2 xsaC.id.length gu2, .slice du2 xsaC.cm.length hu2] 29)) = w5 at *
  have n := below_within b w4.heap.size
  have z5 := n.size
  replace B := n.below B (by omega) (Nat.le_refl _)
  replace K0 := within_cell n K0 (by omega)
  replace K1 := within_cell n K1 (by omega)
  replace K2 := within_cell n K2 (by omega)
  replace K3 := within_cell n K3 (by omega)
  replace K4 := within_cell n K4 (by omega)
  replace JaC := IaC.kept B
  replace o1 := o1.kept n (by omega)
  replace o2 := o2.kept n (by omega)
  clear n b
  refine (i_CountNumberings o2.is).mono ?_
  rintro e w6 ⟨rfl, b⟩
  have n := below_within b w5.heap.size
  have z6 := n.size
  replace B := n.below B (by omega) (Nat.le_refl _)
  replace K0 := within_cell n K0 (by omega)
  replace K1 := within_cell n K1 (by omega)
  replace K2 := within_cell n K2 (by omega)
  replace K3 := within_cell n K3 (by omega)
  replace K4 := within_cell n K4 (by omega)
  replace X20 := within_cell n X20 (by omega)
  replace X21 := within_cell n X21 (by omega)
  replace X22 := within_cell n X22 (by omega)
  replace X23 := within_cell n X23 (by omega)
  replace X24 := within_cell n X24 (by omega)
  replace JaC := IaC.kept B
  replace o1 := o1.kept n (by omega)
  replace o2 := o2.kept n (by omega)
  clear n b
  go_wp2_with fail
  go_region_held3 (fun w' => Below w6.heap.size w6 w' ∧ w'.cell? ⟨w.heap.size, 0, none⟩ = some (.int .i64 kaC) ∧ w'.cell? ⟨w.heap.size, 1, none⟩ = some (vfaC) ∧ w'.cell? ⟨w.heap.size, 2, none⟩ = some (vtaC) ∧ w'.cell? ⟨w.heap.size, 3, none⟩ = some (viaC) ∧ w'.cell? ⟨w.heap.size, 4, none⟩ = some (vcaC) ∧ w'.cell? ⟨w4.heap.size, 0, none⟩ = some (.int .i64 xsaC.n) ∧ w'.cell? ⟨w4.heap.size, 1, none⟩ = some (.slice au2 xsaC.fr.length eu2) ∧ w'.cell? ⟨w4.heap.size, 2, none⟩ = some (.slice bu2 xsaC.to.length fu2) ∧ w'.cell? ⟨w4.heap.size, 3, none⟩ = some (.slice cu2 xsaC.id.length gu2) ∧ w'.cell? ⟨w4.heap.size, 4, none⟩ = some (.slice du2 xsaC.cm.length hu2))
    (first | exact ⟨(Drawn.one (Drawn.refl _)).bel0, K0, K1, K2, K3, K4, X20, X21, X22, X23, X24⟩ | (refine keep10 ?_ hb7; assumption))
    (first | (go_at_call 16; (with_reducible refine (c_toCategory (JaC.kept (And.left (by assumption)))).mono ?_); rintro e w' ⟨u3, rfl, o3, hb7⟩) | (go_at_call 18; (with_reducible refine (c_eqCategory_refl (o2.is.kept (And.left (by assumption))) o3.is).mono ?_); rintro e w7 ⟨rfl, hb7⟩))
  obtain ⟨b, -⟩ := ‹Below w6.heap.size w6 w7 ∧ _›
  clear hb7
  have n := below_within b w6.heap.size
  have z7 := n.size
  replace B := n.below B (by omega) (Nat.le_refl _)
  replace K0 := within_cell n K0 (by omega)
  replace K1 := within_cell n K1 (by omega)
  replace K2 := within_cell n K2 (by omega)
  replace K3 := within_cell n K3 (by omega)
  replace K4 := within_cell n K4 (by omega)
  replace X20 := within_cell n X20 (by omega)
  replace X21 := within_cell n X21 (by omega)
  replace X22 := within_cell n X22 (by omega)
  replace X23 := within_cell n X23 (by omega)
  replace X24 := within_cell n X24 (by omega)
  replace JaC := IaC.kept B
  replace o1 := o1.kept n (by omega)
  replace o2 := o2.kept n (by omega)
  clear n b
  go_wp2_with fail
  go_ret
  exact ⟨rfl, B⟩
section
set_option maxRecDepth 100000 in
theorem lifted_FnExactCountNumberings (os : Os) (started : os.Started) (H : Type) (enc : TypeId × Value → H) :
    ReturnsInHanded {} Try.checked os 4 .any (Rows.fnExactCountNumberingsSpec.pre6 enc Try.prog Try.f4 Rows.fnExactCountNumberingsRow.domain false) (Rows.fnExactCountNumberingsSpec.post enc Try.prog Try.f4 false true false false) := by
  refine returnsInHanded_of_change (C := Try.checked) ownKnobNone started (by kernel_rfl) Try.func4
    (ChangeSpec.witness6 (enc := enc) (C := Try.checked) false ⟨#[], #[.agg #[.int .i64 0, .slice none 0 0, .slice none 0 0, .slice none 0 0, .slice none 0 0]], []⟩ 8 (by kernel_rfl) (by kernel_rfl) (by kernel_rfl) (by kernel_rfl)) ?_
  intro W base args ds gs before hval0 hW hcnd _
  have hval : ∀ (j : Nat) t v, Try.f4.params[j]? = some t → args[j]? = some v → Value.okWide Try.prog W .any base t v := hval0
  have hW' := hW
  obtain ⟨p, q, hA0, hV, rfl, hfz, hnd⟩ := hW
  have hA : DataW.TrodAll enc Try.prog W 0 (fun _ => true) true Try.f4.params.toList args.toList ds p := hA0
  rw [Try.params4] at hA hval
  obtain ⟨v0, vs0, d0, ds0, p0, q0, hargs, rfl, rfl, h0, r0⟩ := trodAll_cons hA
  obtain ⟨rfl, rfl, rfl⟩ := trodAll_nil r0
  obtain rfl : args = #[v0] := by cases args; simp_all
  obtain ⟨rfl, rfl⟩ := trodVars_none hV
  have k0 := h0
  have lt0 : ∀ x ∈ p0, x.block < W.heap.size := by obtain ⟨m, hm⟩ := k0; exact DataW.trod_lt m _ _ _ hm
  have w0 : RawC W v0 := rawC_of (hval 0 25 v0 rfl rfl) h0
  clear hA0 hval0
  refine (walk_FnExactCountNumberings v0 W w0).mono fun e W' ⟨he, bel⟩ => ?_
  subst he
  exact ⟨_, rfl, _, _, _, [], _, [], hW', trodAll_mk1 (shut_bool Try.underlying4 _), (trodAll_cons_mk (Below.trod laidOutB_prog (by kernel_rfl) (of_decide_eq_true (by kernel_rfl)) k0 bel lt0) (trodAll_mk0)), rfl, bel.frame _, fun h => by cases h⟩
end
/-- THE STATEMENT. -/
theorem proved_FnExactCountNumberings : Rows.FnExactCountNumberingsSaid :=
  OpenClaim.holds_of_wide 4 Try.f4 rfl rfl rfl rfl rfl rfl rfl ⟨rfl, rfl, rfl, rfl, rfl⟩ rfl rfl rfl rfl rfl (by kernel_rfl) Try.func4 (by kernel_rfl)
    (of_decide_eq_true (by kernel_rfl)) (by unfold Func.isWrapper; first | (rw [if_pos (by decide +kernel)]; kernel_rfl) | (rw [if_neg (by decide +kernel)]; exact ⟨rfl, rfl⟩))
    (fun os started H enc _ => lifted_FnExactCountNumberings os started H enc)
end Go.Proofs.Ytkmkbmhpdnddnaa
