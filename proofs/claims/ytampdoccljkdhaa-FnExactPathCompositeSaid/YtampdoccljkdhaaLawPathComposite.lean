/- FnExactPathComposite returns true for every input and leaves its arguments as they were. No condition. -/
import Derived.Test.YtampdoccljkdhaaCatLaw2
import Derived.Test.YtampdoccljkdhaaCat11
namespace Go.Proofs.Ytampdoccljkdhaa
open Go.ChangeShapes Go.WideShapes Go.ChangeAt Go.RowKit
theorem walk_FnExactPathComposite (aC : Value) (aX : Int) (aPath : Value) (w : World) (haC : RawC w aC) (haX : I64 aX) (haPath : RawI w aPath) :
    Calls Try.prog 11 #[aC, .int .i64 aX, aPath] w (fun e w' => e = .returned (.bool true) ∧ Below w.heap.size w w') := by
  have hh := haC
  obtain ⟨kaC, vfaC, vtaC, viaC, vcaC, rfl, -⟩ := hh
  obtain ⟨aoaPath, lenaPath, capaPath, rfl, hlaPath, hxaPath⟩ := haPath
  rcases Nat.lt_or_ge 1048576 lenaPath with hbaPath | hbaPath
  · go_enter Try.func11, Try.ntmps11
    go_wp2_with fail
    go_ret
    first | exact ⟨rfl, Below.refl _ _⟩ | exact ⟨rfl, bel_box _ _⟩
  obtain ⟨xsaPath, hxlaPath, IaPath⟩ := hxaPath hbaPath
  clear hxaPath
  go_enter Try.func11, Try.ntmps11
  go_wp2_with fail
  have B : Below w.heap.size w (w.alloc (.cells #[.int .i64 kaC, vfaC, vtaC, viaC, vcaC] 25)) := bel_box w _
  have K0 : (w.alloc (.cells #[.int .i64 kaC, vfaC, vtaC, viaC, vcaC] 25)).cell? ⟨w.heap.size, 0, none⟩ = some (.int .i64 kaC) := by simp
  have K1 : (w.alloc (.cells #[.int .i64 kaC, vfaC, vtaC, viaC, vcaC] 25)).cell? ⟨w.heap.size, 1, none⟩ = some (vfaC) := by simp
  have K2 : (w.alloc (.cells #[.int .i64 kaC, vfaC, vtaC, viaC, vcaC] 25)).cell? ⟨w.heap.size, 2, none⟩ = some (vtaC) := by simp
  have K3 : (w.alloc (.cells #[.int .i64 kaC, vfaC, vtaC, viaC, vcaC] 25)).cell? ⟨w.heap.size, 3, none⟩ = some (viaC) := by simp
  have K4 : (w.alloc (.cells #[.int .i64 kaC, vfaC, vtaC, viaC, vcaC] 25)).cell? ⟨w.heap.size, 4, none⟩ = some (vcaC) := by simp
  have hz : w.heap.size < (w.alloc (.cells #[.int .i64 kaC, vfaC, vtaC, viaC, vcaC] 25)).heap.size := by simp
  generalize (w.alloc (.cells #[.int .i64 kaC, vfaC, vtaC, viaC, vcaC] 25)) = wb at *
  obtain ⟨q0, hq0⟩ : ∃ q : Int, q = 1048576 := ⟨_, rfl⟩
  refine (c_szCategory haC B 1048576 (by omega) (by omega)).mono ?_
  rintro e w1 ⟨q1, rfl, d, hq⟩
  replace B := bel_next B d
  replace K0 := up_cell d K0
  replace K1 := up_cell d K1
  replace K2 := up_cell d K2
  replace K3 := up_cell d K3
  replace K4 := up_cell d K4
  replace hz := Nat.lt_of_lt_of_le hz d.size
  clear d
  rcases hq with hq | ⟨hqa1, hqb1, hqx⟩
  · have hqn : decide (q1 < 0) = true := by simp [hq]
    go_wp2_with fail
    go_ret
    exact ⟨rfl, B⟩
  have hqn1 : decide (q1 < 0) = false := by simp; omega
  obtain ⟨xsaC, IaC⟩ := hqx
  have SaC := IaC.size
  go_wp2_with fail
  have z0 := B.size
  have JaPath := IaPath.kept B
  have JaC := IaC.kept B
  refine (c_toCategory JaC).mono ?_
  rintro e w2 ⟨u1, rfl, o1, b⟩
  obtain ⟨au1, bu1, cu1, du1, eu1, fu1, gu1, hu1, rfl⟩ := o1.shape
  have n := below_within b w1.heap.size
  have z2 := n.size
  replace B := n.below B (by omega) (Nat.le_refl _)
  replace K0 := within_cell n K0 (by omega)
  replace K1 := within_cell n K1 (by omega)
  replace K2 := within_cell n K2 (by omega)
  replace K3 := within_cell n K3 (by omega)
  replace K4 := within_cell n K4 (by omega)
  replace JaPath := IaPath.kept B
  replace JaC := IaC.kept B
  clear n b
  go_wp2_with fail
  refine (c_toInt64S JaPath).mono ?_
  rintro e w3 ⟨u2, rfl, o2, b⟩
  have n := below_within b w2.heap.size
  have z3 := n.size
  replace B := n.below B (by omega) (Nat.le_refl _)
  replace K0 := within_cell n K0 (by omega)
  replace K1 := within_cell n K1 (by omega)
  replace K2 := within_cell n K2 (by omega)
  replace K3 := within_cell n K3 (by omega)
  replace K4 := within_cell n K4 (by omega)
  replace JaPath := IaPath.kept B
  replace JaC := IaC.kept B
  replace o1 := o1.kept n (by omega)
  clear n b
  go_wp2_with fail
  refine (s_PathComposite o1.is aX haX o2.is).mono ?_
  rintro e w4 ⟨rfl, b⟩
  have n := below_within b w3.heap.size
  have z4 := n.size
  replace B := n.below B (by omega) (Nat.le_refl _)
  replace K0 := within_cell n K0 (by omega)
  replace K1 := within_cell n K1 (by omega)
  replace K2 := within_cell n K2 (by omega)
  replace K3 := within_cell n K3 (by omega)
  replace K4 := within_cell n K4 (by omega)
  replace JaPath := IaPath.kept B
  replace JaC := IaC.kept B
  replace o1 := o1.kept n (by omega)
  replace o2 := o2.kept n (by omega)
  clear n b
  go_wp2_with fail
  refine (c_toCategory JaC).mono ?_
  rintro e w5 ⟨u3, rfl, o3, b⟩
  obtain ⟨au3, bu3, cu3, du3, eu3, fu3, gu3, hu3, rfl⟩ := o3.shape
  have n := below_within b w4.heap.size
  have z5 := n.size
  replace B := n.below B (by omega) (Nat.le_refl _)
  replace K0 := within_cell n K0 (by omega)
  replace K1 := within_cell n K1 (by omega)
  replace K2 := within_cell n K2 (by omega)
  replace K3 := within_cell n K3 (by omega)
  replace K4 := within_cell n K4 (by omega)
  replace JaPath := IaPath.kept B
  replace JaC := IaC.kept B
  replace o1 := o1.kept n (by omega)
  replace o2 := o2.kept n (by omega)
  clear n b
  go_wp2_with fail
  have b : Below w5.heap.size w5 (w5.alloc (.cells #[.int .i64 xsaC.n, .slice au3 xsaC.fr.length eu3, .slice bu3 xsaC.to.length fu3, .slice cu3 xsaC.id.length gu3, .slice du3 xsaC.cm.length hu3] 28)) := bel_box w5 _
  have X30 : (w5.alloc (.cells #[.int .i64 xsaC.n, .slice au3 xsaC.fr.length eu3, .slice bu3 xsaC.to.length fu3, .slice cu3 xsaC.id.length gu3, .slice du3 xsaC.cm.length hu3] 28)).cell? ⟨w5.heap.size, 0, none⟩ = some (.int .i64 xsaC.n) := by simp
  have X31 : (w5.alloc (.cells #[.int .i64 xsaC.n, .slice au3 xsaC.fr.length eu3, .slice bu3 xsaC.to.length fu3, .slice cu3 xsaC.id.length gu3, .slice du3 xsaC.cm.length hu3] 28)).cell? ⟨w5.heap.size, 1, none⟩ = some (.slice au3 xsaC.fr.length eu3) := by simp
  have X32 : (w5.alloc (.cells #[.int .i64 xsaC.n, .slice au3 xsaC.fr.length eu3, .slice bu3 xsaC.to.length fu3, .slice cu3 xsaC.id.length gu3, .slice du3 xsaC.cm.length hu3] 28)).cell? ⟨w5.heap.size, 2, none⟩ = some (.slice bu3 xsaC.to.length fu3) := by simp
  have X33 : (w5.alloc (.cells #[.int .i64 xsaC.n, .slice au3 xsaC.fr.length eu3, .slice bu3 xsaC.to.length fu3, .slice cu3 xsaC.id.length gu3, .slice du3 xsaC.cm.length hu3] 28)).cell? ⟨w5.heap.size, 3, none⟩ = some (.slice cu3 xsaC.id.length gu3) := by simp
  have X34 : (w5.alloc (.cells #[.int .i64 xsaC.n, .slice au3 xsaC.fr.length eu3, .slice bu3 xsaC.to.length fu3, .slice cu3 xsaC.id.length gu3, .slice du3 xsaC.cm.length hu3] 28)).cell? ⟨w5.heap.size, 4, none⟩ = some (.slice du3 xsaC.cm.length hu3) := by simp
  have hz3 : w5.heap.size < (w5.alloc (.cells #[.int .i64 xsaC.n, .slice au3 xsaC.fr.length eu3, .slice bu3 xsaC.to.length fu3, .slice cu3 xsaC.id.length gu3, .slice du3 xsaC.cm.length hu3] 28)).heap.size := by simp
  generalize (w5.alloc (.cells #[.int .i64 xsaC.n, .slice au3 xsaC.fr.length eu3, .slice bu3 xsaC.to.length fu3, .slice cu3 xsaC.id.length gu3, .slice du3 xsaC.cm.length hu3] 28)) = w6 at *
  have n := below_within b w5.heap.size
  have z6 := n.size
  replace B := n.below B (by omega) (Nat.le_refl _)
  replace K0 := within_cell n K0 (by omega)
  replace K1 := within_cell n K1 (by omega)
  replace K2 := within_cell n K2 (by omega)
  replace K3 := within_cell n K3 (by omega)
  replace K4 := within_cell n K4 (by omega)
  replace JaPath := IaPath.kept B
  replace JaC := IaC.kept B
  replace o1 := o1.kept n (by omega)
  replace o2 := o2.kept n (by omega)
  replace o3 := o3.kept n (by omega)
  clear n b
  refine (c_toInt64S JaPath).mono ?_
  rintro e w7 ⟨u4, rfl, o4, b⟩
  have n := below_within b w6.heap.size
  have z7 := n.size
  replace B := n.below B (by omega) (Nat.le_refl _)
  replace K0 := within_cell n K0 (by omega)
  replace K1 := within_cell n K1 (by omega)
  replace K2 := within_cell n K2 (by omega)
  replace K3 := within_cell n K3 (by omega)
  replace K4 := within_cell n K4 (by omega)
  replace X30 := within_cell n X30 (by omega)
  replace X31 := within_cell n X31 (by omega)
  replace X32 := within_cell n X32 (by omega)
  replace X33 := within_cell n X33 (by omega)
  replace X34 := within_cell n X34 (by omega)
  replace JaPath := IaPath.kept B
  replace JaC := IaC.kept B
  replace o1 := o1.kept n (by omega)
  replace o2 := o2.kept n (by omega)
  replace o3 := o3.kept n (by omega)
  clear n b
  go_wp2_with fail
  refine (i_PathComposite o3.is aX haX o4.is).mono ?_
  rintro e w8 ⟨rfl, b⟩
  have n := below_within b w7.heap.size
  have z8 := n.size
  replace B := n.below B (by omega) (Nat.le_refl _)
  replace K0 := within_cell n K0 (by omega)
  replace K1 := within_cell n K1 (by omega)
  replace K2 := within_cell n K2 (by omega)
  replace K3 := within_cell n K3 (by omega)
  replace K4 := within_cell n K4 (by omega)
  replace X30 := within_cell n X30 (by omega)
  replace X31 := within_cell n X31 (by omega)
  replace X32 := within_cell n X32 (by omega)
  replace X33 := within_cell n X33 (by omega)
  replace X34 := within_cell n X34 (by omega)
  replace JaPath := IaPath.kept B
  replace JaC := IaC.kept B
  replace o1 := o1.kept n (by omega)
  replace o2 := o2.kept n (by omega)
  replace o3 := o3.kept n (by omega)
  replace o4 := o4.kept n (by omega)
  clear n b
  go_wp2_with fail
  go_region_held3 (fun w' => Below w8.heap.size w8 w' ∧ w'.cell? ⟨w.heap.size, 0, none⟩ = some (.int .i64 kaC) ∧ w'.cell? ⟨w.heap.size, 1, none⟩ = some (vfaC) ∧ w'.cell? ⟨w.heap.size, 2, none⟩ = some (vtaC) ∧ w'.cell? ⟨w.heap.size, 3, none⟩ = some (viaC) ∧ w'.cell? ⟨w.heap.size, 4, none⟩ = some (vcaC) ∧ w'.cell? ⟨w5.heap.size, 0, none⟩ = some (.int .i64 xsaC.n) ∧ w'.cell? ⟨w5.heap.size, 1, none⟩ = some (.slice au3 xsaC.fr.length eu3) ∧ w'.cell? ⟨w5.heap.size, 2, none⟩ = some (.slice bu3 xsaC.to.length fu3) ∧ w'.cell? ⟨w5.heap.size, 3, none⟩ = some (.slice cu3 xsaC.id.length gu3) ∧ w'.cell? ⟨w5.heap.size, 4, none⟩ = some (.slice du3 xsaC.cm.length hu3))
    (first | exact ⟨(Drawn.one (Drawn.refl _)).bel0, K0, K1, K2, K3, K4, X30, X31, X32, X33, X34⟩ | (refine keep10 ?_ hb7; assumption))
    (first | (go_at_call 17; (with_reducible refine (c_toCategory (JaC.kept (And.left (by assumption)))).mono ?_); rintro e w' ⟨u5, rfl, o5, hb7⟩) | (go_at_call 19; (with_reducible refine (c_eqCategory_refl (o3.is.kept (And.left (by assumption))) o5.is).mono ?_); rintro e w9 ⟨rfl, hb7⟩))
  obtain ⟨b, -⟩ := ‹Below w8.heap.size w8 w9 ∧ _›
  clear hb7
  have n := below_within b w8.heap.size
  have z9 := n.size
  replace B := n.below B (by omega) (Nat.le_refl _)
  replace K0 := within_cell n K0 (by omega)
  replace K1 := within_cell n K1 (by omega)
  replace K2 := within_cell n K2 (by omega)
  replace K3 := within_cell n K3 (by omega)
  replace K4 := within_cell n K4 (by omega)
  replace X30 := within_cell n X30 (by omega)
  replace X31 := within_cell n X31 (by omega)
  replace X32 := within_cell n X32 (by omega)
  replace X33 := within_cell n X33 (by omega)
  replace X34 := within_cell n X34 (by omega)
  replace JaPath := IaPath.kept B
  replace JaC := IaC.kept B
  replace o1 := o1.kept n (by omega)
  replace o2 := o2.kept n (by omega)
  replace o3 := o3.kept n (by omega)
  replace o4 := o4.kept n (by omega)
  clear n b
  go_wp2_with fail
  refine (c_toInt64S JaPath).mono ?_
  rintro e w10 ⟨u6, rfl, o6, b⟩
  have n := below_within b w9.heap.size
  have z10 := n.size
  replace B := n.below B (by omega) (Nat.le_refl _)
  replace K0 := within_cell n K0 (by omega)
  replace K1 := within_cell n K1 (by omega)
  replace K2 := within_cell n K2 (by omega)
  replace K3 := within_cell n K3 (by omega)
  replace K4 := within_cell n K4 (by omega)
  replace X30 := within_cell n X30 (by omega)
  replace X31 := within_cell n X31 (by omega)
  replace X32 := within_cell n X32 (by omega)
  replace X33 := within_cell n X33 (by omega)
  replace X34 := within_cell n X34 (by omega)
  replace JaPath := IaPath.kept B
  replace JaC := IaC.kept B
  replace o1 := o1.kept n (by omega)
  replace o2 := o2.kept n (by omega)
  replace o3 := o3.kept n (by omega)
  replace o4 := o4.kept n (by omega)
  clear n b
  go_wp2_with fail
  refine (c_eqInt64S_refl o4.is o6.is).mono ?_
  rintro e w11 ⟨rfl, d⟩
  have b := d.below w10.heap.size
  clear d
  have n := below_within b w10.heap.size
  have z11 := n.size
  replace B := n.below B (by omega) (Nat.le_refl _)
  replace K0 := within_cell n K0 (by omega)
  replace K1 := within_cell n K1 (by omega)
  replace K2 := within_cell n K2 (by omega)
  replace K3 := within_cell n K3 (by omega)
  replace K4 := within_cell n K4 (by omega)
  replace X30 := within_cell n X30 (by omega)
  replace X31 := within_cell n X31 (by omega)
  replace X32 := within_cell n X32 (by omega)
  replace X33 := within_cell n X33 (by omega)
  replace X34 := within_cell n X34 (by omega)
  replace JaPath := IaPath.kept B
  replace JaC := IaC.kept B
  replace o1 := o1.kept n (by omega)
  replace o2 := o2.kept n (by omega)
  replace o3 := o3.kept n (by omega)
  replace o4 := o4.kept n (by omega)
  replace o6 := o6.kept n (by omega)
  clear n b
  go_wp2_with fail
  go_ret
  exact ⟨rfl, B⟩
section
set_option maxRecDepth 100000 in
theorem lifted_FnExactPathComposite (os : Os) (started : os.Started) (H : Type) (enc : TypeId × Value → H) :
    ReturnsInHanded {} Try.checked os 11 .any (Rows.fnExactPathCompositeSpec.pre6 enc Try.prog Try.f11 Rows.fnExactPathCompositeRow.domain false) (Rows.fnExactPathCompositeSpec.post enc Try.prog Try.f11 false true false false) := by
  refine returnsInHanded_of_change (C := Try.checked) ownKnobNone started (by kernel_rfl) Try.func11
    (ChangeSpec.witness6 (enc := enc) (C := Try.checked) false ⟨#[], #[.agg #[.int .i64 0, .slice none 0 0, .slice none 0 0, .slice none 0 0, .slice none 0 0], .int .i64 0, .slice none 0 0], []⟩ 8 (by kernel_rfl) (by kernel_rfl) (by kernel_rfl) (by kernel_rfl)) ?_
  intro W base args ds gs before hval0 hW hcnd _
  have hval : ∀ (j : Nat) t v, Try.f11.params[j]? = some t → args[j]? = some v → Value.okWide Try.prog W .any base t v := hval0
  have hW' := hW
  obtain ⟨p, q, hA0, hV, rfl, hfz, hnd⟩ := hW
  have hA : DataW.TrodAll enc Try.prog W 0 (fun _ => true) true Try.f11.params.toList args.toList ds p := hA0
  rw [Try.params11] at hA hval
  obtain ⟨v0, vs0, d0, ds0, p0, q0, hargs, rfl, rfl, h0, r0⟩ := trodAll_cons hA
  obtain ⟨v1, vs1, d1, ds1, p1, q1, rfl, rfl, rfl, h1, r1⟩ := trodAll_cons r0
  obtain ⟨v2, vs2, d2, ds2, p2, q2, rfl, rfl, rfl, h2, r2⟩ := trodAll_cons r1
  obtain ⟨rfl, rfl, rfl⟩ := trodAll_nil r2
  obtain rfl : args = #[v0, v1, v2] := by cases args; simp_all
  obtain ⟨rfl, rfl⟩ := trodVars_none hV
  have k0 := h0
  have lt0 : ∀ x ∈ p0, x.block < W.heap.size := by obtain ⟨m, hm⟩ := k0; exact DataW.trod_lt m _ _ _ hm
  have w0 : RawC W v0 := rawC_of (hval 0 25 v0 rfl rfl) h0
  obtain ⟨a1, rfl, rfl, rfl, w1⟩ := open_int Try.underlying2 (hval 1 2 v1 rfl rfl) h1
  have k2 := h2
  have lt2 : ∀ x ∈ p2, x.block < W.heap.size := by obtain ⟨m, hm⟩ := k2; exact DataW.trod_lt m _ _ _ hm
  obtain ⟨a2, len2, cap2, rfl⟩ := okWide_slice Try.underlying22 (hval 2 22 v2 rfl rfl)
  have w2 : RawI W (.slice a2 len2 cap2) := by obtain ⟨fuel, hf⟩ := h2; exact rawI_trod hf
  clear hA0 hval0
  refine (walk_FnExactPathComposite v0 a1 (.slice a2 len2 cap2) W w0 (wf_I64 w1) w2).mono fun e W' ⟨he, bel⟩ => ?_
  subst he
  exact ⟨_, rfl, _, _, _, [], _, [], hW', trodAll_mk1 (shut_bool Try.underlying4 _), (trodAll_cons_mk (Below.trod laidOutB_prog (by kernel_rfl) (of_decide_eq_true (by kernel_rfl)) k0 bel lt0) (trodAll_cons_mk (shut_int Try.underlying2 w1) (trodAll_cons_mk (Below.trod laidOutB_prog (by kernel_rfl) (of_decide_eq_true (by kernel_rfl)) k2 bel lt2) (trodAll_mk0)))), rfl, bel.frame _, fun h => by cases h⟩
end
/-- THE STATEMENT. -/
theorem proved_FnExactPathComposite : Rows.FnExactPathCompositeSaid :=
  OpenClaim.holds_of_wide 11 Try.f11 rfl rfl rfl rfl rfl rfl rfl ⟨rfl, rfl, rfl, rfl, rfl⟩ rfl rfl rfl rfl rfl (by kernel_rfl) Try.func11 (by kernel_rfl)
    (of_decide_eq_true (by kernel_rfl)) (by unfold Func.isWrapper; first | (rw [if_pos (by decide +kernel)]; kernel_rfl) | (rw [if_neg (by decide +kernel)]; exact ⟨rfl, rfl⟩))
    (fun os started H enc _ => lifted_FnExactPathComposite os started H enc)
end Go.Proofs.Ytampdoccljkdhaa
