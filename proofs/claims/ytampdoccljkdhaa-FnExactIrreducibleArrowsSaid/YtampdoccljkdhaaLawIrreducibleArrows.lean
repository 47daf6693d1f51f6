/- FnExactIrreducibleArrows returns true for every input and leaves its arguments as they were. No condition. -/
import Derived.Test.YtampdoccljkdhaaCatLaw2
import Derived.Test.YtampdoccljkdhaaCat18
namespace Go.Proofs.Ytampdoccljkdhaa
open Go.ChangeShapes Go.WideShapes Go.ChangeAt Go.RowKit
theorem walk_FnExactIrreducibleArrows (aC : Value) (w : World) (haC : RawC w aC) :
    Calls Try.prog 14 #[aC] w (fun e w' => e = .returned (.bool true) ∧ Below w.heap.size w w') := by
  have hh := haC
  obtain ⟨kaC, vfaC, vtaC, viaC, vcaC, rfl, -⟩ := hh
  go_enter Try.func14, Try.ntmps14
  go_wp2_with fail
  have B : Below w.heap.size w (w.alloc (.cells #[.int .i64 kaC, vfaC, vtaC, viaC, vcaC] 25)) := bel_box w _
  have K0 : (w.alloc (.cells #[.int .i64 kaC, vfaC, vtaC, viaC, vcaC] 25)).cell? ⟨w.heap.size, 0, none⟩ = some (.int .i64 kaC) := by simp
  have K1 : (w.alloc (.cells #[.int .i64 kaC, vfaC, vtaC, viaC, vcaC] 25)).cell? ⟨w.heap.size, 1, none⟩ = some (vfaC) := by simp
  have K2 : (w.alloc (.cells #[.int .i64 kaC, vfaC, vtaC, viaC, vcaC] 25)).cell? ⟨w.heap.size, 2, none⟩ = some (vtaC) := by simp
  have K3 : (w.alloc (.cells #[.int .i64 kaC, vfaC, vtaC, viaC, vcaC] 25)).cell? ⟨w.heap.size, 3, none⟩ = some (viaC) := by simp
  have K4 : (w.alloc (.cells #[.int .i64 kaC, vfaC, vtaC, viaC, vcaC] 25)).cell? ⟨w.heap.size, 4, none⟩ = some (vcaC) := by simp
  have hz : w.heap.size < (w.alloc (.cells #[.int .i64 kaC, vfaC, vtaC, viaC, vcaC] 25)).heap.size := by simp
  generalize (w.alloc (.cells #[.int .i64 kaC, vfaC, vtaC, viaC, vcaC] 25)) = wb at *
  obtain ⟨q0, hq0⟩ : ∃ q : Int, q = 1048576 := ⟨_, rfl⟩
  refine (c_szCategory haC B 1048576 (by omega) (by omega)).mono ?_
  rintro e w1 ⟨q1, rfl, d, hq⟩
  replace B := bel_next B d
  replace K0 := up_cell d K0
  replace K1 := up_cell d K1
  replace K2 := up_cell d K2
  replace K3 := up_cell d K3
  replace K4 := up_cell d K4
  replace hz := Nat.lt_of_lt_of_le hz d.size
  clear d
  rcases hq with hq | ⟨hqa1, hqb1, hqx⟩
  · have hqn : decide (q1 < 0) = true := by simp [hq]
    go_wp2_with fail
    go_ret
    exact ⟨rfl, B⟩
  have hqn1 : decide (q1 < 0) = false := by simp; omega
  obtain ⟨xsaC, IaC⟩ := hqx
  have SaC := IaC.size
  go_wp2_with fail
  have z0 := B.size
  have JaC := IaC.kept B
  refine (c_toCategory JaC).mono ?_
  rintro e w2 ⟨u1, rfl, o1, b⟩
  obtain ⟨au1, bu1, cu1, du1, eu1, fu1, gu1, hu1, rfl⟩ := o1.shape
  have n := below_within b w1.heap.size
  have z2 := n.size
  replace B := n.below B (by omega) (Nat.le_refl _)
  replace K0 := within_cell n K0 (by omega)
  replace K1 := within_cell n K1 (by omega)
  replace K2 := within_cell n K2 (by omega)
  replace K3 := within_cell n K3 (by omega)
  replace K4 := within_cell n K4 (by omega)
  replace JaC := IaC.kept B
  clear n b
  go_wp2_with fail
  refine (s_IrreducibleArrows o1.is).mono ?_
  rintro e w3 ⟨u2, rfl, o2, b⟩
  have n := below_within b w2.heap.size
  have z3 := n.size
  replace B := n.below B (by omega) (Nat.le_refl _)
  replace K0 := within_cell n K0 (by omega)
  replace K1 := within_cell n K1 (by omega)
  replace K2 := within_cell n K2 (by omega)
  replace K3 := within_cell n K3 (by omega)
  replace K4 := within_cell n K4 (by omega)
  replace JaC := IaC.kept B
  replace o1 := o1.kept n (by omega)
  clear n b
  have lo2 := o2.size
  go_wp2_with fail
  refine (c_toCategory JaC).mono ?_
  rintro e w4 ⟨u3, rfl, o3, b⟩
  obtain ⟨au3, bu3, cu3, du3, eu3, fu3, gu3, hu3, rfl⟩ := o3.shape
  have n := below_within b w3.heap.size
  have z4 := n.size
  replace B := n.below B (by omega) (Nat.le_refl _)
  replace K0 := within_cell n K0 (by omega)
  replace K1 := within_cell n K1 (by omega)
  replace K2 := within_cell n K2 (by omega)
  replace K3 := within_cell n K3 (by omega)
  replace K4 := within_cell n K4 (by omega)
  replace JaC := IaC.kept B
  replace o1 := o1.kept n (by omega)
  replace o2 := o2.kept n (by omega)
  clear n b
  go_wp2_with fail
  have b : Below w4.heap.size w4 (w4.alloc (.cells #[.int .i64 xsaC.n, .slice au3 xsaC.fr.length eu3, .slice bu3 xsaC.to.length fu3, .slice cu3 xsaC.id.length gu3, .slice du3 xsaC.cm.length hu3] 28)) := bel_box w4 _
  have X30 : (w4.alloc (.cells #[.int .i64 xsaC.n, .slice au3 xsaC.fr.length eu3, .slice bu3 xsaC.to.length fu3, .slice cu3 xsaC.id.length gu3, .slice du3 xsaC.cm.length hu3] 28)).cell? ⟨w4.heap.size, 0, none⟩ = some (.int .i64 xsaC.n) := by simp
  have X31 : (w4.alloc (.cells #[.int .i64 xsaC.n, .slice au3 xsaC.fr.length eu3, .slice bu3 xsaC.to.length fu3, .slice cu3 xsaC.id.length gu3, .slice du3 xsaC.cm.length hu3] 28)).cell? ⟨w4.heap.size, 1, none⟩ = some (.slice au3 xsaC.fr.length eu3) := by simp
  have X32 : (w4.alloc (.cells #[.int .i64 xsaC.n, .slice au3 xsaC.fr.length eu3, .slice bu3 xsaC.to.length fu3, .slice cu3 xsaC.id.length gu3, .slice du3 xsaC.cm.length hu3] 28)).cell? ⟨w4.heap.size, 2, none⟩ = some (.slice bu3 xsaC.to.length fu3) := by simp
  have X33 : (w4.alloc (.cells #[.int .i64 xsaC.n, .slice au3 xsaC.fr.length eu3, .slice bu3 xsaC.to.length fu3, .slice cu3 xsaC.id.length gu3, .slice du3 xsaC.cm.length hu3] 28)).cell? ⟨w4.heap.size, 3, none⟩ = some (.slice cu3 xsaC.id.length gu3) := by simp
  have X34 : (w4.alloc (.cells #[.int .i64 xsaC.n, .slice au3 xsaC.fr.length eu3, .slice bu3 xsaC.to.length fu3, .slice cu3 xsaC.id.length gu3, .slice du3 xsaC.cm.length hu3] 28)).cell? ⟨w4.heap.size, 4, none⟩ = some (.slice du3 xsaC.cm.length hu3) := by simp
  have hz3 : w4.heap.size < (w4.alloc (.cells #[.int .i64 xsaC.n, .slice au3 xsaC.fr.length eu3, .slice bu3 xsaC.to.length fu3, .slice cu3 xsaC.id.length gu3, .slice du3 xsaC.cm.length hu3] 28)).heap.size := by simp
  generalize (w4.alloc (.cells #[.int .i64 xsaC.n, .slice au3 xsaC.fr.length eu3, .slice bu3 xsaC.to.length fu3, .slice cu3 xsaC.id.length gu3, .slice du3 xsaC.cm.length hu3] 28)) = w5 at *
  have n := below_within b w4.heap.size
  have z5 := n.size
  replace B := n.below B (by omega) (Nat.le_refl _)
  replace K0 := within_cell n K0 (by omega)
  replace K1 := within_cell n K1 (by omega)
  replace K2 := within_cell n K2 (by omega)
  replace K3 := within_cell n K3 (by omega)
  replace K4 := within_cell n K4 (by omega)
  replace JaC := IaC.kept B
  replace o1 := o1.kept n (by omega)
  replace o2 := o2.kept n (by omega)
  replace o3 := o3.kept n (by omega)
  clear n b
  refine (i_IrreducibleArrows o3.is).mono ?_
  rintro e w6 ⟨u4, rfl, o4, b⟩
  have n := below_within b w5.heap.size
  have z6 := n.size
  replace B := n.below B (by omega) (Nat.le_refl _)
  replace K0 := within_cell n K0 (by omega)
  replace K1 := within_cell n K1 (by omega)
  replace K2 := within_cell n K2 (by omega)
  replace K3 := within_cell n K3 (by omega)
  replace K4 := within_cell n K4 (by omega)
  replace X30 := within_cell n X30 (by omega)
  replace X31 := within_cell n X31 (by omega)
  replace X32 := within_cell n X32 (by omega)
  replace X33 := within_cell n X33 (by omega)
  replace X34 := within_cell n X34 (by omega)
  replace JaC := IaC.kept B
  replace o1 := o1.kept n (by omega)
  replace o2 := o2.kept n (by omega)
  replace o3 := o3.kept n (by omega)
  clear n b
  have lo4 := o4.size
  go_wp2_with fail
  refine (c_eqInt64S_refl o4.is o2.is).mono ?_
  rintro e w7 ⟨rfl, d⟩
  have b := d.below w6.heap.size
  clear d
  have n := below_within b w6.heap.size
  have z7 := n.size
  replace B := n.below B (by omega) (Nat.le_refl _)
  replace K0 := within_cell n K0 (by omega)
  replace K1 := within_cell n K1 (by omega)
  replace K2 := within_cell n K2 (by omega)
  replace K3 := within_cell n K3 (by omega)
  replace K4 := within_cell n K4 (by omega)
  replace X30 := within_cell n X30 (by omega)
  replace X31 := within_cell n X31 (by omega)
  replace X32 := within_cell n X32 (by omega)
  replace X33 := within_cell n X33 (by omega)
  replace X34 := within_cell n X34 (by omega)
  replace JaC := IaC.kept B
  replace o1 := o1.kept n (by omega)
  replace o2 := o2.kept n (by omega)
  replace o3 := o3.kept n (by omega)
  replace o4 := o4.kept n (by omega)
  clear n b
  go_wp2_with fail
  go_region_held3 (fun w' => Below w7.heap.size w7 w' ∧ w'.cell? ⟨w.heap.size, 0, none⟩ = some (.int .i64 kaC) ∧ w'.cell? ⟨w.heap.size, 1, none⟩ = some (vfaC) ∧ w'.cell? ⟨w.heap.size, 2, none⟩ = some (vtaC) ∧ w'.cell? ⟨w.heap.size, 3, none⟩ = some (viaC) ∧ w'.cell? ⟨w.heap.size, 4, none⟩ = some (vcaC) ∧ w'.cell? ⟨w4.heap.size, 0, none⟩ = some (.int .i64 xsaC.n) ∧ w'.cell? ⟨w4.heap.size, 1, none⟩ = some (.slice au3 xsaC.fr.length eu3) ∧ w'.cell? ⟨w4.heap.size, 2, none⟩ = some (.slice bu3 xsaC.to.length fu3) ∧ w'.cell? ⟨w4.heap.size, 3, none⟩ = some (.slice cu3 xsaC.id.length gu3) ∧ w'.cell? ⟨w4.heap.size, 4, none⟩ = some (.slice du3 xsaC.cm.length hu3))
    (first | exact ⟨(Drawn.one (Drawn.refl _)).bel0, K0, K1, K2, K3, K4, X30, X31, X32, X33, X34⟩ | (refine keep10 ?_ hb7; assumption))
    (first | (go_at_call 17; (with_reducible refine (c_toCategory (JaC.kept (And.left (by assumption)))).mono ?_); rintro e w' ⟨u5, rfl, o5, hb7⟩) | (go_at_call 19; (with_reducible refine (c_eqCategory_refl (o3.is.kept (And.left (by assumption))) o5.is).mono ?_); rintro e w8 ⟨rfl, hb7⟩))
  obtain ⟨b, -⟩ := ‹Below w7.heap.size w7 w8 ∧ _›
  clear hb7
  have n := below_within b w7.heap.size
  have z8 := n.size
  replace B := n.below B (by omega) (Nat.le_refl _)
  replace K0 := within_cell n K0 (by omega)
  replace K1 := within_cell n K1 (by omega)
  replace K2 := within_cell n K2 (by omega)
  replace K3 := within_cell n K3 (by omega)
  replace K4 := within_cell n K4 (by omega)
  replace X30 := within_cell n X30 (by omega)
  replace X31 := within_cell n X31 (by omega)
  replace X32 := within_cell n X32 (by omega)
  replace X33 := within_cell n X33 (by omega)
  replace X34 := within_cell n X34 (by omega)
  replace JaC := IaC.kept B
  replace o1 := o1.kept n (by omega)
  replace o2 := o2.kept n (by omega)
  replace o3 := o3.kept n (by omega)
  replace o4 := o4.kept n (by omega)
  clear n b
  go_wp2_with fail
  refine (c_markCategory o3 _ (by omega) (by omega)).mono ?_
  rintro e w9 ⟨rfl, o3, n⟩
  have z9 := n.size
  replace B := n.below B (by omega) (Nat.le_refl _)
  replace K0 := within_cell n K0 (by omega)
  replace K1 := within_cell n K1 (by omega)
  replace K2 := within_cell n K2 (by omega)
  replace K3 := within_cell n K3 (by omega)
  replace K4 := within_cell n K4 (by omega)
  replace X30 := within_cell n X30 (by omega)
  replace X31 := within_cell n X31 (by omega)
  replace X32 := within_cell n X32 (by omega)
  replace X33 := within_cell n X33 (by omega)
  replace X34 := within_cell n X34 (by omega)
  replace JaC := IaC.kept B
  replace o1 := o1.kept n (by omega)
  replace o2 := o2.kept n (by omega)
  replace o4 := o4.kept n (by omega)
  clear n
  go_wp2_with fail
  refine (c_eqInt64S_refl o4.is o2.is).mono ?_
  rintro e w10 ⟨rfl, d⟩
  have b := d.below w9.heap.size
  clear d
  have n := below_within b w9.heap.size
  have z10 := n.size
  replace B := n.below B (by omega) (Nat.le_refl _)
  replace K0 := within_cell n K0 (by omega)
  replace K1 := within_cell n K1 (by omega)
  replace K2 := within_cell n K2 (by omega)
  replace K3 := within_cell n K3 (by omega)
  replace K4 := within_cell n K4 (by omega)
  replace X30 := within_cell n X30 (by omega)
  replace X31 := within_cell n X31 (by omega)
  replace X32 := within_cell n X32 (by omega)
  replace X33 := within_cell n X33 (by omega)
  replace X34 := within_cell n X34 (by omega)
  replace JaC := IaC.kept B
  replace o1 := o1.kept n (by omega)
  replace o2 := o2.kept n (by omega)
  replace o3 := o3.kept n (by omega)
  replace o4 := o4.kept n (by omega)
  clear n b
  go_wp2_with fail
  refine (c_markInt64S o4 _ (by omega) (by omega)).mono ?_
  rintro e w11 ⟨rfl, o4, n⟩
  have z11 := n.size
  replace B := n.below B (by omega) (Nat.le_refl _)
  replace K0 := within_cell n K0 (by omega)
  replace K1 := within_cell n K1 (by omega)
  replace K2 := within_cell n K2 (by omega)
  replace K3 := within_cell n K3 (by omega)
  replace K4 := within_cell n K4 (by omega)
  replace X30 := within_cell n X30 (by omega)
  replace X31 := within_cell n X31 (by omega)
  replace X32 := within_cell n X32 (by omega)
  replace X33 := within_cell n X33 (by omega)
  replace X34 := within_cell n X34 (by omega)
  replace JaC := IaC.kept B
  replace o1 := o1.kept n (by omega)
  replace o2 := o2.kept n (by omega)
  replace o3 := o3.kept n (by omega)
  clear n
  go_wp2_with fail
  refine (c_heldInt64S o4.is (by omega) (by omega)).mono ?_
  rintro e w12 ⟨rfl, d⟩
  have b := d.below w11.heap.size
  clear d
  have n := below_within b w11.heap.size
  have z12 := n.size
  replace B := n.below B (by omega) (Nat.le_refl _)
  replace K0 := within_cell n K0 (by omega)
  replace K1 := within_cell n K1 (by omega)
  replace K2 := within_cell n K2 (by omega)
  replace K3 := within_cell n K3 (by omega)
  replace K4 := within_cell n K4 (by omega)
  replace X30 := within_cell n X30 (by omega)
  replace X31 := within_cell n X31 (by omega)
  replace X32 := within_cell n X32 (by omega)
  replace X33 := within_cell n X33 (by omega)
  replace X34 := within_cell n X34 (by omega)
  replace JaC := IaC.kept B
  replace o1 := o1.kept n (by omega)
  replace o2 := o2.kept n (by omega)
  replace o3 := o3.kept n (by omega)
  replace o4 := o4.kept n (by omega)
  clear n b
  go_wp2_with fail
  refine (c_toCategory JaC).mono ?_
  rintro e w13 ⟨u6, rfl, o6, b⟩
  obtain ⟨au6, bu6, cu6, du6, eu6, fu6, gu6, hu6, rfl⟩ := o6.shape
  have n := below_within b w12.heap.size
  have z13 := n.size
  replace B := n.below B (by omega) (Nat.le_refl _)
  replace K0 := within_cell n K0 (by omega)
  replace K1 := within_cell n K1 (by omega)
  replace K2 := within_cell n K2 (by omega)
  replace K3 := within_cell n K3 (by omega)
  replace K4 := within_cell n K4 (by omega)
  replace X30 := within_cell n X30 (by omega)
  replace X31 := within_cell n X31 (by omega)
  replace X32 := within_cell n X32 (by omega)
  replace X33 := within_cell n X33 (by omega)
  replace X34 := within_cell n X34 (by omega)
  replace JaC := IaC.kept B
  replace o1 := o1.kept n (by omega)
  replace o2 := o2.kept n (by omega)
  replace o3 := o3.kept n (by omega)
  replace o4 := o4.kept n (by omega)
  clear n b
  go_wp2_with fail
  refine (i_IrreducibleArrows o6.is).mono ?_
  rintro e w14 ⟨u7, rfl, o7, b⟩
  have n := below_within b w13.heap.size
  have z14 := n.size
  replace B := n.below B (by omega) (Nat.le_refl _)
  replace K0 := within_cell n K0 (by omega)
  replace K1 := within_cell n K1 (by omega)
  replace K2 := within_cell n K2 (by omega)
  replace K3 := within_cell n K3 (by omega)
  replace K4 := within_cell n K4 (by omega)
  replace X30 := within_cell n X30 (by omega)
  replace X31 := within_cell n X31 (by omega)
  replace X32 := within_cell n X32 (by omega)
  replace X33 := within_cell n X33 (by omega)
  replace X34 := within_cell n X34 (by omega)
  replace JaC := IaC.kept B
  replace o1 := o1.kept n (by omega)
  replace o2 := o2.kept n (by omega)
  replace o3 := o3.kept n (by omega)
  replace o4 := o4.kept n (by omega)
  replace o6 := o6.kept n (by omega)
  clear n b
  have lo7 := o7.size
  go_wp2_with fail
  refine (c_eqInt64S_refl o7.is o2.is).mono ?_
  rintro e w15 ⟨rfl, d⟩
  have b := d.below w14.heap.size
  clear d
  have n := below_within b w14.heap.size
  have z15 := n.size
  replace B := n.below B (by omega) (Nat.le_refl _)
  replace K0 := within_cell n K0 (by omega)
  replace K1 := within_cell n K1 (by omega)
  replace K2 := within_cell n K2 (by omega)
  replace K3 := within_cell n K3 (by omega)
  replace K4 := within_cell n K4 (by omega)
  replace X30 := within_cell n X30 (by omega)
  replace X31 := within_cell n X31 (by omega)
  replace X32 := within_cell n X32 (by omega)
  replace X33 := within_cell n X33 (by omega)
  replace X34 := within_cell n X34 (by omega)
  replace JaC := IaC.kept B
  replace o1 := o1.kept n (by omega)
  replace o2 := o2.kept n (by omega)
  replace o3 := o3.kept n (by omega)
  replace o4 := o4.kept n (by omega)
  replace o6 := o6.kept n (by omega)
  replace o7 := o7.kept n (by omega)
  clear n b
  go_wp2_with fail
  refine (c_heldInt64S o4.is (by omega) (by omega)).mono ?_
  rintro e w16 ⟨rfl, d⟩
  have b := d.below w15.heap.size
  clear d
  have n := below_within b w15.heap.size
  have z16 := n.size
  replace B := n.below B (by omega) (Nat.le_refl _)
  replace K0 := within_cell n K0 (by omega)
  replace K1 := within_cell n K1 (by omega)
  replace K2 := within_cell n K2 (by omega)
  replace K3 := within_cell n K3 (by omega)
  replace K4 := within_cell n K4 (by omega)
  replace X30 := within_cell n X30 (by omega)
  replace X31 := within_cell n X31 (by omega)
  replace X32 := within_cell n X32 (by omega)
  replace X33 := within_cell n X33 (by omega)
  replace X34 := within_cell n X34 (by omega)
  replace JaC := IaC.kept B
  replace o1 := o1.kept n (by omega)
  replace o2 := o2.kept n (by omega)
  replace o3 := o3.kept n (by omega)
  replace o4 := o4.kept n (by omega)
  replace o6 := o6.kept n (by omega)
  replace o7 := o7.kept n (by omega)
  clear n b
  go_wp2_with fail
  go_ret
  exact ⟨rfl, B⟩
section
set_option maxRecDepth 100000 in
theorem lifted_FnExactIrreducibleArrows (os : Os) (started : os.Started) (H : Type) (enc : TypeId × Value → H) :
    ReturnsInHanded {} Try.checked os 14 .any (Rows.fnExactIrreducibleArrowsSpec.pre6 enc Try.prog Try.f14 Rows.fnExactIrreducibleArrowsRow.domain false) (Rows.fnExactIrreducibleArrowsSpec.post enc Try.prog Try.f14 false true false false) := by
  refine returnsInHanded_of_change (C := Try.checked) ownKnobNone started (by kernel_rfl) Try.func14
    (ChangeSpec.witness6 (enc := enc) (C := Try.checked) false ⟨#[], #[.agg #[.int .i64 0, .slice none 0 0, .slice none 0 0, .slice none 0 0, .slice none 0 0]], []⟩ 8 (by kernel_rfl) (by kernel_rfl) (by kernel_rfl) (by kernel_rfl)) ?_
  intro W base args ds gs before hval0 hW hcnd _
  have hval : ∀ (j : Nat) t v, Try.f14.params[j]? = some t → args[j]? = some v → Value.okWide Try.prog W .any base t v := hval0
  have hW' := hW
  obtain ⟨p, q, hA0, hV, rfl, hfz, hnd⟩ := hW
  have hA : DataW.TrodAll enc Try.prog W 0 (fun _ => true) true Try.f14.params.toList args.toList ds p := hA0
  rw [Try.params14] at hA hval
  obtain ⟨v0, vs0, d0, ds0, p0, q0, hargs, rfl, rfl, h0, r0⟩ := trodAll_cons hA
  obtain ⟨rfl, rfl, rfl⟩ := trodAll_nil r0
  obtain rfl : args = #[v0] := by cases args; simp_all
  obtain ⟨rfl, rfl⟩ := trodVars_none hV
  have k0 := h0
  have lt0 : ∀ x ∈ p0, x.block < W.heap.size := by obtain ⟨m, hm⟩ := k0; exact DataW.trod_lt m _ _ _ hm
  have w0 : RawC W v0 := rawC_of (hval 0 25 v0 rfl rfl) h0
  clear hA0 hval0
  refine (walk_FnExactIrreducibleArrows v0 W w0).mono fun e W' ⟨he, bel⟩ => ?_
  subst he
  exact ⟨_, rfl, _, _, _, [], _, [], hW', trodAll_mk1 (shut_bool Try.underlying4 _), (trodAll_cons_mk (Below.trod laidOutB_prog (by kernel_rfl) (of_decide_eq_true (by kernel_rfl)) k0 bel lt0) (trodAll_mk0)), rfl, bel.frame _, fun h => by cases h⟩
end
/-- THE STATEMENT. -/
theorem proved_FnExactIrreducibleArrows : Rows.FnExactIrreducibleArrowsSaid :=
  OpenClaim.holds_of_wide 14 Try.f14 rfl rfl rfl rfl rfl rfl rfl ⟨rfl, rfl, rfl, rfl, rfl⟩ rfl rfl rfl rfl rfl (by kernel_rfl) Try.func14 (by kernel_rfl)
    (of_decide_eq_true (by kernel_rfl)) (by unfold Func.isWrapper; first | (rw [if_pos (by decide +kernel)]; kernel_rfl) | (rw [if_neg (by decide +kernel)]; exact ⟨rfl, rfl⟩))
    (fun os started H enc _ => lifted_FnExactIrreducibleArrows os started H enc)
end Go.Proofs.Ytampdoccljkdhaa
