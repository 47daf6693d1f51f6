/-
  Chapter 3: MonoidCategory of program and reference.
-/
import Derived.Test.YtgjinjenijjiiaaRet
import Derived.Test.YtgjinjenijjiiaaTab
import Derived.Deep.RegionHeld3
import Derived.Deep.RegionWith
namespace Go.Proofs.Ytgjinjenijjiiaa
open Go.RowKit

def monC (t : List (List Int)) : Cat := ⟨1, zs t.length, zs t.length, [0], t⟩
noncomputable def monR (t : List (List Int)) : Cat × Int := if dB (Mon t) = true then (if t.length ≤ 40 then (monC t, 0) else (nilC, 3)) else (nilC, 1)
theorem pS_le_mul (D : Nat → List Int) (k : Nat) : ∀ n, (∀ i, i < n → (D i).length ≤ k) → pS D n ≤ n * k := by
  intro n
  induction n with
  | zero => intro _; simp [pS]
  | succ n ih =>
    intro h
    have h1 := ih (fun i hi => h i (by omega))
    have h2 := h n (by omega)
    simp only [pS, Nat.succ_mul]; omega
theorem mon_len {m : Int} {t : List (List Int)} (h : Sq m t) (hl : t.length ≤ 40) : t.length ≤ 1048576 ∧ pS (gr t) t.length ≤ 1099511627776 := by
  have h1 := pS_le_mul (gr t) t.length t.length (fun i hi => by rw [(h i hi).1]; exact Nat.le_refl _)
  have h2 : t.length * t.length ≤ 40 * 40 := Nat.mul_le_mul hl hl
  omega
set_option maxHeartbeats 8000000 in
theorem i_MonoidCategory {w : World} {v : Value} {t : List (List Int)} (h : ISS w v t) : Calls Try.prog 11 #[v] w (MkC w (monR t)) := by
  have HI := Lib.hid h
  have hlen := h.len
  have HM := Lib.hid (fun W (hW : Below w.heap.size w W) => c_isMonoid (h.kept hW))
  have HC := Lib.hid (fun W (hW : Below w.heap.size w W) => c_clones (h.kept hW))
  obtain ⟨ao, b, o, c, R, rfl, -⟩ := h.ex
  clear h
  by_cases hM : dB (Mon t) = true
  · by_cases hl : t.length ≤ 40
    · have hlb : decide ((40 : Int) < (t.length : Int)) = false := decide_eq_false (by omega)
      have hmk := run_make_row' (P := Try.prog) 24 2 (.int .i64 0) 8 Try.underlying24 infoInt64 rfl .i64 .i64 t.length (by omega) (by omega)
      have hr : monR t = (monC t, 0) := by unfold monR; rw [if_pos hM, if_pos hl]
      have HL := Lib.hid (mon_len (dB_s hM).sq hl)
      go_enter Try.func11, Try.ntmps11
      go_wp2_with fail
      refine (HM.out _ (bel_alloc (Below.refl _ _) _)).mono ?_
      rintro e w' ⟨rfl, n1, rfl⟩
      go_wp2_with fail
      have B0 := RS.start (w := w) (T := 26) (x0 := .int .i64 0) (x1 := .slice none 0 0) (x2 := .slice none 0 0) (x3 := .slice none 0 0) (x4 := .slice none 0 0) n1
      generalize (w.alloc (.cells #[.int .i64 0, .slice none 0 0, .slice none 0 0, .slice none 0 0, .slice none 0 0] 26)).drewN n1 = W0 at *
      have B1 := B0.drew.all
      go_region_held3 (fun w' => RS w w.heap.size 26 w' ∧ w'.cell? ⟨w.heap.size, 0, none⟩ = some (cv w' w.heap.size 0) ∧ w'.cell? ⟨w.heap.size, 1, none⟩ = some (cv w' w.heap.size 1) ∧ w'.cell? ⟨w.heap.size, 2, none⟩ = some (cv w' w.heap.size 2) ∧ w'.cell? ⟨w.heap.size, 3, none⟩ = some (cv w' w.heap.size 3) ∧ w'.cell? ⟨w.heap.size, 4, none⟩ = some (cv w' w.heap.size 4) ∧ w'.frozen? ⟨w.heap.size, 0, none⟩ = false ∧ w'.frozen? ⟨w.heap.size, 1, none⟩ = false ∧ w'.frozen? ⟨w.heap.size, 2, none⟩ = false ∧ w'.frozen? ⟨w.heap.size, 3, none⟩ = false ∧ w'.frozen? ⟨w.heap.size, 4, none⟩ = false)
        (first | with_reducible exact B1 | (with_reducible refine (RS.alloc ?_ _).all; with_reducible exact And.left (by assumption)) | (with_reducible refine (RS.call ?_ b9).all; with_reducible exact And.left (by assumption)) | (with_reducible refine (RS.drew (RS.alloc ?_ _)).all; with_reducible exact RS.un (And.left (by assumption))) | (with_reducible refine (RS.set (RS.set (RS.set (RS.set (RS.set ?_ _ _) _ _) _ _) _ _) _ _).all; with_reducible exact And.left (by assumption)) | (with_reducible refine (RS.drew (RS.set (RS.set (RS.set (RS.set (RS.set ?_ _ _) _ _) _ _) _ _) _ _)).all; with_reducible exact RS.un (And.left (by assumption))))
        (first | (go_at_call 34; (with_reducible refine (HC.out _ (RS.bel (And.left (by assumption)))).mono ?_); rintro e w9 ⟨u, rfl, o9, b9⟩; obtain ⟨au, cu, rfl⟩ := o9.opened'))
      all_goals
        go_wp2_with fail
        refine bodyPost_ret (results_cell_row2 rfl _ _ w.heap.size 26 #[_, _, _, _, _] (0, 0) _ (by rfl) (RS.five (w := w) ?hR _ _ _ _ _) Try.underlying26 rfl (by kernel_rfl)) rfl ?hF
        case hR => repeat (first | exact B0 | refine RS.alloc ?_ _ | refine RS.call ?_ b9 | refine RS.drew ?_)
        case hF =>
          have z0 := B0.lt
          have z9 := b9.size
          simp only [World.size_drew, World.size_alloc] at z9
          clear B1 HI HM HC hmk hM hlb
          rw [hr]
          refine mkC_lit (T := 26) ?g0 (monC t) 0 ?g1 ?g2 ?g3 o9 ?g4 HL.out ?g5 ?g6 (by simp [I64, monC])
          case g0 => repeat (first | exact B0 | refine RS.alloc ?_ _ | refine RS.call ?_ b9 | refine RS.drew ?_)
          case g1 => repeat (first | (refine OwnT.zeros ?_ ?_; (· omega); (· simp)) | refine OwnT.up_alloc ?_ _ | refine OwnT.up_drew ?_ | refine OwnT.keptB ?_ b9)
          case g2 => repeat (first | (refine OwnT.zeros ?_ ?_; (· omega); (· simp)) | refine OwnT.up_alloc ?_ _ | refine OwnT.up_drew ?_ | refine OwnT.keptB ?_ b9)
          case g3 => repeat (first | (refine OwnT.lit1 ?_ ?_; (· simp [I64]); (· simp)) | refine OwnT.up_alloc ?_ _ | refine OwnT.up_drew ?_ | refine OwnT.keptB ?_ b9)
          case g4 => repeat (first | exact Below.refl _ _ | refine bel_alloc ?_ _)
          case g5 =>
            clear o9 B0
            simp only [World.size_drew, World.size_alloc]
            omega
          case g6 =>
            clear o9 B0
            simp only [World.size_drew, World.size_alloc]
            refine ⟨?_, ?_, ?_, ?_, ?_, ?_⟩ <;> omega
    · have hlb : decide ((40 : Int) < (t.length : Int)) = true := decide_eq_true (by omega)
      have hr : monR t = (nilC, 3) := by unfold monR; rw [if_pos hM, if_neg hl]
      go_enter Try.func11, Try.ntmps11
      go_wp2_with fail
      refine (HM.out _ (bel_alloc (Below.refl _ _) _)).mono ?_
      rintro e w' ⟨rfl, n1, rfl⟩
      have B0 := RS.start (w := w) (T := 26) (x0 := .int .i64 0) (x1 := .slice none 0 0) (x2 := .slice none 0 0) (x3 := .slice none 0 0) (x4 := .slice none 0 0) n1
      generalize (w.alloc (.cells #[.int .i64 0, .slice none 0 0, .slice none 0 0, .slice none 0 0, .slice none 0 0] 26)).drewN n1 = W0 at *
      obtain ⟨-, x0, x1, x2, x3, x4, f0, f1, f2, f3, f4⟩ := B0.all
      go_wp2_with fail
      refine bodyPost_ret (results_cell_row2 rfl _ _ w.heap.size 26 #[_, _, _, _, _] (0, 0) _ (by rfl) (RS.five (w := w) B0 _ _ _ _ _) Try.underlying26 rfl (by kernel_rfl)) rfl ?_
      exact mkC_nil5 B0 hr
  · have hr : monR t = (nilC, 1) := by unfold monR; rw [if_neg hM]
    simp only [Bool.not_eq_true] at hM
    go_enter Try.func11, Try.ntmps11
    go_wp2_with fail
    refine (HM.out _ (bel_alloc (Below.refl _ _) _)).mono ?_
    rintro e w' ⟨rfl, n1, rfl⟩
    have B0 := RS.start (w := w) (T := 26) (x0 := .int .i64 0) (x1 := .slice none 0 0) (x2 := .slice none 0 0) (x3 := .slice none 0 0) (x4 := .slice none 0 0) n1
    generalize (w.alloc (.cells #[.int .i64 0, .slice none 0 0, .slice none 0 0, .slice none 0 0, .slice none 0 0] 26)).drewN n1 = W0 at *
    obtain ⟨-, x0, x1, x2, x3, x4, f0, f1, f2, f3, f4⟩ := B0.all
    go_wp2_with fail
    refine bodyPost_ret (results_cell_row2 rfl _ _ w.heap.size 26 #[_, _, _, _, _] (0, 0) _ (by rfl) (RS.five (w := w) B0 _ _ _ _ _) Try.underlying26 rfl (by kernel_rfl)) rfl ?_
    exact mkC_nil5 B0 hr
end Go.Proofs.Ytgjinjenijjiiaa
