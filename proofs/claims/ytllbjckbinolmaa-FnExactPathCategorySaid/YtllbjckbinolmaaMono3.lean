/-
  The reference's l03Made and MonoidCategory.
-/
import Derived.Test.YtllbjckbinolmaaMono2
namespace Go.Proofs.Ytllbjckbinolmaa
open Go.RowKit

def fitsB (n : Int) (k : Nat) : Bool := decide (n ≤ 8) && decide (k ≤ 40)
theorem c_l03Made_yes {w : World} {n : Int} {a : Option Addr} {k cc : Nat} {aT aI aC : Option Addr} {nT kT nI kI nC kC : Nat} (hk : k ≤ 4294967296) (hf : fitsB n k = true) :
    Calls Try.prog 15 #[.agg #[.int .i64 n, .slice a k cc, .slice aT nT kT, .slice aI nI kI, .slice aC nC kC]] w (fun e w' => e = .returned (.tuple #[.agg #[.int .i64 n, .slice a k cc, .slice aT nT kT, .slice aI nI kI, .slice aC nC kC], .int .i64 0]) ∧ Below w.heap.size w w') := by
  have HF := Lib.hid hf
  have hnew := RS.new (w := w) (W := w.alloc (.cells #[.int .i64 n, .slice a k cc, .slice aT nT kT, .slice aI nI kI, .slice aC nC kC] 25)) (T := 25) (x0 := .int .i64 0) (x1 := .slice none 0 0) (x2 := .slice none 0 0) (x3 := .slice none 0 0) (x4 := .slice none 0 0) (bel_alloc (Below.refl _ _) _)
  have hz : w.heap.size < ((w.alloc (.cells #[.int .i64 n, .slice a k cc, .slice aT nT kT, .slice aI nI kI, .slice aC nC kC] 25)).alloc (.cells #[.int .i64 0, .slice none 0 0, .slice none 0 0, .slice none 0 0, .slice none 0 0] 25)).heap.size := by simp; omega
  have k0 : ((w.alloc (.cells #[.int .i64 n, .slice a k cc, .slice aT nT kT, .slice aI nI kI, .slice aC nC kC] 25)).alloc (.cells #[.int .i64 0, .slice none 0 0, .slice none 0 0, .slice none 0 0, .slice none 0 0] 25)).cell? ⟨w.heap.size, 0, none⟩ = some (.int .i64 n) := by simp
  have k1 : ((w.alloc (.cells #[.int .i64 n, .slice a k cc, .slice aT nT kT, .slice aI nI kI, .slice aC nC kC] 25)).alloc (.cells #[.int .i64 0, .slice none 0 0, .slice none 0 0, .slice none 0 0, .slice none 0 0] 25)).cell? ⟨w.heap.size, 1, none⟩ = some (.slice a k cc) := by simp
  have k2 : ((w.alloc (.cells #[.int .i64 n, .slice a k cc, .slice aT nT kT, .slice aI nI kI, .slice aC nC kC] 25)).alloc (.cells #[.int .i64 0, .slice none 0 0, .slice none 0 0, .slice none 0 0, .slice none 0 0] 25)).cell? ⟨w.heap.size, 2, none⟩ = some (.slice aT nT kT) := by simp
  have k3 : ((w.alloc (.cells #[.int .i64 n, .slice a k cc, .slice aT nT kT, .slice aI nI kI, .slice aC nC kC] 25)).alloc (.cells #[.int .i64 0, .slice none 0 0, .slice none 0 0, .slice none 0 0, .slice none 0 0] 25)).cell? ⟨w.heap.size, 3, none⟩ = some (.slice aI nI kI) := by simp
  have k4 : ((w.alloc (.cells #[.int .i64 n, .slice a k cc, .slice aT nT kT, .slice aI nI kI, .slice aC nC kC] 25)).alloc (.cells #[.int .i64 0, .slice none 0 0, .slice none 0 0, .slice none 0 0, .slice none 0 0] 25)).cell? ⟨w.heap.size, 4, none⟩ = some (.slice aC nC kC) := by simp
  clear hf
  go_enter Try.func15, Try.ntmps15
  go_wp2_with fail
  generalize (w.alloc (.cells #[.int .i64 n, .slice a k cc, .slice aT nT kT, .slice aI nI kI, .slice aC nC kC] 25)).alloc (.cells #[.int .i64 0, .slice none 0 0, .slice none 0 0, .slice none 0 0, .slice none 0 0] 25) = W0 at *
  simp only [World.size_alloc] at hnew
  refine (c_l02Fits (w := W0) (n := n) (a := a) (k := k) (cc := cc) (vt := .slice aT nT kT) (vi := .slice aI nI kI) (vc := .slice aC nC kC) hk).mono ?_
  rintro e w1 ⟨rfl, b1⟩
  rw [show (decide (n ≤ 8) && decide (k ≤ 40)) = fitsB n k from rfl, HF.out]
  have R1 := hnew.call b1
  obtain ⟨-, x0, x1, x2, x3, x4, f0, f1, f2, f3, f4⟩ := R1.all
  replace k0 := upc b1 k0
  replace k1 := upc b1 k1
  replace k2 := upc b1 k2
  replace k3 := upc b1 k3
  replace k4 := upc b1 k4
  clear b1 hnew hz
  go_wp2_with fail
  refine bodyPost_ret (results_cell_row2 rfl _ _ (w.heap.size + 1) 25 #[_, _, _, _, _] (0, 0) _ (by rfl) (RS.five (w := w) R1 _ _ _ _ _) Try.underlying25 rfl (by kernel_rfl)) rfl ?_
  exact ⟨rfl, R1.five_bel _ _ _ _ _⟩
theorem c_l03Made_no {w : World} {n : Int} {a : Option Addr} {k cc : Nat} {aT aI aC : Option Addr} {nT kT nI kI nC kC : Nat} (hk : k ≤ 4294967296) (hf : fitsB n k = false) :
    Calls Try.prog 15 #[.agg #[.int .i64 n, .slice a k cc, .slice aT nT kT, .slice aI nI kI, .slice aC nC kC]] w (fun e w' => e = .returned (.tuple #[.agg #[.int .i64 0, .slice none 0 0, .slice none 0 0, .slice none 0 0, .slice none 0 0], .int .i64 3]) ∧ Below w.heap.size w w') := by
  have HF := Lib.hid hf
  have hnew := RS.new (w := w) (W := w.alloc (.cells #[.int .i64 n, .slice a k cc, .slice aT nT kT, .slice aI nI kI, .slice aC nC kC] 25)) (T := 25) (x0 := .int .i64 0) (x1 := .slice none 0 0) (x2 := .slice none 0 0) (x3 := .slice none 0 0) (x4 := .slice none 0 0) (bel_alloc (Below.refl _ _) _)
  have hz : w.heap.size < ((w.alloc (.cells #[.int .i64 n, .slice a k cc, .slice aT nT kT, .slice aI nI kI, .slice aC nC kC] 25)).alloc (.cells #[.int .i64 0, .slice none 0 0, .slice none 0 0, .slice none 0 0, .slice none 0 0] 25)).heap.size := by simp; omega
  have k0 : ((w.alloc (.cells #[.int .i64 n, .slice a k cc, .slice aT nT kT, .slice aI nI kI, .slice aC nC kC] 25)).alloc (.cells #[.int .i64 0, .slice none 0 0, .slice none 0 0, .slice none 0 0, .slice none 0 0] 25)).cell? ⟨w.heap.size, 0, none⟩ = some (.int .i64 n) := by simp
  have k1 : ((w.alloc (.cells #[.int .i64 n, .slice a k cc, .slice aT nT kT, .slice aI nI kI, .slice aC nC kC] 25)).alloc (.cells #[.int .i64 0, .slice none 0 0, .slice none 0 0, .slice none 0 0, .slice none 0 0] 25)).cell? ⟨w.heap.size, 1, none⟩ = some (.slice a k cc) := by simp
  have k2 : ((w.alloc (.cells #[.int .i64 n, .slice a k cc, .slice aT nT kT, .slice aI nI kI, .slice aC nC kC] 25)).alloc (.cells #[.int .i64 0, .slice none 0 0, .slice none 0 0, .slice none 0 0, .slice none 0 0] 25)).cell? ⟨w.heap.size, 2, none⟩ = some (.slice aT nT kT) := by simp
  have k3 : ((w.alloc (.cells #[.int .i64 n, .slice a k cc, .slice aT nT kT, .slice aI nI kI, .slice aC nC kC] 25)).alloc (.cells #[.int .i64 0, .slice none 0 0, .slice none 0 0, .slice none 0 0, .slice none 0 0] 25)).cell? ⟨w.heap.size, 3, none⟩ = some (.slice aI nI kI) := by simp
  have k4 : ((w.alloc (.cells #[.int .i64 n, .slice a k cc, .slice aT nT kT, .slice aI nI kI, .slice aC nC kC] 25)).alloc (.cells #[.int .i64 0, .slice none 0 0, .slice none 0 0, .slice none 0 0, .slice none 0 0] 25)).cell? ⟨w.heap.size, 4, none⟩ = some (.slice aC nC kC) := by simp
  clear hf
  go_enter Try.func15, Try.ntmps15
  go_wp2_with fail
  generalize (w.alloc (.cells #[.int .i64 n, .slice a k cc, .slice aT nT kT, .slice aI nI kI, .slice aC nC kC] 25)).alloc (.cells #[.int .i64 0, .slice none 0 0, .slice none 0 0, .slice none 0 0, .slice none 0 0] 25) = W0 at *
  simp only [World.size_alloc] at hnew
  refine (c_l02Fits (w := W0) (n := n) (a := a) (k := k) (cc := cc) (vt := .slice aT nT kT) (vi := .slice aI nI kI) (vc := .slice aC nC kC) hk).mono ?_
  rintro e w1 ⟨rfl, b1⟩
  rw [show (decide (n ≤ 8) && decide (k ≤ 40)) = fitsB n k from rfl, HF.out]
  have R1 := hnew.call b1
  obtain ⟨-, x0, x1, x2, x3, x4, f0, f1, f2, f3, f4⟩ := R1.all
  replace k0 := upc b1 k0
  replace k1 := upc b1 k1
  replace k2 := upc b1 k2
  replace k3 := upc b1 k3
  replace k4 := upc b1 k4
  clear b1 hnew hz
  go_wp2_with fail
  refine bodyPost_ret (results_cell_row2 rfl _ _ (w.heap.size + 1) 25 #[_, _, _, _, _] (0, 0) _ (by rfl) (RS.five (w := w) R1 _ _ _ _ _) Try.underlying25 rfl (by kernel_rfl)) rfl ?_
  exact ⟨rfl, R1.five_bel _ _ _ _ _⟩
theorem monR_bad {t : List (List Int)} (h : ¬ Mon t) : monR t = (nilC, 1) := by
  unfold monR
  rw [if_neg]
  exact fun e => h (dB_s e)
end Go.Proofs.Ytllbjckbinolmaa
