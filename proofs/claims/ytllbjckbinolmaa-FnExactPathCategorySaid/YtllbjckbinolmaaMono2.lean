/-
  The reference's MonoidCategory, l03Monoid, l03Made, l02Fits, and l35Whole, l35Monoid.
-/
import Derived.Test.YtllbjckbinolmaaMono
namespace Go.Proofs.Ytllbjckbinolmaa
open Go.RowKit

def MonRow (t : List (List Int)) (x : Nat) : Prop := ge t x 0 = x ∧ ge t 0 x = x ∧ ∀ y z, y < t.length → z < t.length → ge t (ge t x y).toNat z = ge t x (ge t y z).toNat
theorem mon_iff {t : List (List Int)} : Mon t ↔ 0 < t.length ∧ Sq t.length t ∧ ∀ x, x < t.length → MonRow t x :=
  ⟨fun M => ⟨M.pos, M.sq, fun x hx => ⟨(M.u x hx).1, (M.u x hx).2, fun y z hy hz => M.a x y z hx hy hz⟩⟩, fun h => ⟨h.1, h.2.1, fun x hx => ⟨(h.2.2 x hx).1, (h.2.2 x hx).2.1⟩, fun x y z hx hy hz => (h.2.2 x hx).2.2 y z hy hz⟩⟩
theorem c_l02Fits {w : World} {n : Int} {a : Option Addr} {k cc : Nat} {vt vi vc : Value} (hk : k ≤ 4294967296) : Calls Try.prog 31 #[.agg #[.int .i64 n, .slice a k cc, vt, vi, vc]] w (Ret w (.bool (decide (n ≤ 8) && decide (k ≤ 40)))) := by
  by_cases hn : n ≤ 8
  · have hnb : decide (n ≤ 8) = true := decide_eq_true hn
    clear hn
    go_enter Try.func31, Try.ntmps31
    go_wp2_with fail
    go_ret
    exact ⟨ret_b (by rw [hnb]; simp <;> omega), (bel_alloc (Below.refl _ _) _)⟩
  · have hnb : decide (n ≤ 8) = false := decide_eq_false hn
    clear hn
    go_enter Try.func31, Try.ntmps31
    go_wp2_with fail
    go_ret
    exact ⟨ret_b (by rw [hnb]; simp <;> omega), (bel_alloc (Below.refl _ _) _)⟩
/-- A category of the call's own made of t's length and rows, if t is not long. -/
def MonP (w w' : World) (u : Value) (t : List (List Int)) : Prop := ∃ aF kF aT nT kT aI nI kI aC nC kC, u = .agg #[.int .i64 1, .slice aF t.length kF, .slice aT nT kT, .slice aI nI kI, .slice aC nC kC] ∧ (t.length ≤ 1048576 ∧ pS (gr t) t.length ≤ 1099511627776 → OwnC w.heap.size w'.heap.size w' u (monC t))
theorem monP_of {w W : World} {t : List (List Int)} {aF aT aI aC : Option Addr} {kF nT kT nI kI nC kC : Nat} (hb : Below w.heap.size w W)
    (h : t.length ≤ 1048576 ∧ pS (gr t) t.length ≤ 1099511627776 → MkC w (monC t, 0) (.returned (.tuple #[.agg #[.int .i64 1, .slice aF t.length kF, .slice aT nT kT, .slice aI nI kI, .slice aC nC kC], .int .i64 0])) W) :
    Mk w (fun w' u => MonP w w' u t) (.returned (.agg #[.int .i64 1, .slice aF t.length kF, .slice aT nT kT, .slice aI nI kI, .slice aC nC kC])) W :=
  ⟨_, rfl, ⟨_, _, _, _, _, _, _, _, _, _, _, rfl, fun hl => (mkC_own (h hl)).1⟩, hb⟩
end Go.Proofs.Ytllbjckbinolmaa
