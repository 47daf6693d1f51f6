/-
  Chapter 3: MonoidCategory of program and reference.
-/
import Derived.Test.YtllbjckbinolmaaRet
import Derived.Test.YtllbjckbinolmaaTab
import Derived.Deep.RegionHeld3
import Derived.Deep.RegionWith
namespace Go.Proofs.Ytllbjckbinolmaa
open Go.RowKit

def monC (t : List (List Int)) : Cat := ⟨1, zs t.length, zs t.length, [0], t⟩
noncomputable def monR (t : List (List Int)) : Cat × Int := if dB (Mon t) = true then (if t.length ≤ 40 then (monC t, 0) else (nilC, 3)) else (nilC, 1)
theorem pS_le_mul (D : Nat → List Int) (k : Nat) : ∀ n, (∀ i, i < n → (D i).length ≤ k) → pS D n ≤ n * k := by
  intro n
  induction n with
  | zero => intro _; simp [pS]
  | succ n ih =>
    intro h
    have h1 := ih (fun i hi => h i (by omega))
    have h2 := h n (by omega)
    simp only [pS, Nat.succ_mul]; omega
theorem mon_len {m : Int} {t : List (List Int)} (h : Sq m t) (hl : t.length ≤ 40) : t.length ≤ 1048576 ∧ pS (gr t) t.length ≤ 1099511627776 := by
  have h1 := pS_le_mul (gr t) t.length t.length (fun i hi => by rw [(h i hi).1]; exact Nat.le_refl _)
  have h2 : t.length * t.length ≤ 40 * 40 := Nat.mul_le_mul hl hl
  omega
end Go.Proofs.Ytllbjckbinolmaa
