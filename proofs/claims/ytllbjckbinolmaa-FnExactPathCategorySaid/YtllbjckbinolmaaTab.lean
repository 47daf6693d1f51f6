/-
  Square tables of numbers and the tables of monoids: the program's isMonoid and the reference's tests.
-/
import Derived.Test.YtllbjckbinolmaaSz
import Derived.Test.YtllbjckbinolmaaSets1
namespace Go.Proofs.Ytllbjckbinolmaa
open Go.RowKit

/-- A proposition as a Bool. -/
noncomputable def dB (p : Prop) : Bool := @decide p (Classical.propDecidable _)
theorem dB_t {p : Prop} (h : p) : dB p = true := @decide_eq_true _ (Classical.propDecidable _) h
theorem dB_f {p : Prop} (h : ¬ p) : dB p = false := @decide_eq_false _ (Classical.propDecidable _) h
theorem dB_s {p : Prop} (h : dB p = true) : p := @of_decide_eq_true _ (Classical.propDecidable _) h
theorem dB_n {p : Prop} (h : ¬ dB p = true) : ¬ p := fun x => h (dB_t x)
theorem dB_congr {p q : Prop} (h : p ↔ q) : dB p = dB q := by rw [propext h]
/-- Entry i, j of a table. -/
def ge (t : List (List Int)) (i j : Nat) : Int := gi (gr t i) j
/-- The rows of t are as long as t is, and hold numbers below m. -/
def Sq (m : Int) (t : List (List Int)) : Prop := ∀ i, i < t.length → (gr t i).length = t.length ∧ allIn m (gr t i) = true
structure Mon (t : List (List Int)) : Prop where
  pos : 0 < t.length
  sq : Sq t.length t
  u : ∀ i, i < t.length → ge t i 0 = i ∧ ge t 0 i = i
  a : ∀ i j k, i < t.length → j < t.length → k < t.length → ge t (ge t i j).toNat k = ge t i (ge t j k).toNat
theorem allIn_gi {m : Int} {xs : List Int} (h : allIn m xs = true) {j : Nat} (hj : j < xs.length) : 0 ≤ gi xs j ∧ gi xs j < m := by
  have := List.all_eq_true.1 h _ (gi_mem hj)
  simpa using this
theorem Sq.ent {m : Int} {t : List (List Int)} (h : Sq m t) {i j : Nat} (hi : i < t.length) (hj : j < t.length) : 0 ≤ ge t i j ∧ ge t i j < m :=
  allIn_gi (h i hi).2 (by rw [(h i hi).1]; exact hj)
theorem rows_view {w : World} {R : Nat → Value} {t : List (List Int)} (hr : ∀ i, i < t.length → IS w (R i) (gr t i)) (hl : ∀ i, i < t.length → (gr t i).length = t.length) :
    ∃ bR oR kR : Nat → Nat, ∀ i, i < t.length → R i = .slice (some ⟨bR i, oR i, none⟩) t.length (kR i) ∧ ∀ j, j < t.length → w.cell? ⟨bR i, oR i + j, none⟩ = some (.int .i64 (ge t i j)) := by
  have H : ∀ i, ∃ b o k : Nat, i < t.length → (R i = .slice (some ⟨b, o, none⟩) t.length k ∧ ∀ j, j < t.length → w.cell? ⟨b, o + j, none⟩ = some (.int .i64 (ge t i j))) := by
    intro i
    by_cases hi : i < t.length
    · obtain ⟨a, b, o, k, hv, ha, hc⟩ := (hr i hi).ex
      have e := hl i hi
      rw [e] at hv ha hc
      exact ⟨b, o, k, fun _ => ⟨by rw [hv, ha (by omega)], hc⟩⟩
    · exact ⟨0, 0, 0, fun h => absurd h hi⟩
  exact ⟨fun i => (H i).choose, fun i => (H i).choose_spec.choose, fun i => (H i).choose_spec.choose_spec.choose, fun i hi => (H i).choose_spec.choose_spec.choose_spec hi⟩
end Go.Proofs.Ytllbjckbinolmaa
