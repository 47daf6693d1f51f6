/-
  Slices of slices that came in: RawISS, the size guards szInt64S, szInt64SS, and the copies that the law makes.
-/
import Derived.Test.YtllbjckbinolmaaFrame
import Derived.Test.YtllbjckbinolmaaSS
import Derived.Deep.Matrix
namespace Go.Proofs.Ytllbjckbinolmaa
open Go.ChangeShapes Go.WideShapes Go.ChangeAt Go.RowKit Go.Deep

/-- A slice of slices of int64 that came in. -/
def RawISS (w : World) (v : Value) : Prop := ∃ (ao : Option Addr) (len cap b o : Nat) (V : Nat → Value), v = .slice ao len cap ∧ len ≤ 9223372036854775807 ∧ (0 < len → ao = some ⟨b, o, none⟩) ∧ (∀ i, i < len → w.cell? ⟨b, o + i, none⟩ = some (V i)) ∧ ∀ i, i < len → RawI w (V i)
section
variable {H : Type} {enc : TypeId × Value → H} {w : World} {base : Nat} {spare : Nat → Bool} {held : Bool}
theorem rawISS_trod {W : World} {a : Option Addr} {len cap : Nat} {fuel : Nat} {x : DataW H × List MemPlace}
    (h : DataW.trod enc Try.prog W 0 (fun _ => true) held fuel 23 (Value.slice a len cap).cells.toList = some x) : RawISS W (.slice a len cap) := by
  rcases open_int_rows Try.underlying23 Try.underlying22 Try.underlying2 (by kernel_rfl) (by kernel_rfl) h with ⟨hcs, _⟩ | ⟨x, l, c, A, L, C, Z, hcs, _, hl, hm, _, hr⟩
  · simp [Value.cells] at hcs
    obtain ⟨rfl, rfl, rfl⟩ := hcs
    exact ⟨none, 0, 0, 0, 0, fun _ => undef, rfl, by omega, fun h => by omega, fun i h => by omega, fun i h => by omega⟩
  · simp [Value.cells] at hcs
    obtain ⟨rfl, rfl, rfl⟩ := hcs
    have hrow : ∀ r, r < cap → RawI W (.slice (A r) (L r) (C r)) := by
      intro r hr0
      obtain ⟨_, h1, h2, h3, h4, h5, h6⟩ := hr r hr0
      cases hA : A r with
      | none =>
        have hc := h5 hA
        have hl0 : L r = 0 := by omega
        rw [hc, hl0]; exact rawI_none
      | some a' =>
        exact rawI_some h1 h2 h3 (fun i hi => (h6 a' hA).2 i (by rw [← h3]; exact hi)) h4
    have hml : len ≤ 9223372036854775807 := by unfold maxLen at hm; omega
    by_cases hp : 0 < len
    · obtain ⟨b, o, rfl, hc⟩ := cells_at (V := fun r => .slice (A r) (L r) (C r)) (fun r hr0 => (hr r hr0).1) (show 0 < cap by omega)
      exact ⟨_, len, cap, b, o, fun r => .slice (A r) (L r) (C r), rfl, hml, fun _ => rfl, fun i hi => hc i (by omega), fun i hi => hrow i (by omega)⟩
    · exact ⟨_, len, cap, 0, 0, fun _ => undef, rfl, hml, fun h => absurd h hp, fun i h => by omega, fun i h => by omega⟩
end
/-- A slice of slices that is not long. -/
structure BSS (w : World) (v : Value) (xss : List (List Int)) : Prop where
  is : ISS w v xss
  len : xss.length ≤ 1048576
  size : pS (gr xss) xss.length ≤ 1048576
theorem BSS.kept {w w' : World} {v : Value} {xss : List (List Int)} (h : BSS w v xss) (hb : Below w.heap.size w w') : BSS w' v xss := ⟨h.is.kept hb, h.len, h.size⟩
end Go.Proofs.Ytllbjckbinolmaa
