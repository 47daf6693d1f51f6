/-
  The place of a pair in a list of pairs: slices.Index, index, and the composite of a preorder's category.
-/
import Derived.Test.YtllbjckbinolmaaTable
import Derived.Test.YtllbjckbinolmaaPos
namespace Go.Proofs.Ytllbjckbinolmaa
open Go.RowKit

/-- v reads as a list of pairs. -/
def IPS (w : World) (v : Value) (P : List (Int × Int)) : Prop :=
  ∃ (ao : Option Addr) (b o c : Nat), v = .slice ao P.length c ∧ (0 < P.length → ao = some ⟨b, o, none⟩) ∧ ∀ i, i < P.length → w.cell? ⟨b, o + i * 2, none⟩ = some (.int .i64 (gp P i).1) ∧ w.cell? ⟨b, o + i * 2 + 1, none⟩ = some (.int .i64 (gp P i).2)
theorem IPS.kept {w w' : World} {v : Value} {P : List (Int × Int)} (h : IPS w v P) (hb : Below w.heap.size w w') : IPS w' v P := by
  obtain ⟨ao, b, o, c, rfl, ha, hc⟩ := h
  exact ⟨ao, b, o, c, rfl, ha, fun i hi => ⟨upc hb (hc i hi).1, upc hb (hc i hi).2⟩⟩
theorem flP_get : ∀ (P : List (Int × Int)) {i : Nat}, i < P.length → (flP P)[i * 2]? = some (.int .i64 (gp P i).1) ∧ (flP P)[i * 2 + 1]? = some (.int .i64 (gp P i).2)
  | [], i, h => by simp at h
  | x :: P, 0, _ => by simp [flP, gp]
  | x :: P, i + 1, h => by
    have := flP_get P (i := i) (by simpa using h)
    have e : gp (x :: P) (i + 1) = gp P i := by simp [gp]
    rw [e]
    have e2 : flP (x :: P) = .int .i64 x.1 :: .int .i64 x.2 :: flP P := rfl
    rw [e2, show (i + 1) * 2 = i * 2 + 2 by omega]
    exact this
theorem OwnP.is {E : TypeId} {w : World} {B : Nat} {v : Value} {P : List (Int × Int)} (h : OwnP E w B v P) : IPS w v P := by
  have h0 := h
  rcases h.2 with ⟨rfl, hn⟩ | ⟨g, cap, cur, rfl, hB, hg, hn, hc, hs, ht⟩
  · exact ⟨none, 0, 0, 0, by rw [hn], fun h => by omega, fun i hi => by omega⟩
  · refine ⟨some ⟨g, 0, none⟩, g, 0, cap, rfl, fun _ => rfl, fun i hi => ?_⟩
    have h1 := flP_get P hi
    have hl := flP_length P
    have e1 := World.ownsRow.cellAt h0 (i * 2) (by omega)
    have e2 := World.ownsRow.cellAt h0 (i * 2 + 1) (by omega)
    rw [Nat.zero_add]
    exact ⟨e1.trans h1.1, e2.trans h1.2⟩
end Go.Proofs.Ytllbjckbinolmaa
