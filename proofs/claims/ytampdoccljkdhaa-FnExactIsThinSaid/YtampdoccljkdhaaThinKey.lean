/-
  The keys of a map from pairs of objects: what they read as.
-/
import Derived.Test.YtampdoccljkdhaaLawLib
import Derived.DeepKeys4
import Derived.Maps.Keyed
namespace Go.Proofs.Ytampdoccljkdhaa
open Go.RowKit Go.Maps

theorem laidOutT : laidOutB Try.prog = true := by kernel_rfl
theorem rowEnds : (81 : TypeId) < Try.prog.types.size := of_decide_eq_true (by kernel_rfl)
theorem wideEnds : (match Try.prog.underlying 81 with | some (.array _ _) | some (.struct _) => true | _ => false) = true := by rw [Try.underlying81]
theorem keyedEnds : Keyed Try.prog 81 := Keyed.of_law (deep_law_laid laidOutT (m := 2) (by omega) rowEnds (by kernel_rfl) wideEnds)
theorem keyE {a b : Int} (ha : (Lit.int .i64 a).wf = true) (hb : (Lit.int .i64 b).wf = true) : keyOf Try.prog 81 (.agg #[.int .i64 a, .int .i64 b]) = some (.string (keyBytes [.int .i64 a, .int .i64 b])) := by
  have hk : Try.prog.keyType 81 = true := by kernel_rfl
  have hc : Try.prog.cellsOf 81 = 2 := by kernel_rfl
  have hc2 : Try.prog.cellsOf 2 = 1 := by kernel_rfl
  have hf : (Value.agg #[.int .i64 a, .int .i64 b]).formed Try.prog 81 = true := by kernel_rfl
  unfold keyOf
  rw [Try.underlying81]
  simp only [hk, hf, Bool.and_self, if_true]
  have hl : ∀ n, Try.prog.keyLits (n + 2) 81 (Value.agg #[.int .i64 a, .int .i64 b]).cells.toList = some [.int .i64 a, .int .i64 b] := by
    intro n
    simp [Program.keyLits, Try.underlying81, Try.underlying2, hc, hc2, Value.cells, ha, hb]
  have hn : ∃ n, Try.prog.types.size + 1 = n + 2 := ⟨Try.prog.types.size - 1, by have h : (81 : Nat) < Try.prog.types.size := rowEnds; omega⟩
  obtain ⟨n, hn⟩ := hn
  rw [hn, hl n]
  rfl
theorem keyE_inj {a b a' b' : Int} (ha : (Lit.int .i64 a).wf = true) (hb : (Lit.int .i64 b).wf = true) (ha' : (Lit.int .i64 a').wf = true) (hb' : (Lit.int .i64 b').wf = true)
    (h : Lit.string (keyBytes [.int .i64 a, .int .i64 b]) = .string (keyBytes [.int .i64 a', .int .i64 b'])) : a = a' ∧ b = b' := by
  have h1 := keyE ha hb
  have h2 := keyE ha' hb'
  rw [h] at h1
  have := keyedEnds.inj h1 h2
  simp at this
  exact this
end Go.Proofs.Ytampdoccljkdhaa
