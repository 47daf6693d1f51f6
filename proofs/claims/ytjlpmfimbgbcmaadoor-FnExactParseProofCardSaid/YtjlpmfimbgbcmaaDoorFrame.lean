/-
  What a law's argument that came in is, read out of the form's own reading.
-/
import Derived.Test.YtjlpmfimbgbcmaaDoorRows
import Derived.Test.YtjlpmfimbgbcmaaDoorBase
import Derived.ShutString
import Derived.ChangeOld
namespace Go.Proofs.YtjlpmfimbgbcmaaDoor
open Go.ChangeShapes Go.WideShapes Go.ChangeAt Go.RowKit

theorem ownKnobNone : ownKnob Tryd.prog.godebug = none := by kernel_rfl
theorem laidOutB_prog : laidOutB Tryd.prog = true := by kernel_rfl

/-- A slice of int64 that came in: if it is not long, it reads as a list. -/
def RawI (w : World) (v : Value) : Prop := ∃ (ao : Option Addr) (len cap : Nat), v = .slice ao len cap ∧ len ≤ 9223372036854775807 ∧ (len ≤ 1048576 → ∃ xs : List Int, xs.length = len ∧ IS w v xs)

theorem wf_I64 {n : Int} (h : (Lit.int .i64 n).wf = true) : I64 n := by
  have := by simpa [Lit.wf, IntKind.min, IntKind.max, IntKind.signed, IntKind.bits] using h
  exact this

theorem rawI_none {w : World} : RawI w (.slice none 0 0) :=
  ⟨none, 0, 0, rfl, by omega, fun _ => ⟨[], rfl, (Own.nil 0 w 0).is⟩⟩
theorem rawI_some {w : World} {x : Addr} {len cap : Nat} {zs : List Int} (h1 : len ≤ cap) (h2 : cap ≤ maxLen) (h3 : zs.length = cap)
    (h4 : ∀ i, i < zs.length → w.cell? (x.add i) = some (.int .i64 (zs.getD i 0))) (h5 : ∀ n ∈ zs, (Lit.int .i64 n).wf = true) : RawI w (.slice (some x) len cap) := by
  refine ⟨some x, len, cap, rfl, by unfold maxLen at h2; omega, fun hl => ⟨zs.take len, by simp; omega, ?_, fun n hn => wf_I64 (h5 n (List.mem_of_mem_take hn)), by simp; omega⟩⟩
  have hll : (zs.take len).length = len := by simp; omega
  by_cases hp : 0 < zs.length
  · obtain ⟨b, o, rfl, hc⟩ := ints_at h4 hp
    refine ⟨some ⟨b, o, none⟩, b, o, cap, by rw [hll], fun _ => rfl, fun i hi => ?_⟩
    rw [hc i (by omega)]
    have e : gi (zs.take len) i = zs.getD i 0 := by
      unfold gi
      rw [List.getD_eq_getElem?_getD, List.getD_eq_getElem?_getD, List.getElem?_take, if_pos (by omega)]
    rw [e]
  · exact ⟨some x, 0, 0, cap, by rw [hll], fun h => by omega, fun i h => by omega⟩
theorem cells_at {w : World} {a : Addr} {n : Nat} {V : Nat → Value} (h : ∀ i, i < n → w.cell? (a.add i) = some (V i)) (hn : 0 < n) : ∃ b o, a = ⟨b, o, none⟩ ∧ ∀ i, i < n → w.cell? ⟨b, o + i, none⟩ = some (V i) := by
  obtain ⟨b, o, s⟩ := a
  cases s with
  | none => exact ⟨b, o, rfl, fun i hi => by have := h i hi; by_cases e : i = 0 <;> simp_all [Addr.add]⟩
  | some s =>
    have := h 0 hn
    simp only [Addr.add, World.cell?] at this
    split at this
    · simp at this
    · cases this
section
variable {H : Type} {enc : TypeId × Value → H} {w : World} {base : Nat} {spare : Nat → Bool} {held : Bool}
theorem rawI_trod {W : World} {a : Option Addr} {len cap : Nat} {fuel : Nat} {x : DataW H × List MemPlace}
    (h : DataW.trod enc Tryd.prog W 0 (fun _ => true) held fuel 42 (Value.slice a len cap).cells.toList = some x) : RawI W (.slice a len cap) := by
  rcases open_ints Tryd.underlying42 Tryd.underlying2 (by kernel_rfl) h with ⟨hcs, _⟩ | ⟨x, l, c, zs, hcs, _, hl, hm, hz, _, hcell, hwz⟩
  · simp [Value.cells] at hcs
    obtain ⟨rfl, rfl, rfl⟩ := hcs
    exact rawI_none
  · simp [Value.cells] at hcs
    obtain ⟨rfl, rfl, rfl⟩ := hcs
    exact rawI_some hl hm (by simpa using hz) hcell hwz
end
end Go.Proofs.YtjlpmfimbgbcmaaDoor
