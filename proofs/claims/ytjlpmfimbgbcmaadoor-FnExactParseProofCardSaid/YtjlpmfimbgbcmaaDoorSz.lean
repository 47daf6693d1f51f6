/-
  Slices of slices that came in: RawISS, the size guards szInt64S, szInt64SS, and the copies that the law makes.
-/
import Derived.Test.YtjlpmfimbgbcmaaDoorFrame
import Derived.Test.YtjlpmfimbgbcmaaDoorSS
import Derived.Deep.Matrix
namespace Go.Proofs.YtjlpmfimbgbcmaaDoor
open Go.ChangeShapes Go.WideShapes Go.ChangeAt Go.RowKit Go.Deep

/-- A slice of slices of int64 that came in. -/
def RawISS (w : World) (v : Value) : Prop := ∃ (ao : Option Addr) (len cap b o : Nat) (V : Nat → Value), v = .slice ao len cap ∧ len ≤ 9223372036854775807 ∧ (0 < len → ao = some ⟨b, o, none⟩) ∧ (∀ i, i < len → w.cell? ⟨b, o + i, none⟩ = some (V i)) ∧ ∀ i, i < len → RawI w (V i)
/-- A slice of slices that is not long. -/
structure BSS (w : World) (v : Value) (xss : List (List Int)) : Prop where
  is : ISS w v xss
  len : xss.length ≤ 1048576
  size : pS (gr xss) xss.length ≤ 1048576
theorem BSS.kept {w w' : World} {v : Value} {xss : List (List Int)} (h : BSS w v xss) (hb : Below w.heap.size w w') : BSS w' v xss := ⟨h.is.kept hb, h.len, h.size⟩
theorem c_szInt64S {w0 w : World} {v : Value} (h : RawI w0 v) (left : Int) (h0 : 0 ≤ left) (h1 : left ≤ 1048576) :
    Calls Tryd.prog 42 #[v, .int .i64 left] w (fun e w' => ∃ k, e = .returned (.int .i64 k) ∧ Drawn w w' ∧ (k < 0 ∨ (0 ≤ k ∧ k ≤ left ∧ ∃ xs : List Int, IS w0 v xs ∧ xs.length + k = left))) := by
  obtain ⟨ao, len, cap, rfl, hl, hx⟩ := h
  have HX := Lib.hid hx
  clear hx
  have hw : IntKind.i64.wrap (left - (len : Int)) = left - (len : Int) := IntWalk.i64_in _ (by omega)
  by_cases h : left < len
  · have hb : decide (left - (len : Int) < 0) = true := by simp; omega
    go_enter Tryd.func42, Tryd.ntmps42
    go_wp2_with fail
    go_ret
    exact ⟨-1, rfl, (by repeat (first | exact Drawn.refl _ | refine Drawn.step ?_ _ | refine Drawn.one ?_)), .inl (by omega)⟩
  · have hb : decide (left - (len : Int) < 0) = false := by simp; omega
    go_enter Tryd.func42, Tryd.ntmps42
    go_wp2_with fail
    go_ret
    refine ⟨left - len, rfl, (by repeat (first | exact Drawn.refl _ | refine Drawn.step ?_ _ | refine Drawn.one ?_)), .inr ⟨by omega, by omega, ?_⟩⟩
    obtain ⟨xs, e, hi⟩ := HX.out (by omega)
    exact ⟨xs, hi, by omega⟩
end Go.Proofs.YtjlpmfimbgbcmaaDoor
