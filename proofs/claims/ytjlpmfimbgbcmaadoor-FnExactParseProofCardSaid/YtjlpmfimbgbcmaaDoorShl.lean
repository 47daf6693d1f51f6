/-
  The library's contracts that ParseProof leans on, laid at this program.
-/
import Derived.Test.YtjlpmfimbgbcmaaDoorSep
import Derived.Test.YtjlpmfimbgbcmaaDoorSpl
import Derived.Shelf.Strings.Split
import Derived.Shelf.Lay
import Derived.Ground.NamesProg
namespace Go.Proofs.YtjlpmfimbgbcmaaDoor
open Go.RowKit Go.Shelf
shelf_lay Lays.n143 Nm 143 at Tryd as lays143
shelf_lay Lays.n146 Nm 146 at Tryd as lays146
theorem c_Index (s : ByteArray) (c : UInt8) (w : World) : Calls Tryd.prog 76 #[.string s, .string ⟨#[c]⟩] w (fun e w' => e = .returned (.int .i64 (Lib.indexB s ⟨#[c]⟩)) ∧ w' = w) := by
  refine (Any.strings_Index_one lays143 s c w).mono fun e w' ⟨he, hw⟩ => ⟨?_, hw⟩
  rw [he, indexB_one, ← Lib.index_one]
end Go.Proofs.YtjlpmfimbgbcmaaDoor
