/-
  No cell of these rows narrows 'for every input' (looked for: loops, veiled, ifaces, maps, wideKeys, modest, calm, conditions, laid).
  DERIVED. THE GIVEN ROWS OF THIS SEAT. 5 by the template 'for every input the law returns true; each argument reads behind the call as it read before'; 0 by the template 'total and deterministic' (their statements: YtgjinjenijjiiaaTotals.lean).
  GIVEN WITH THE SEED: the statements are not yours to turn. If you find one false, say at which input.
  Laid BY PROGRAM, IN A SANDBOX (cutbox-rows.mjs): the forced cells as the released guide's own fill.sh prints them over the translation 7b1670e8a3a695f7… (all of the seat's roots in one cut). By AI agents, Wed Nov 11 2026. No macro, syntax, notation, axiom, sorry.
-/
import Derived.Test.YtgjinjenijjiiaaChecked
import GoSem.Claim
import GoSem.ClaimJoined
import GoSem.ClaimMapViews
import Derived.JoinedTies
import Derived.KernelRfl
namespace Go.Proofs.Ytgjinjenijjiiaa
/- THE CELL 'sum', in the pinned program and in every row, IS THE sha256 OF THE DUMP (.gsa) THAT YtgjinjenijjiiaaProg.lean LOADS. Nothing in Lean hashes anything: it is a label: what it is worth is what the hold of that sum in a sandbox is worth. -/
noncomputable def Try.pinned : Pinned := { name := "ytgjinjenijjiiaa", sum := "7b1670e8a3a695f707074621ab9b6564e5c7f723a9f175fab32fc7ccdf415f7e", checked := Try.checked }
namespace Rows
def none {H : Type} : Left H := { results := [], args := [] }

/-- 'laws.FnExactMonoidCategory': WHATEVER THE INPUT: true; the input reads as it did. -/
def fnExactMonoidCategorySpec : ChangeSpec := { name := "fnExactMonoidCategory", fn := fun _ => fun
  | [d] => { results := [.lit (.bool true)], args := [d] }
  | _ => none }
def fnExactMonoidCategoryRow : OpenClaim := { program := "ytgjinjenijjiiaa", sum := "7b1670e8a3a695f707074621ab9b6564e5c7f723a9f175fab32fc7ccdf415f7e", func := "loop.example/g01083/laws.FnExactMonoidCategory", spec := "fnExactMonoidCategory", apart := false }
def FnExactMonoidCategorySaid : Prop := fnExactMonoidCategoryRow.holds Try.pinned (OpenSpec.ofChange fnExactMonoidCategorySpec)

/-- ITS FALSE NEIGHBOUR: 'it returns false'. Refute it at one input. -/
def fnExactMonoidCategoryWrong : ChangeSpec := { name := "fnExactMonoidCategory", fn := fun _ => fun
  | [d] => { results := [.lit (.bool false)], args := [d] }
  | _ => none }
def FnExactMonoidCategoryWrongFalsely : Prop := fnExactMonoidCategoryRow.holds Try.pinned (OpenSpec.ofChange fnExactMonoidCategoryWrong)

/-- 'laws.FnExactChainCategory': WHATEVER THE INPUT: true; the input reads as it did. -/
def fnExactChainCategorySpec : ChangeSpec := { name := "fnExactChainCategory", fn := fun _ => fun
  | [d] => { results := [.lit (.bool true)], args := [d] }
  | _ => none }
def fnExactChainCategoryRow : OpenClaim := { program := "ytgjinjenijjiiaa", sum := "7b1670e8a3a695f707074621ab9b6564e5c7f723a9f175fab32fc7ccdf415f7e", func := "loop.example/g01083/laws.FnExactChainCategory", spec := "fnExactChainCategory", unfollowed := true, recurses := true, apart := false }
def FnExactChainCategorySaid : Prop := fnExactChainCategoryRow.holds Try.pinned (OpenSpec.ofChange fnExactChainCategorySpec)

/-- ITS FALSE NEIGHBOUR: 'it returns false'. Refute it at one input. -/
def fnExactChainCategoryWrong : ChangeSpec := { name := "fnExactChainCategory", fn := fun _ => fun
  | [d] => { results := [.lit (.bool false)], args := [d] }
  | _ => none }
def FnExactChainCategoryWrongFalsely : Prop := fnExactChainCategoryRow.holds Try.pinned (OpenSpec.ofChange fnExactChainCategoryWrong)

/-- 'laws.FnExactPreorderCategory': WHATEVER THE INPUT: true; the input reads as it did. -/
def fnExactPreorderCategorySpec : ChangeSpec := { name := "fnExactPreorderCategory", fn := fun _ => fun
  | [d] => { results := [.lit (.bool true)], args := [d] }
  | _ => none }
def fnExactPreorderCategoryRow : OpenClaim := { program := "ytgjinjenijjiiaa", sum := "7b1670e8a3a695f707074621ab9b6564e5c7f723a9f175fab32fc7ccdf415f7e", func := "loop.example/g01083/laws.FnExactPreorderCategory", spec := "fnExactPreorderCategory", unfollowed := true, recurses := true, apart := false }
def FnExactPreorderCategorySaid : Prop := fnExactPreorderCategoryRow.holds Try.pinned (OpenSpec.ofChange fnExactPreorderCategorySpec)

/-- ITS FALSE NEIGHBOUR: 'it returns false'. Refute it at one input. -/
def fnExactPreorderCategoryWrong : ChangeSpec := { name := "fnExactPreorderCategory", fn := fun _ => fun
  | [d] => { results := [.lit (.bool false)], args := [d] }
  | _ => none }
def FnExactPreorderCategoryWrongFalsely : Prop := fnExactPreorderCategoryRow.holds Try.pinned (OpenSpec.ofChange fnExactPreorderCategoryWrong)

/-- 'laws.FnExactCommutativeMonoidal': WHATEVER THE INPUT: true; the input reads as it did. -/
def fnExactCommutativeMonoidalSpec : ChangeSpec := { name := "fnExactCommutativeMonoidal", fn := fun _ => fun
  | [d] => { results := [.lit (.bool true)], args := [d] }
  | _ => none }
def fnExactCommutativeMonoidalRow : OpenClaim := { program := "ytgjinjenijjiiaa", sum := "7b1670e8a3a695f707074621ab9b6564e5c7f723a9f175fab32fc7ccdf415f7e", func := "loop.example/g01083/laws.FnExactCommutativeMonoidal", spec := "fnExactCommutativeMonoidal", apart := false }
def FnExactCommutativeMonoidalSaid : Prop := fnExactCommutativeMonoidalRow.holds Try.pinned (OpenSpec.ofChange fnExactCommutativeMonoidalSpec)

/-- ITS FALSE NEIGHBOUR: 'it returns false'. Refute it at one input. -/
def fnExactCommutativeMonoidalWrong : ChangeSpec := { name := "fnExactCommutativeMonoidal", fn := fun _ => fun
  | [d] => { results := [.lit (.bool false)], args := [d] }
  | _ => none }
def FnExactCommutativeMonoidalWrongFalsely : Prop := fnExactCommutativeMonoidalRow.holds Try.pinned (OpenSpec.ofChange fnExactCommutativeMonoidalWrong)

/-- 'laws.FnExactDiscreteMonoidal': WHATEVER THE INPUT: true; the input reads as it did. -/
def fnExactDiscreteMonoidalSpec : ChangeSpec := { name := "fnExactDiscreteMonoidal", fn := fun _ => fun
  | [d] => { results := [.lit (.bool true)], args := [d] }
  | _ => none }
def fnExactDiscreteMonoidalRow : OpenClaim := { program := "ytgjinjenijjiiaa", sum := "7b1670e8a3a695f707074621ab9b6564e5c7f723a9f175fab32fc7ccdf415f7e", func := "loop.example/g01083/laws.FnExactDiscreteMonoidal", spec := "fnExactDiscreteMonoidal", unfollowed := true, recurses := true, apart := false }
def FnExactDiscreteMonoidalSaid : Prop := fnExactDiscreteMonoidalRow.holds Try.pinned (OpenSpec.ofChange fnExactDiscreteMonoidalSpec)

/-- ITS FALSE NEIGHBOUR: 'it returns false'. Refute it at one input. -/
def fnExactDiscreteMonoidalWrong : ChangeSpec := { name := "fnExactDiscreteMonoidal", fn := fun _ => fun
  | [d] => { results := [.lit (.bool false)], args := [d] }
  | _ => none }
def FnExactDiscreteMonoidalWrongFalsely : Prop := fnExactDiscreteMonoidalRow.holds Try.pinned (OpenSpec.ofChange fnExactDiscreteMonoidalWrong)

/- THE SECOND FORM. 'bulk': how many values and letters a reading holds, each counted each time it is reached (what is shared counts as often as it is met; a slice's spare places count too). A statement '..UptoSaid' is the law's where the arguments, and the package variables that the reading takes, are together of bulk at most 1048576: NARROWER than '..Said'. Prove '..Said' where nothing that the law and all that it calls make is longer than what came in: it says more and counts as full. Else prove '..UptoSaid'. A law counts once. -/
mutual
def uptoBulk {H : Type} : DataW H → Nat
  | .lit (.string bytes) => bytes.length + 1
  | .lit _ => 1
  | .nil => 1
  | .ptr d => uptoBulk d + 1
  | .slice elems spare => uptoBulkAll elems + uptoBulkAll spare + 1
  | .agg parts => uptoBulkAll parts + 1
  | .iface _ d => uptoBulk d + 1
  | .map entries => uptoBulkEntries entries + 1
  | .held _ => 1
def uptoBulkAll {H : Type} : List (DataW H) → Nat
  | [] => 0
  | d :: r => uptoBulk d + uptoBulkAll r
def uptoBulkEntries {H : Type} : List (Lit × DataW H) → Nat
  | [] => 0
  | x :: r => uptoBulkEntry x + uptoBulkEntries r
def uptoBulkEntry {H : Type} : Lit × DataW H → Nat
  | (.string bytes, d) => bytes.length + uptoBulk d + 1
  | (_, d) => uptoBulk d + 1
 end
def uptoSmall : (H : Type) → List (DataW H) → Bool := fun _ ds => decide (uptoBulkAll ds ≤ 1048576)
def OpenSpec.upto (s : _root_.Go.ChangeSpec) : _root_.Go.OpenSpec := { _root_.Go.OpenSpec.ofChange s with cond := some uptoSmall }

/-- 'laws.FnExactMonoidCategory', WHERE WHAT IT READS IS OF BULK AT MOST 1048576: true; the input reads as it did. -/
def fnExactMonoidCategoryUptoRow : OpenClaim := { program := "ytgjinjenijjiiaa", sum := "7b1670e8a3a695f707074621ab9b6564e5c7f723a9f175fab32fc7ccdf415f7e", func := "loop.example/g01083/laws.FnExactMonoidCategory", spec := "fnExactMonoidCategory", apart := false, narrowed := true }
def FnExactMonoidCategoryUptoSaid : Prop := fnExactMonoidCategoryUptoRow.holds Try.pinned (OpenSpec.upto fnExactMonoidCategorySpec)

/-- 'laws.FnExactChainCategory', WHERE WHAT IT READS IS OF BULK AT MOST 1048576: true; the input reads as it did. -/
def fnExactChainCategoryUptoRow : OpenClaim := { program := "ytgjinjenijjiiaa", sum := "7b1670e8a3a695f707074621ab9b6564e5c7f723a9f175fab32fc7ccdf415f7e", func := "loop.example/g01083/laws.FnExactChainCategory", spec := "fnExactChainCategory", unfollowed := true, recurses := true, apart := false, narrowed := true }
def FnExactChainCategoryUptoSaid : Prop := fnExactChainCategoryUptoRow.holds Try.pinned (OpenSpec.upto fnExactChainCategorySpec)

/-- 'laws.FnExactPreorderCategory', WHERE WHAT IT READS IS OF BULK AT MOST 1048576: true; the input reads as it did. -/
def fnExactPreorderCategoryUptoRow : OpenClaim := { program := "ytgjinjenijjiiaa", sum := "7b1670e8a3a695f707074621ab9b6564e5c7f723a9f175fab32fc7ccdf415f7e", func := "loop.example/g01083/laws.FnExactPreorderCategory", spec := "fnExactPreorderCategory", unfollowed := true, recurses := true, apart := false, narrowed := true }
def FnExactPreorderCategoryUptoSaid : Prop := fnExactPreorderCategoryUptoRow.holds Try.pinned (OpenSpec.upto fnExactPreorderCategorySpec)

/-- 'laws.FnExactCommutativeMonoidal', WHERE WHAT IT READS IS OF BULK AT MOST 1048576: true; the input reads as it did. -/
def fnExactCommutativeMonoidalUptoRow : OpenClaim := { program := "ytgjinjenijjiiaa", sum := "7b1670e8a3a695f707074621ab9b6564e5c7f723a9f175fab32fc7ccdf415f7e", func := "loop.example/g01083/laws.FnExactCommutativeMonoidal", spec := "fnExactCommutativeMonoidal", apart := false, narrowed := true }
def FnExactCommutativeMonoidalUptoSaid : Prop := fnExactCommutativeMonoidalUptoRow.holds Try.pinned (OpenSpec.upto fnExactCommutativeMonoidalSpec)

/-- 'laws.FnExactDiscreteMonoidal', WHERE WHAT IT READS IS OF BULK AT MOST 1048576: true; the input reads as it did. -/
def fnExactDiscreteMonoidalUptoRow : OpenClaim := { program := "ytgjinjenijjiiaa", sum := "7b1670e8a3a695f707074621ab9b6564e5c7f723a9f175fab32fc7ccdf415f7e", func := "loop.example/g01083/laws.FnExactDiscreteMonoidal", spec := "fnExactDiscreteMonoidal", unfollowed := true, recurses := true, apart := false, narrowed := true }
def FnExactDiscreteMonoidalUptoSaid : Prop := fnExactDiscreteMonoidalUptoRow.holds Try.pinned (OpenSpec.upto fnExactDiscreteMonoidalSpec)

end Rows
end Go.Proofs.Ytgjinjenijjiiaa
