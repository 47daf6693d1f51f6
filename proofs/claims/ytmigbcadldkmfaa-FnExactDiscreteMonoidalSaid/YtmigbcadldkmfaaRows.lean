/-
  No cell of these rows narrows 'for every input' (looked for: loops, veiled, ifaces, maps, wideKeys, modest, calm, conditions, laid).
  DERIVED. THE GIVEN ROWS OF THIS SEAT. 3 by the template 'for every input the law returns true; each argument reads behind the call as it read before'; 0 by the template 'total and deterministic' (their statements: YtmigbcadldkmfaaTotals.lean).
  GIVEN WITH THE SEED: the statements are not yours to turn. If you find one false, say at which input.
  Laid BY PROGRAM, IN A SANDBOX (cutbox-rows.mjs): the forced cells as the released guide's own fill.sh prints them over the translation 2de16055cc7288f0… (all of the seat's roots in one cut). By AI agents, Wed Nov 11 2026. No macro, syntax, notation, axiom, sorry.
-/
import Derived.Test.YtmigbcadldkmfaaChecked
import GoSem.Claim
import GoSem.ClaimJoined
import GoSem.ClaimMapViews
import Derived.JoinedTies
import Derived.KernelRfl
namespace Go.Proofs.Ytmigbcadldkmfaa
/- THE CELL 'sum', in the pinned program and in every row, IS THE sha256 OF THE DUMP (.gsa) THAT YtmigbcadldkmfaaProg.lean LOADS. Nothing in Lean hashes anything: it is a label: what it is worth is what the hold of that sum in a sandbox is worth. -/
noncomputable def Try.pinned : Pinned := { name := "ytmigbcadldkmfaa", sum := "2de16055cc7288f021bce4db5979f75899b69f97dcd3a205d88709bb5ae87edc", checked := Try.checked }
namespace Rows
def none {H : Type} : Left H := { results := [], args := [] }

/-- 'laws.FnExactChainCategory': WHATEVER THE INPUT: true; the input reads as it did. -/
def fnExactChainCategorySpec : ChangeSpec := { name := "fnExactChainCategory", fn := fun _ => fun
  | [d] => { results := [.lit (.bool true)], args := [d] }
  | _ => none }
def fnExactChainCategoryRow : OpenClaim := { program := "ytmigbcadldkmfaa", sum := "2de16055cc7288f021bce4db5979f75899b69f97dcd3a205d88709bb5ae87edc", func := "loop.example/g01083/laws.FnExactChainCategory", spec := "fnExactChainCategory", unfollowed := true, recurses := true, apart := false }
def FnExactChainCategorySaid : Prop := fnExactChainCategoryRow.holds Try.pinned (OpenSpec.ofChange fnExactChainCategorySpec)

/-- ITS FALSE NEIGHBOUR: 'it returns false'. Refute it at one input. -/
def fnExactChainCategoryWrong : ChangeSpec := { name := "fnExactChainCategory", fn := fun _ => fun
  | [d] => { results := [.lit (.bool false)], args := [d] }
  | _ => none }
def FnExactChainCategoryWrongFalsely : Prop := fnExactChainCategoryRow.holds Try.pinned (OpenSpec.ofChange fnExactChainCategoryWrong)

/-- 'laws.FnExactPreorderCategory': WHATEVER THE INPUT: true; the input reads as it did. -/
def fnExactPreorderCategorySpec : ChangeSpec := { name := "fnExactPreorderCategory", fn := fun _ => fun
  | [d] => { results := [.lit (.bool true)], args := [d] }
  | _ => none }
def fnExactPreorderCategoryRow : OpenClaim := { program := "ytmigbcadldkmfaa", sum := "2de16055cc7288f021bce4db5979f75899b69f97dcd3a205d88709bb5ae87edc", func := "loop.example/g01083/laws.FnExactPreorderCategory", spec := "fnExactPreorderCategory", unfollowed := true, recurses := true, apart := false }
def FnExactPreorderCategorySaid : Prop := fnExactPreorderCategoryRow.holds Try.pinned (OpenSpec.ofChange fnExactPreorderCategorySpec)

/-- ITS FALSE NEIGHBOUR: 'it returns false'. Refute it at one input. -/
def fnExactPreorderCategoryWrong : ChangeSpec := { name := "fnExactPreorderCategory", fn := fun _ => fun
  | [d] => { results := [.lit (.bool false)], args := [d] }
  | _ => none }
def FnExactPreorderCategoryWrongFalsely : Prop := fnExactPreorderCategoryRow.holds Try.pinned (OpenSpec.ofChange fnExactPreorderCategoryWrong)

/-- 'laws.FnExactDiscreteMonoidal': WHATEVER THE INPUT: true; the input reads as it did. -/
def fnExactDiscreteMonoidalSpec : ChangeSpec := { name := "fnExactDiscreteMonoidal", fn := fun _ => fun
  | [d] => { results := [.lit (.bool true)], args := [d] }
  | _ => none }
def fnExactDiscreteMonoidalRow : OpenClaim := { program := "ytmigbcadldkmfaa", sum := "2de16055cc7288f021bce4db5979f75899b69f97dcd3a205d88709bb5ae87edc", func := "loop.example/g01083/laws.FnExactDiscreteMonoidal", spec := "fnExactDiscreteMonoidal", unfollowed := true, recurses := true, apart := false }
def FnExactDiscreteMonoidalSaid : Prop := fnExactDiscreteMonoidalRow.holds Try.pinned (OpenSpec.ofChange fnExactDiscreteMonoidalSpec)

/-- ITS FALSE NEIGHBOUR: 'it returns false'. Refute it at one input. -/
def fnExactDiscreteMonoidalWrong : ChangeSpec := { name := "fnExactDiscreteMonoidal", fn := fun _ => fun
  | [d] => { results := [.lit (.bool false)], args := [d] }
  | _ => none }
def FnExactDiscreteMonoidalWrongFalsely : Prop := fnExactDiscreteMonoidalRow.holds Try.pinned (OpenSpec.ofChange fnExactDiscreteMonoidalWrong)

/- THE SECOND FORM. 'bulk': how many values and letters a reading holds, each counted each time it is reached (what is shared counts as often as it is met; a slice's spare places count too). A statement '..UptoSaid' is the law's where the arguments, and the package variables that the reading takes, are together of bulk at most 1048576: NARROWER than '..Said'. Prove '..Said' where nothing that the law and all that it calls make is longer than what came in: it says more and counts as full. Else prove '..UptoSaid'. A law counts once. -/
mutual
def uptoBulk {H : Type} : DataW H → Nat
  | .lit (.string bytes) => bytes.length + 1
  | .lit _ => 1
  | .nil => 1
  | .ptr d => uptoBulk d + 1
  | .slice elems spare => uptoBulkAll elems + uptoBulkAll spare + 1
  | .agg parts => uptoBulkAll parts + 1
  | .iface _ d => uptoBulk d + 1
  | .map entries => uptoBulkEntries entries + 1
  | .held _ => 1
def uptoBulkAll {H : Type} : List (DataW H) → Nat
  | [] => 0
  | d :: r => uptoBulk d + uptoBulkAll r
def uptoBulkEntries {H : Type} : List (Lit × DataW H) → Nat
  | [] => 0
  | x :: r => uptoBulkEntry x + uptoBulkEntries r
def uptoBulkEntry {H : Type} : Lit × DataW H → Nat
  | (.string bytes, d) => bytes.length + uptoBulk d + 1
  | (_, d) => uptoBulk d + 1
 end
def uptoSmall : (H : Type) → List (DataW H) → Bool := fun _ ds => decide (uptoBulkAll ds ≤ 1048576)
def OpenSpec.upto (s : _root_.Go.ChangeSpec) : _root_.Go.OpenSpec := { _root_.Go.OpenSpec.ofChange s with cond := some uptoSmall }

/-- 'laws.FnExactChainCategory', WHERE WHAT IT READS IS OF BULK AT MOST 1048576: true; the input reads as it did. -/
def fnExactChainCategoryUptoRow : OpenClaim := { program := "ytmigbcadldkmfaa", sum := "2de16055cc7288f021bce4db5979f75899b69f97dcd3a205d88709bb5ae87edc", func := "loop.example/g01083/laws.FnExactChainCategory", spec := "fnExactChainCategory", unfollowed := true, recurses := true, apart := false, narrowed := true }
def FnExactChainCategoryUptoSaid : Prop := fnExactChainCategoryUptoRow.holds Try.pinned (OpenSpec.upto fnExactChainCategorySpec)

/-- 'laws.FnExactPreorderCategory', WHERE WHAT IT READS IS OF BULK AT MOST 1048576: true; the input reads as it did. -/
def fnExactPreorderCategoryUptoRow : OpenClaim := { program := "ytmigbcadldkmfaa", sum := "2de16055cc7288f021bce4db5979f75899b69f97dcd3a205d88709bb5ae87edc", func := "loop.example/g01083/laws.FnExactPreorderCategory", spec := "fnExactPreorderCategory", unfollowed := true, recurses := true, apart := false, narrowed := true }
def FnExactPreorderCategoryUptoSaid : Prop := fnExactPreorderCategoryUptoRow.holds Try.pinned (OpenSpec.upto fnExactPreorderCategorySpec)

/-- 'laws.FnExactDiscreteMonoidal', WHERE WHAT IT READS IS OF BULK AT MOST 1048576: true; the input reads as it did. -/
def fnExactDiscreteMonoidalUptoRow : OpenClaim := { program := "ytmigbcadldkmfaa", sum := "2de16055cc7288f021bce4db5979f75899b69f97dcd3a205d88709bb5ae87edc", func := "loop.example/g01083/laws.FnExactDiscreteMonoidal", spec := "fnExactDiscreteMonoidal", unfollowed := true, recurses := true, apart := false, narrowed := true }
def FnExactDiscreteMonoidalUptoSaid : Prop := fnExactDiscreteMonoidalUptoRow.holds Try.pinned (OpenSpec.upto fnExactDiscreteMonoidalSpec)

end Rows
end Go.Proofs.Ytmigbcadldkmfaa
