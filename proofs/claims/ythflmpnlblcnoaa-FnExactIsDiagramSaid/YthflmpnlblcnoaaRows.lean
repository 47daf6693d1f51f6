/-
  No cell of these rows narrows 'for every input' (looked for: loops, veiled, ifaces, maps, wideKeys, modest, calm, conditions, laid).
  DERIVED. THE GIVEN ROWS OF THIS SEAT. 6 by the template 'for every input the law returns true; each argument reads behind the call as it read before'; 0 by the template 'total and deterministic' (their statements: YthflmpnlblcnoaaTotals.lean).
  GIVEN WITH THE SEED: the statements are not yours to turn. If you find one false, say at which input.
  Laid BY PROGRAM, IN A SANDBOX (cutbox-rows.mjs): the forced cells as the released guide's own fill.sh prints them over the translation 8855c324cc45f7d0… (all of the seat's roots in one cut). By AI agents, Wed Nov 11 2026. No macro, syntax, notation, axiom, sorry.
-/
import Derived.Test.YthflmpnlblcnoaaChecked
import GoSem.Claim
import GoSem.ClaimJoined
import GoSem.ClaimMapViews
import Derived.JoinedTies
import Derived.KernelRfl
namespace Go.Proofs.Ythflmpnlblcnoaa
/- THE CELL 'sum', in the pinned program and in every row, IS THE sha256 OF THE DUMP (.gsa) THAT YthflmpnlblcnoaaProg.lean LOADS. Nothing in Lean hashes anything: it is a label: what it is worth is what the hold of that sum in a sandbox is worth. -/
noncomputable def Try.pinned : Pinned := { name := "ythflmpnlblcnoaa", sum := "8855c324cc45f7d057a0bde474a825bc05257c4685b9ca09d31a2a4098eb23af", checked := Try.checked }
namespace Rows
def none {H : Type} : Left H := { results := [], args := [] }

/-- 'laws.FnExactConstants': WHATEVER THE INPUT: true; the input reads as it did. -/
def fnExactConstantsSpec : ChangeSpec := { name := "fnExactConstants", fn := fun _ => fun
  | [] => { results := [.lit (.bool true)], args := [] }
  | _ => none }
def fnExactConstantsRow : OpenClaim := { program := "ythflmpnlblcnoaa", sum := "8855c324cc45f7d057a0bde474a825bc05257c4685b9ca09d31a2a4098eb23af", func := "loop.example/g01083/laws.FnExactConstants", spec := "fnExactConstants", apart := false }
def FnExactConstantsSaid : Prop := fnExactConstantsRow.holds Try.pinned (OpenSpec.ofChange fnExactConstantsSpec)

/-- ITS FALSE NEIGHBOUR: 'it returns false'. Refute it at one input. -/
def fnExactConstantsWrong : ChangeSpec := { name := "fnExactConstants", fn := fun _ => fun
  | [] => { results := [.lit (.bool false)], args := [] }
  | _ => none }
def FnExactConstantsWrongFalsely : Prop := fnExactConstantsRow.holds Try.pinned (OpenSpec.ofChange fnExactConstantsWrong)

/-- 'laws.FnExactIsMap': WHATEVER THE INPUT: true; the input reads as it did. -/
def fnExactIsMapSpec : ChangeSpec := { name := "fnExactIsMap", fn := fun _ => fun
  | [d1, d2] => { results := [.lit (.bool true)], args := [d1, d2] }
  | _ => none }
def fnExactIsMapRow : OpenClaim := { program := "ythflmpnlblcnoaa", sum := "8855c324cc45f7d057a0bde474a825bc05257c4685b9ca09d31a2a4098eb23af", func := "loop.example/g01083/laws.FnExactIsMap", spec := "fnExactIsMap", apart := false }
def FnExactIsMapSaid : Prop := fnExactIsMapRow.holds Try.pinned (OpenSpec.ofChange fnExactIsMapSpec)

/-- ITS FALSE NEIGHBOUR: 'it returns false'. Refute it at one input. -/
def fnExactIsMapWrong : ChangeSpec := { name := "fnExactIsMap", fn := fun _ => fun
  | [d1, d2] => { results := [.lit (.bool false)], args := [d1, d2] }
  | _ => none }
def FnExactIsMapWrongFalsely : Prop := fnExactIsMapRow.holds Try.pinned (OpenSpec.ofChange fnExactIsMapWrong)

/-- 'laws.FnExactIsPartition': WHATEVER THE INPUT: true; the input reads as it did. -/
def fnExactIsPartitionSpec : ChangeSpec := { name := "fnExactIsPartition", fn := fun _ => fun
  | [d] => { results := [.lit (.bool true)], args := [d] }
  | _ => none }
def fnExactIsPartitionRow : OpenClaim := { program := "ythflmpnlblcnoaa", sum := "8855c324cc45f7d057a0bde474a825bc05257c4685b9ca09d31a2a4098eb23af", func := "loop.example/g01083/laws.FnExactIsPartition", spec := "fnExactIsPartition", apart := false }
def FnExactIsPartitionSaid : Prop := fnExactIsPartitionRow.holds Try.pinned (OpenSpec.ofChange fnExactIsPartitionSpec)

/-- ITS FALSE NEIGHBOUR: 'it returns false'. Refute it at one input. -/
def fnExactIsPartitionWrong : ChangeSpec := { name := "fnExactIsPartition", fn := fun _ => fun
  | [d] => { results := [.lit (.bool false)], args := [d] }
  | _ => none }
def FnExactIsPartitionWrongFalsely : Prop := fnExactIsPartitionRow.holds Try.pinned (OpenSpec.ofChange fnExactIsPartitionWrong)

/-- 'laws.FnExactThenMaps': WHATEVER THE INPUT: true; the input reads as it did. -/
def fnExactThenMapsSpec : ChangeSpec := { name := "fnExactThenMaps", fn := fun _ => fun
  | [d1, d2, d3, d4] => { results := [.lit (.bool true)], args := [d1, d2, d3, d4] }
  | _ => none }
def fnExactThenMapsRow : OpenClaim := { program := "ythflmpnlblcnoaa", sum := "8855c324cc45f7d057a0bde474a825bc05257c4685b9ca09d31a2a4098eb23af", func := "loop.example/g01083/laws.FnExactThenMaps", spec := "fnExactThenMaps", apart := false }
def FnExactThenMapsSaid : Prop := fnExactThenMapsRow.holds Try.pinned (OpenSpec.ofChange fnExactThenMapsSpec)

/-- ITS FALSE NEIGHBOUR: 'it returns false'. Refute it at one input. -/
def fnExactThenMapsWrong : ChangeSpec := { name := "fnExactThenMaps", fn := fun _ => fun
  | [d1, d2, d3, d4] => { results := [.lit (.bool false)], args := [d1, d2, d3, d4] }
  | _ => none }
def FnExactThenMapsWrongFalsely : Prop := fnExactThenMapsRow.holds Try.pinned (OpenSpec.ofChange fnExactThenMapsWrong)

/-- 'laws.FnExactFibreOf': WHATEVER THE INPUT: true; the input reads as it did. -/
def fnExactFibreOfSpec : ChangeSpec := { name := "fnExactFibreOf", fn := fun _ => fun
  | [d1, d2, d3] => { results := [.lit (.bool true)], args := [d1, d2, d3] }
  | _ => none }
def fnExactFibreOfRow : OpenClaim := { program := "ythflmpnlblcnoaa", sum := "8855c324cc45f7d057a0bde474a825bc05257c4685b9ca09d31a2a4098eb23af", func := "loop.example/g01083/laws.FnExactFibreOf", spec := "fnExactFibreOf", apart := false }
def FnExactFibreOfSaid : Prop := fnExactFibreOfRow.holds Try.pinned (OpenSpec.ofChange fnExactFibreOfSpec)

/-- ITS FALSE NEIGHBOUR: 'it returns false'. Refute it at one input. -/
def fnExactFibreOfWrong : ChangeSpec := { name := "fnExactFibreOf", fn := fun _ => fun
  | [d1, d2, d3] => { results := [.lit (.bool false)], args := [d1, d2, d3] }
  | _ => none }
def FnExactFibreOfWrongFalsely : Prop := fnExactFibreOfRow.holds Try.pinned (OpenSpec.ofChange fnExactFibreOfWrong)

/-- 'laws.FnExactIsDiagram': WHATEVER THE INPUT: true; the input reads as it did. -/
def fnExactIsDiagramSpec : ChangeSpec := { name := "fnExactIsDiagram", fn := fun _ => fun
  | [d] => { results := [.lit (.bool true)], args := [d] }
  | _ => none }
def fnExactIsDiagramRow : OpenClaim := { program := "ythflmpnlblcnoaa", sum := "8855c324cc45f7d057a0bde474a825bc05257c4685b9ca09d31a2a4098eb23af", func := "loop.example/g01083/laws.FnExactIsDiagram", spec := "fnExactIsDiagram", apart := false }
def FnExactIsDiagramSaid : Prop := fnExactIsDiagramRow.holds Try.pinned (OpenSpec.ofChange fnExactIsDiagramSpec)

/-- ITS FALSE NEIGHBOUR: 'it returns false'. Refute it at one input. -/
def fnExactIsDiagramWrong : ChangeSpec := { name := "fnExactIsDiagram", fn := fun _ => fun
  | [d] => { results := [.lit (.bool false)], args := [d] }
  | _ => none }
def FnExactIsDiagramWrongFalsely : Prop := fnExactIsDiagramRow.holds Try.pinned (OpenSpec.ofChange fnExactIsDiagramWrong)

/- THE SECOND FORM. 'bulk': how many values and letters a reading holds, each counted each time it is reached (what is shared counts as often as it is met; a slice's spare places count too). A statement '..UptoSaid' is the law's where the arguments, and the package variables that the reading takes, are together of bulk at most 1048576: NARROWER than '..Said'. Prove '..Said' where nothing that the law and all that it calls make is longer than what came in: it says more and counts as full. Else prove '..UptoSaid'. A law counts once. -/
mutual
def uptoBulk {H : Type} : DataW H → Nat
  | .lit (.string bytes) => bytes.length + 1
  | .lit _ => 1
  | .nil => 1
  | .ptr d => uptoBulk d + 1
  | .slice elems spare => uptoBulkAll elems + uptoBulkAll spare + 1
  | .agg parts => uptoBulkAll parts + 1
  | .iface _ d => uptoBulk d + 1
  | .map entries => uptoBulkEntries entries + 1
  | .held _ => 1
def uptoBulkAll {H : Type} : List (DataW H) → Nat
  | [] => 0
  | d :: r => uptoBulk d + uptoBulkAll r
def uptoBulkEntries {H : Type} : List (Lit × DataW H) → Nat
  | [] => 0
  | x :: r => uptoBulkEntry x + uptoBulkEntries r
def uptoBulkEntry {H : Type} : Lit × DataW H → Nat
  | (.string bytes, d) => bytes.length + uptoBulk d + 1
  | (_, d) => uptoBulk d + 1
 end
def uptoSmall : (H : Type) → List (DataW H) → Bool := fun _ ds => decide (uptoBulkAll ds ≤ 1048576)
def OpenSpec.upto (s : _root_.Go.ChangeSpec) : _root_.Go.OpenSpec := { _root_.Go.OpenSpec.ofChange s with cond := some uptoSmall }

/-- 'laws.FnExactConstants', WHERE WHAT IT READS IS OF BULK AT MOST 1048576: true; the input reads as it did. -/
def fnExactConstantsUptoRow : OpenClaim := { program := "ythflmpnlblcnoaa", sum := "8855c324cc45f7d057a0bde474a825bc05257c4685b9ca09d31a2a4098eb23af", func := "loop.example/g01083/laws.FnExactConstants", spec := "fnExactConstants", apart := false, narrowed := true }
def FnExactConstantsUptoSaid : Prop := fnExactConstantsUptoRow.holds Try.pinned (OpenSpec.upto fnExactConstantsSpec)

/-- 'laws.FnExactIsMap', WHERE WHAT IT READS IS OF BULK AT MOST 1048576: true; the input reads as it did. -/
def fnExactIsMapUptoRow : OpenClaim := { program := "ythflmpnlblcnoaa", sum := "8855c324cc45f7d057a0bde474a825bc05257c4685b9ca09d31a2a4098eb23af", func := "loop.example/g01083/laws.FnExactIsMap", spec := "fnExactIsMap", apart := false, narrowed := true }
def FnExactIsMapUptoSaid : Prop := fnExactIsMapUptoRow.holds Try.pinned (OpenSpec.upto fnExactIsMapSpec)

/-- 'laws.FnExactIsPartition', WHERE WHAT IT READS IS OF BULK AT MOST 1048576: true; the input reads as it did. -/
def fnExactIsPartitionUptoRow : OpenClaim := { program := "ythflmpnlblcnoaa", sum := "8855c324cc45f7d057a0bde474a825bc05257c4685b9ca09d31a2a4098eb23af", func := "loop.example/g01083/laws.FnExactIsPartition", spec := "fnExactIsPartition", apart := false, narrowed := true }
def FnExactIsPartitionUptoSaid : Prop := fnExactIsPartitionUptoRow.holds Try.pinned (OpenSpec.upto fnExactIsPartitionSpec)

/-- 'laws.FnExactThenMaps', WHERE WHAT IT READS IS OF BULK AT MOST 1048576: true; the input reads as it did. -/
def fnExactThenMapsUptoRow : OpenClaim := { program := "ythflmpnlblcnoaa", sum := "8855c324cc45f7d057a0bde474a825bc05257c4685b9ca09d31a2a4098eb23af", func := "loop.example/g01083/laws.FnExactThenMaps", spec := "fnExactThenMaps", apart := false, narrowed := true }
def FnExactThenMapsUptoSaid : Prop := fnExactThenMapsUptoRow.holds Try.pinned (OpenSpec.upto fnExactThenMapsSpec)

/-- 'laws.FnExactFibreOf', WHERE WHAT IT READS IS OF BULK AT MOST 1048576: true; the input reads as it did. -/
def fnExactFibreOfUptoRow : OpenClaim := { program := "ythflmpnlblcnoaa", sum := "8855c324cc45f7d057a0bde474a825bc05257c4685b9ca09d31a2a4098eb23af", func := "loop.example/g01083/laws.FnExactFibreOf", spec := "fnExactFibreOf", apart := false, narrowed := true }
def FnExactFibreOfUptoSaid : Prop := fnExactFibreOfUptoRow.holds Try.pinned (OpenSpec.upto fnExactFibreOfSpec)

/-- 'laws.FnExactIsDiagram', WHERE WHAT IT READS IS OF BULK AT MOST 1048576: true; the input reads as it did. -/
def fnExactIsDiagramUptoRow : OpenClaim := { program := "ythflmpnlblcnoaa", sum := "8855c324cc45f7d057a0bde474a825bc05257c4685b9ca09d31a2a4098eb23af", func := "loop.example/g01083/laws.FnExactIsDiagram", spec := "fnExactIsDiagram", apart := false, narrowed := true }
def FnExactIsDiagramUptoSaid : Prop := fnExactIsDiagramUptoRow.holds Try.pinned (OpenSpec.upto fnExactIsDiagramSpec)

end Rows
end Go.Proofs.Ythflmpnlblcnoaa
