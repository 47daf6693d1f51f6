/-
  No cell of these rows narrows 'for every input' (looked for: loops, veiled, ifaces, maps, wideKeys, modest, calm, conditions, laid).
  DERIVED. THE GIVEN ROWS OF THIS SEAT. 10 by the template 'for every input the law returns true; each argument reads behind the call as it read before'; 0 by the template 'total and deterministic' (their statements: YtkionnomddogfaaTotals.lean).
  GIVEN WITH THE SEED: the statements are not yours to turn. If you find one false, say at which input.
  Laid BY PROGRAM, IN A SANDBOX (cutbox-rows.mjs): the forced cells as the released guide's own fill.sh prints them over the translation 64c735b2ee5d34ab… (all of the seat's roots in one cut). By AI agents, Wed Nov 11 2026. No macro, syntax, notation, axiom, sorry.
-/
import Derived.Test.YtkionnomddogfaaChecked
import GoSem.Claim
import GoSem.ClaimJoined
import GoSem.ClaimMapViews
import Derived.JoinedTies
import Derived.KernelRfl
namespace Go.Proofs.Ytkionnomddogfaa
/- THE CELL 'sum', in the pinned program and in every row, IS THE sha256 OF THE DUMP (.gsa) THAT YtkionnomddogfaaProg.lean LOADS. Nothing in Lean hashes anything: it is a label: what it is worth is what the hold of that sum in a sandbox is worth. -/
noncomputable def Try.pinned : Pinned := { name := "ytkionnomddogfaa", sum := "64c735b2ee5d34abf2bc93bc8135e6edbdc5409605a62f492352651635321ad4", checked := Try.checked }
namespace Rows
def none {H : Type} : Left H := { results := [], args := [] }

/-- 'laws.FnExactTupleNumber': WHATEVER THE INPUT: true; the input reads as it did. -/
def fnExactTupleNumberSpec : ChangeSpec := { name := "fnExactTupleNumber", fn := fun _ => fun
  | [d1, d2] => { results := [.lit (.bool true)], args := [d1, d2] }
  | _ => none }
def fnExactTupleNumberRow : OpenClaim := { program := "ytkionnomddogfaa", sum := "64c735b2ee5d34abf2bc93bc8135e6edbdc5409605a62f492352651635321ad4", func := "loop.example/g01083/laws.FnExactTupleNumber", spec := "fnExactTupleNumber", apart := false }
def FnExactTupleNumberSaid : Prop := fnExactTupleNumberRow.holds Try.pinned (OpenSpec.ofChange fnExactTupleNumberSpec)

/-- ITS FALSE NEIGHBOUR: 'it returns false'. Refute it at one input. -/
def fnExactTupleNumberWrong : ChangeSpec := { name := "fnExactTupleNumber", fn := fun _ => fun
  | [d1, d2] => { results := [.lit (.bool false)], args := [d1, d2] }
  | _ => none }
def FnExactTupleNumberWrongFalsely : Prop := fnExactTupleNumberRow.holds Try.pinned (OpenSpec.ofChange fnExactTupleNumberWrong)

/-- 'laws.FnExactMeetPartitions': WHATEVER THE INPUT: true; the input reads as it did. -/
def fnExactMeetPartitionsSpec : ChangeSpec := { name := "fnExactMeetPartitions", fn := fun _ => fun
  | [d1, d2] => { results := [.lit (.bool true)], args := [d1, d2] }
  | _ => none }
def fnExactMeetPartitionsRow : OpenClaim := { program := "ytkionnomddogfaa", sum := "64c735b2ee5d34abf2bc93bc8135e6edbdc5409605a62f492352651635321ad4", func := "loop.example/g01083/laws.FnExactMeetPartitions", spec := "fnExactMeetPartitions", apart := false }
def FnExactMeetPartitionsSaid : Prop := fnExactMeetPartitionsRow.holds Try.pinned (OpenSpec.ofChange fnExactMeetPartitionsSpec)

/-- ITS FALSE NEIGHBOUR: 'it returns false'. Refute it at one input. -/
def fnExactMeetPartitionsWrong : ChangeSpec := { name := "fnExactMeetPartitions", fn := fun _ => fun
  | [d1, d2] => { results := [.lit (.bool false)], args := [d1, d2] }
  | _ => none }
def FnExactMeetPartitionsWrongFalsely : Prop := fnExactMeetPartitionsRow.holds Try.pinned (OpenSpec.ofChange fnExactMeetPartitionsWrong)

/-- 'laws.FnExactEqualizerOf': WHATEVER THE INPUT: true; the input reads as it did. -/
def fnExactEqualizerOfSpec : ChangeSpec := { name := "fnExactEqualizerOf", fn := fun _ => fun
  | [d1, d2, d3] => { results := [.lit (.bool true)], args := [d1, d2, d3] }
  | _ => none }
def fnExactEqualizerOfRow : OpenClaim := { program := "ytkionnomddogfaa", sum := "64c735b2ee5d34abf2bc93bc8135e6edbdc5409605a62f492352651635321ad4", func := "loop.example/g01083/laws.FnExactEqualizerOf", spec := "fnExactEqualizerOf", apart := false }
def FnExactEqualizerOfSaid : Prop := fnExactEqualizerOfRow.holds Try.pinned (OpenSpec.ofChange fnExactEqualizerOfSpec)

/-- ITS FALSE NEIGHBOUR: 'it returns false'. Refute it at one input. -/
def fnExactEqualizerOfWrong : ChangeSpec := { name := "fnExactEqualizerOf", fn := fun _ => fun
  | [d1, d2, d3] => { results := [.lit (.bool false)], args := [d1, d2, d3] }
  | _ => none }
def FnExactEqualizerOfWrongFalsely : Prop := fnExactEqualizerOfRow.holds Try.pinned (OpenSpec.ofChange fnExactEqualizerOfWrong)

/-- 'laws.FnExactTupleAt': WHATEVER THE INPUT: true; the input reads as it did. -/
def fnExactTupleAtSpec : ChangeSpec := { name := "fnExactTupleAt", fn := fun _ => fun
  | [d1, d2] => { results := [.lit (.bool true)], args := [d1, d2] }
  | _ => none }
def fnExactTupleAtRow : OpenClaim := { program := "ytkionnomddogfaa", sum := "64c735b2ee5d34abf2bc93bc8135e6edbdc5409605a62f492352651635321ad4", func := "loop.example/g01083/laws.FnExactTupleAt", spec := "fnExactTupleAt", apart := false }
def FnExactTupleAtSaid : Prop := fnExactTupleAtRow.holds Try.pinned (OpenSpec.ofChange fnExactTupleAtSpec)

/-- ITS FALSE NEIGHBOUR: 'it returns false'. Refute it at one input. -/
def fnExactTupleAtWrong : ChangeSpec := { name := "fnExactTupleAt", fn := fun _ => fun
  | [d1, d2] => { results := [.lit (.bool false)], args := [d1, d2] }
  | _ => none }
def FnExactTupleAtWrongFalsely : Prop := fnExactTupleAtRow.holds Try.pinned (OpenSpec.ofChange fnExactTupleAtWrong)

/-- 'laws.FnExactKernelOf': WHATEVER THE INPUT: true; the input reads as it did. -/
def fnExactKernelOfSpec : ChangeSpec := { name := "fnExactKernelOf", fn := fun _ => fun
  | [d1, d2] => { results := [.lit (.bool true)], args := [d1, d2] }
  | _ => none }
def fnExactKernelOfRow : OpenClaim := { program := "ytkionnomddogfaa", sum := "64c735b2ee5d34abf2bc93bc8135e6edbdc5409605a62f492352651635321ad4", func := "loop.example/g01083/laws.FnExactKernelOf", spec := "fnExactKernelOf", apart := false }
def FnExactKernelOfSaid : Prop := fnExactKernelOfRow.holds Try.pinned (OpenSpec.ofChange fnExactKernelOfSpec)

/-- ITS FALSE NEIGHBOUR: 'it returns false'. Refute it at one input. -/
def fnExactKernelOfWrong : ChangeSpec := { name := "fnExactKernelOf", fn := fun _ => fun
  | [d1, d2] => { results := [.lit (.bool false)], args := [d1, d2] }
  | _ => none }
def FnExactKernelOfWrongFalsely : Prop := fnExactKernelOfRow.holds Try.pinned (OpenSpec.ofChange fnExactKernelOfWrong)

/-- 'laws.FnExactPullbackOf': WHATEVER THE INPUT: true; the input reads as it did. -/
def fnExactPullbackOfSpec : ChangeSpec := { name := "fnExactPullbackOf", fn := fun _ => fun
  | [d1, d2, d3] => { results := [.lit (.bool true)], args := [d1, d2, d3] }
  | _ => none }
def fnExactPullbackOfRow : OpenClaim := { program := "ytkionnomddogfaa", sum := "64c735b2ee5d34abf2bc93bc8135e6edbdc5409605a62f492352651635321ad4", func := "loop.example/g01083/laws.FnExactPullbackOf", spec := "fnExactPullbackOf", apart := false }
def FnExactPullbackOfSaid : Prop := fnExactPullbackOfRow.holds Try.pinned (OpenSpec.ofChange fnExactPullbackOfSpec)

/-- ITS FALSE NEIGHBOUR: 'it returns false'. Refute it at one input. -/
def fnExactPullbackOfWrong : ChangeSpec := { name := "fnExactPullbackOf", fn := fun _ => fun
  | [d1, d2, d3] => { results := [.lit (.bool false)], args := [d1, d2, d3] }
  | _ => none }
def FnExactPullbackOfWrongFalsely : Prop := fnExactPullbackOfRow.holds Try.pinned (OpenSpec.ofChange fnExactPullbackOfWrong)

/-- 'laws.FnExactPushoutOf': WHATEVER THE INPUT: true; the input reads as it did. -/
def fnExactPushoutOfSpec : ChangeSpec := { name := "fnExactPushoutOf", fn := fun _ => fun
  | [d1, d2, d3, d4] => { results := [.lit (.bool true)], args := [d1, d2, d3, d4] }
  | _ => none }
def fnExactPushoutOfRow : OpenClaim := { program := "ytkionnomddogfaa", sum := "64c735b2ee5d34abf2bc93bc8135e6edbdc5409605a62f492352651635321ad4", func := "loop.example/g01083/laws.FnExactPushoutOf", spec := "fnExactPushoutOf", apart := false }
def FnExactPushoutOfSaid : Prop := fnExactPushoutOfRow.holds Try.pinned (OpenSpec.ofChange fnExactPushoutOfSpec)

/-- ITS FALSE NEIGHBOUR: 'it returns false'. Refute it at one input. -/
def fnExactPushoutOfWrong : ChangeSpec := { name := "fnExactPushoutOf", fn := fun _ => fun
  | [d1, d2, d3, d4] => { results := [.lit (.bool false)], args := [d1, d2, d3, d4] }
  | _ => none }
def FnExactPushoutOfWrongFalsely : Prop := fnExactPushoutOfRow.holds Try.pinned (OpenSpec.ofChange fnExactPushoutOfWrong)

/-- 'laws.FnExactJoinPartitions': WHATEVER THE INPUT: true; the input reads as it did. -/
def fnExactJoinPartitionsSpec : ChangeSpec := { name := "fnExactJoinPartitions", fn := fun _ => fun
  | [d1, d2] => { results := [.lit (.bool true)], args := [d1, d2] }
  | _ => none }
def fnExactJoinPartitionsRow : OpenClaim := { program := "ytkionnomddogfaa", sum := "64c735b2ee5d34abf2bc93bc8135e6edbdc5409605a62f492352651635321ad4", func := "loop.example/g01083/laws.FnExactJoinPartitions", spec := "fnExactJoinPartitions", apart := false }
def FnExactJoinPartitionsSaid : Prop := fnExactJoinPartitionsRow.holds Try.pinned (OpenSpec.ofChange fnExactJoinPartitionsSpec)

/-- ITS FALSE NEIGHBOUR: 'it returns false'. Refute it at one input. -/
def fnExactJoinPartitionsWrong : ChangeSpec := { name := "fnExactJoinPartitions", fn := fun _ => fun
  | [d1, d2] => { results := [.lit (.bool false)], args := [d1, d2] }
  | _ => none }
def FnExactJoinPartitionsWrongFalsely : Prop := fnExactJoinPartitionsRow.holds Try.pinned (OpenSpec.ofChange fnExactJoinPartitionsWrong)

/-- 'laws.FnExactCoequalizerOf': WHATEVER THE INPUT: true; the input reads as it did. -/
def fnExactCoequalizerOfSpec : ChangeSpec := { name := "fnExactCoequalizerOf", fn := fun _ => fun
  | [d1, d2, d3] => { results := [.lit (.bool true)], args := [d1, d2, d3] }
  | _ => none }
def fnExactCoequalizerOfRow : OpenClaim := { program := "ytkionnomddogfaa", sum := "64c735b2ee5d34abf2bc93bc8135e6edbdc5409605a62f492352651635321ad4", func := "loop.example/g01083/laws.FnExactCoequalizerOf", spec := "fnExactCoequalizerOf", apart := false }
def FnExactCoequalizerOfSaid : Prop := fnExactCoequalizerOfRow.holds Try.pinned (OpenSpec.ofChange fnExactCoequalizerOfSpec)

/-- ITS FALSE NEIGHBOUR: 'it returns false'. Refute it at one input. -/
def fnExactCoequalizerOfWrong : ChangeSpec := { name := "fnExactCoequalizerOf", fn := fun _ => fun
  | [d1, d2, d3] => { results := [.lit (.bool false)], args := [d1, d2, d3] }
  | _ => none }
def FnExactCoequalizerOfWrongFalsely : Prop := fnExactCoequalizerOfRow.holds Try.pinned (OpenSpec.ofChange fnExactCoequalizerOfWrong)

/-- 'laws.FnExactJoinPairs': WHATEVER THE INPUT: true; the input reads as it did. -/
def fnExactJoinPairsSpec : ChangeSpec := { name := "fnExactJoinPairs", fn := fun _ => fun
  | [d1, d2] => { results := [.lit (.bool true)], args := [d1, d2] }
  | _ => none }
def fnExactJoinPairsRow : OpenClaim := { program := "ytkionnomddogfaa", sum := "64c735b2ee5d34abf2bc93bc8135e6edbdc5409605a62f492352651635321ad4", func := "loop.example/g01083/laws.FnExactJoinPairs", spec := "fnExactJoinPairs", apart := false }
def FnExactJoinPairsSaid : Prop := fnExactJoinPairsRow.holds Try.pinned (OpenSpec.ofChange fnExactJoinPairsSpec)

/-- ITS FALSE NEIGHBOUR: 'it returns false'. Refute it at one input. -/
def fnExactJoinPairsWrong : ChangeSpec := { name := "fnExactJoinPairs", fn := fun _ => fun
  | [d1, d2] => { results := [.lit (.bool false)], args := [d1, d2] }
  | _ => none }
def FnExactJoinPairsWrongFalsely : Prop := fnExactJoinPairsRow.holds Try.pinned (OpenSpec.ofChange fnExactJoinPairsWrong)

/- THE SECOND FORM. 'bulk': how many values and letters a reading holds, each counted each time it is reached (what is shared counts as often as it is met; a slice's spare places count too). A statement '..UptoSaid' is the law's where the arguments, and the package variables that the reading takes, are together of bulk at most 1048576: NARROWER than '..Said'. Prove '..Said' where nothing that the law and all that it calls make is longer than what came in: it says more and counts as full. Else prove '..UptoSaid'. A law counts once. -/
mutual
def uptoBulk {H : Type} : DataW H → Nat
  | .lit (.string bytes) => bytes.length + 1
  | .lit _ => 1
  | .nil => 1
  | .ptr d => uptoBulk d + 1
  | .slice elems spare => uptoBulkAll elems + uptoBulkAll spare + 1
  | .agg parts => uptoBulkAll parts + 1
  | .iface _ d => uptoBulk d + 1
  | .map entries => uptoBulkEntries entries + 1
  | .held _ => 1
def uptoBulkAll {H : Type} : List (DataW H) → Nat
  | [] => 0
  | d :: r => uptoBulk d + uptoBulkAll r
def uptoBulkEntries {H : Type} : List (Lit × DataW H) → Nat
  | [] => 0
  | x :: r => uptoBulkEntry x + uptoBulkEntries r
def uptoBulkEntry {H : Type} : Lit × DataW H → Nat
  | (.string bytes, d) => bytes.length + uptoBulk d + 1
  | (_, d) => uptoBulk d + 1
 end
def uptoSmall : (H : Type) → List (DataW H) → Bool := fun _ ds => decide (uptoBulkAll ds ≤ 1048576)
def OpenSpec.upto (s : _root_.Go.ChangeSpec) : _root_.Go.OpenSpec := { _root_.Go.OpenSpec.ofChange s with cond := some uptoSmall }

/-- 'laws.FnExactTupleNumber', WHERE WHAT IT READS IS OF BULK AT MOST 1048576: true; the input reads as it did. -/
def fnExactTupleNumberUptoRow : OpenClaim := { program := "ytkionnomddogfaa", sum := "64c735b2ee5d34abf2bc93bc8135e6edbdc5409605a62f492352651635321ad4", func := "loop.example/g01083/laws.FnExactTupleNumber", spec := "fnExactTupleNumber", apart := false, narrowed := true }
def FnExactTupleNumberUptoSaid : Prop := fnExactTupleNumberUptoRow.holds Try.pinned (OpenSpec.upto fnExactTupleNumberSpec)

/-- 'laws.FnExactMeetPartitions', WHERE WHAT IT READS IS OF BULK AT MOST 1048576: true; the input reads as it did. -/
def fnExactMeetPartitionsUptoRow : OpenClaim := { program := "ytkionnomddogfaa", sum := "64c735b2ee5d34abf2bc93bc8135e6edbdc5409605a62f492352651635321ad4", func := "loop.example/g01083/laws.FnExactMeetPartitions", spec := "fnExactMeetPartitions", apart := false, narrowed := true }
def FnExactMeetPartitionsUptoSaid : Prop := fnExactMeetPartitionsUptoRow.holds Try.pinned (OpenSpec.upto fnExactMeetPartitionsSpec)

/-- 'laws.FnExactEqualizerOf', WHERE WHAT IT READS IS OF BULK AT MOST 1048576: true; the input reads as it did. -/
def fnExactEqualizerOfUptoRow : OpenClaim := { program := "ytkionnomddogfaa", sum := "64c735b2ee5d34abf2bc93bc8135e6edbdc5409605a62f492352651635321ad4", func := "loop.example/g01083/laws.FnExactEqualizerOf", spec := "fnExactEqualizerOf", apart := false, narrowed := true }
def FnExactEqualizerOfUptoSaid : Prop := fnExactEqualizerOfUptoRow.holds Try.pinned (OpenSpec.upto fnExactEqualizerOfSpec)

/-- 'laws.FnExactTupleAt', WHERE WHAT IT READS IS OF BULK AT MOST 1048576: true; the input reads as it did. -/
def fnExactTupleAtUptoRow : OpenClaim := { program := "ytkionnomddogfaa", sum := "64c735b2ee5d34abf2bc93bc8135e6edbdc5409605a62f492352651635321ad4", func := "loop.example/g01083/laws.FnExactTupleAt", spec := "fnExactTupleAt", apart := false, narrowed := true }
def FnExactTupleAtUptoSaid : Prop := fnExactTupleAtUptoRow.holds Try.pinned (OpenSpec.upto fnExactTupleAtSpec)

/-- 'laws.FnExactKernelOf', WHERE WHAT IT READS IS OF BULK AT MOST 1048576: true; the input reads as it did. -/
def fnExactKernelOfUptoRow : OpenClaim := { program := "ytkionnomddogfaa", sum := "64c735b2ee5d34abf2bc93bc8135e6edbdc5409605a62f492352651635321ad4", func := "loop.example/g01083/laws.FnExactKernelOf", spec := "fnExactKernelOf", apart := false, narrowed := true }
def FnExactKernelOfUptoSaid : Prop := fnExactKernelOfUptoRow.holds Try.pinned (OpenSpec.upto fnExactKernelOfSpec)

/-- 'laws.FnExactPullbackOf', WHERE WHAT IT READS IS OF BULK AT MOST 1048576: true; the input reads as it did. -/
def fnExactPullbackOfUptoRow : OpenClaim := { program := "ytkionnomddogfaa", sum := "64c735b2ee5d34abf2bc93bc8135e6edbdc5409605a62f492352651635321ad4", func := "loop.example/g01083/laws.FnExactPullbackOf", spec := "fnExactPullbackOf", apart := false, narrowed := true }
def FnExactPullbackOfUptoSaid : Prop := fnExactPullbackOfUptoRow.holds Try.pinned (OpenSpec.upto fnExactPullbackOfSpec)

/-- 'laws.FnExactPushoutOf', WHERE WHAT IT READS IS OF BULK AT MOST 1048576: true; the input reads as it did. -/
def fnExactPushoutOfUptoRow : OpenClaim := { program := "ytkionnomddogfaa", sum := "64c735b2ee5d34abf2bc93bc8135e6edbdc5409605a62f492352651635321ad4", func := "loop.example/g01083/laws.FnExactPushoutOf", spec := "fnExactPushoutOf", apart := false, narrowed := true }
def FnExactPushoutOfUptoSaid : Prop := fnExactPushoutOfUptoRow.holds Try.pinned (OpenSpec.upto fnExactPushoutOfSpec)

/-- 'laws.FnExactJoinPartitions', WHERE WHAT IT READS IS OF BULK AT MOST 1048576: true; the input reads as it did. -/
def fnExactJoinPartitionsUptoRow : OpenClaim := { program := "ytkionnomddogfaa", sum := "64c735b2ee5d34abf2bc93bc8135e6edbdc5409605a62f492352651635321ad4", func := "loop.example/g01083/laws.FnExactJoinPartitions", spec := "fnExactJoinPartitions", apart := false, narrowed := true }
def FnExactJoinPartitionsUptoSaid : Prop := fnExactJoinPartitionsUptoRow.holds Try.pinned (OpenSpec.upto fnExactJoinPartitionsSpec)

/-- 'laws.FnExactCoequalizerOf', WHERE WHAT IT READS IS OF BULK AT MOST 1048576: true; the input reads as it did. -/
def fnExactCoequalizerOfUptoRow : OpenClaim := { program := "ytkionnomddogfaa", sum := "64c735b2ee5d34abf2bc93bc8135e6edbdc5409605a62f492352651635321ad4", func := "loop.example/g01083/laws.FnExactCoequalizerOf", spec := "fnExactCoequalizerOf", apart := false, narrowed := true }
def FnExactCoequalizerOfUptoSaid : Prop := fnExactCoequalizerOfUptoRow.holds Try.pinned (OpenSpec.upto fnExactCoequalizerOfSpec)

/-- 'laws.FnExactJoinPairs', WHERE WHAT IT READS IS OF BULK AT MOST 1048576: true; the input reads as it did. -/
def fnExactJoinPairsUptoRow : OpenClaim := { program := "ytkionnomddogfaa", sum := "64c735b2ee5d34abf2bc93bc8135e6edbdc5409605a62f492352651635321ad4", func := "loop.example/g01083/laws.FnExactJoinPairs", spec := "fnExactJoinPairs", apart := false, narrowed := true }
def FnExactJoinPairsUptoSaid : Prop := fnExactJoinPairsUptoRow.holds Try.pinned (OpenSpec.upto fnExactJoinPairsSpec)

end Rows
end Go.Proofs.Ytkionnomddogfaa
