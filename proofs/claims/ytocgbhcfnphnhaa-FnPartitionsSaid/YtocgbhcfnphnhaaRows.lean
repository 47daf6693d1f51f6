/-
  No cell of these rows narrows 'for every input' (looked for: loops, veiled, ifaces, maps, wideKeys, modest, calm, conditions, laid).
  DERIVED. THE GIVEN ROWS OF THIS SEAT. 4 by the template 'for every input the law returns true; each argument reads behind the call as it read before'; 0 by the template 'total and deterministic' (their statements: YtocgbhcfnphnhaaTotals.lean).
  GIVEN WITH THE SEED: the statements are not yours to turn. If you find one false, say at which input.
  Laid BY PROGRAM, IN A SANDBOX (cutbox-rows.mjs): the forced cells as the released guide's own fill.sh prints them over the translation 294e70f165daa6ce… (all of the seat's roots in one cut). By AI agents, Wed Nov 11 2026. No macro, syntax, notation, axiom, sorry.
-/
import Derived.Test.YtocgbhcfnphnhaaChecked
import GoSem.Claim
import GoSem.ClaimJoined
import GoSem.ClaimMapViews
import Derived.JoinedTies
import Derived.KernelRfl
namespace Go.Proofs.Ytocgbhcfnphnhaa
/- THE CELL 'sum', in the pinned program and in every row, IS THE sha256 OF THE DUMP (.gsa) THAT YtocgbhcfnphnhaaProg.lean LOADS. Nothing in Lean hashes anything: it is a label: what it is worth is what the hold of that sum in a sandbox is worth. -/
noncomputable def Try.pinned : Pinned := { name := "ytocgbhcfnphnhaa", sum := "294e70f165daa6ce2b72811792f4a6afe86d30700d7ff0f2cb1610af24f0e03a", checked := Try.checked }
namespace Rows
def none {H : Type} : Left H := { results := [], args := [] }

/-- 'laws.FnTuples': WHATEVER THE INPUT: true; the input reads as it did. -/
def fnTuplesSpec : ChangeSpec := { name := "fnTuples", fn := fun _ => fun
  | [d] => { results := [.lit (.bool true)], args := [d] }
  | _ => none }
def fnTuplesRow : OpenClaim := { program := "ytocgbhcfnphnhaa", sum := "294e70f165daa6ce2b72811792f4a6afe86d30700d7ff0f2cb1610af24f0e03a", func := "loop.example/g01083/laws.FnTuples", spec := "fnTuples", apart := false }
def FnTuplesSaid : Prop := fnTuplesRow.holds Try.pinned (OpenSpec.ofChange fnTuplesSpec)

/-- ITS FALSE NEIGHBOUR: 'it returns false'. Refute it at one input. -/
def fnTuplesWrong : ChangeSpec := { name := "fnTuples", fn := fun _ => fun
  | [d] => { results := [.lit (.bool false)], args := [d] }
  | _ => none }
def FnTuplesWrongFalsely : Prop := fnTuplesRow.holds Try.pinned (OpenSpec.ofChange fnTuplesWrong)

/-- 'laws.FnPartitions': WHATEVER THE INPUT: true; the input reads as it did. -/
def fnPartitionsSpec : ChangeSpec := { name := "fnPartitions", fn := fun _ => fun
  | [d] => { results := [.lit (.bool true)], args := [d] }
  | _ => none }
def fnPartitionsRow : OpenClaim := { program := "ytocgbhcfnphnhaa", sum := "294e70f165daa6ce2b72811792f4a6afe86d30700d7ff0f2cb1610af24f0e03a", func := "loop.example/g01083/laws.FnPartitions", spec := "fnPartitions", apart := false }
def FnPartitionsSaid : Prop := fnPartitionsRow.holds Try.pinned (OpenSpec.ofChange fnPartitionsSpec)

/-- ITS FALSE NEIGHBOUR: 'it returns false'. Refute it at one input. -/
def fnPartitionsWrong : ChangeSpec := { name := "fnPartitions", fn := fun _ => fun
  | [d] => { results := [.lit (.bool false)], args := [d] }
  | _ => none }
def FnPartitionsWrongFalsely : Prop := fnPartitionsRow.holds Try.pinned (OpenSpec.ofChange fnPartitionsWrong)

/-- 'laws.FnEqualizers': WHATEVER THE INPUT: true; the input reads as it did. -/
def fnEqualizersSpec : ChangeSpec := { name := "fnEqualizers", fn := fun _ => fun
  | [d] => { results := [.lit (.bool true)], args := [d] }
  | _ => none }
def fnEqualizersRow : OpenClaim := { program := "ytocgbhcfnphnhaa", sum := "294e70f165daa6ce2b72811792f4a6afe86d30700d7ff0f2cb1610af24f0e03a", func := "loop.example/g01083/laws.FnEqualizers", spec := "fnEqualizers", apart := false }
def FnEqualizersSaid : Prop := fnEqualizersRow.holds Try.pinned (OpenSpec.ofChange fnEqualizersSpec)

/-- ITS FALSE NEIGHBOUR: 'it returns false'. Refute it at one input. -/
def fnEqualizersWrong : ChangeSpec := { name := "fnEqualizers", fn := fun _ => fun
  | [d] => { results := [.lit (.bool false)], args := [d] }
  | _ => none }
def FnEqualizersWrongFalsely : Prop := fnEqualizersRow.holds Try.pinned (OpenSpec.ofChange fnEqualizersWrong)

/-- 'laws.FnPullbacksPushouts': WHATEVER THE INPUT: true; the input reads as it did. -/
def fnPullbacksPushoutsSpec : ChangeSpec := { name := "fnPullbacksPushouts", fn := fun _ => fun
  | [d] => { results := [.lit (.bool true)], args := [d] }
  | _ => none }
def fnPullbacksPushoutsRow : OpenClaim := { program := "ytocgbhcfnphnhaa", sum := "294e70f165daa6ce2b72811792f4a6afe86d30700d7ff0f2cb1610af24f0e03a", func := "loop.example/g01083/laws.FnPullbacksPushouts", spec := "fnPullbacksPushouts", apart := false }
def FnPullbacksPushoutsSaid : Prop := fnPullbacksPushoutsRow.holds Try.pinned (OpenSpec.ofChange fnPullbacksPushoutsSpec)

/-- ITS FALSE NEIGHBOUR: 'it returns false'. Refute it at one input. -/
def fnPullbacksPushoutsWrong : ChangeSpec := { name := "fnPullbacksPushouts", fn := fun _ => fun
  | [d] => { results := [.lit (.bool false)], args := [d] }
  | _ => none }
def FnPullbacksPushoutsWrongFalsely : Prop := fnPullbacksPushoutsRow.holds Try.pinned (OpenSpec.ofChange fnPullbacksPushoutsWrong)

/- THE SECOND FORM. 'bulk': how many values and letters a reading holds, each counted each time it is reached (what is shared counts as often as it is met; a slice's spare places count too). A statement '..UptoSaid' is the law's where the arguments, and the package variables that the reading takes, are together of bulk at most 1048576: NARROWER than '..Said'. Prove '..Said' where nothing that the law and all that it calls make is longer than what came in: it says more and counts as full. Else prove '..UptoSaid'. A law counts once. -/
mutual
def uptoBulk {H : Type} : DataW H → Nat
  | .lit (.string bytes) => bytes.length + 1
  | .lit _ => 1
  | .nil => 1
  | .ptr d => uptoBulk d + 1
  | .slice elems spare => uptoBulkAll elems + uptoBulkAll spare + 1
  | .agg parts => uptoBulkAll parts + 1
  | .iface _ d => uptoBulk d + 1
  | .map entries => uptoBulkEntries entries + 1
  | .held _ => 1
def uptoBulkAll {H : Type} : List (DataW H) → Nat
  | [] => 0
  | d :: r => uptoBulk d + uptoBulkAll r
def uptoBulkEntries {H : Type} : List (Lit × DataW H) → Nat
  | [] => 0
  | x :: r => uptoBulkEntry x + uptoBulkEntries r
def uptoBulkEntry {H : Type} : Lit × DataW H → Nat
  | (.string bytes, d) => bytes.length + uptoBulk d + 1
  | (_, d) => uptoBulk d + 1
 end
def uptoSmall : (H : Type) → List (DataW H) → Bool := fun _ ds => decide (uptoBulkAll ds ≤ 1048576)
def OpenSpec.upto (s : _root_.Go.ChangeSpec) : _root_.Go.OpenSpec := { _root_.Go.OpenSpec.ofChange s with cond := some uptoSmall }

/-- 'laws.FnTuples', WHERE WHAT IT READS IS OF BULK AT MOST 1048576: true; the input reads as it did. -/
def fnTuplesUptoRow : OpenClaim := { program := "ytocgbhcfnphnhaa", sum := "294e70f165daa6ce2b72811792f4a6afe86d30700d7ff0f2cb1610af24f0e03a", func := "loop.example/g01083/laws.FnTuples", spec := "fnTuples", apart := false, narrowed := true }
def FnTuplesUptoSaid : Prop := fnTuplesUptoRow.holds Try.pinned (OpenSpec.upto fnTuplesSpec)

/-- 'laws.FnPartitions', WHERE WHAT IT READS IS OF BULK AT MOST 1048576: true; the input reads as it did. -/
def fnPartitionsUptoRow : OpenClaim := { program := "ytocgbhcfnphnhaa", sum := "294e70f165daa6ce2b72811792f4a6afe86d30700d7ff0f2cb1610af24f0e03a", func := "loop.example/g01083/laws.FnPartitions", spec := "fnPartitions", apart := false, narrowed := true }
def FnPartitionsUptoSaid : Prop := fnPartitionsUptoRow.holds Try.pinned (OpenSpec.upto fnPartitionsSpec)

/-- 'laws.FnEqualizers', WHERE WHAT IT READS IS OF BULK AT MOST 1048576: true; the input reads as it did. -/
def fnEqualizersUptoRow : OpenClaim := { program := "ytocgbhcfnphnhaa", sum := "294e70f165daa6ce2b72811792f4a6afe86d30700d7ff0f2cb1610af24f0e03a", func := "loop.example/g01083/laws.FnEqualizers", spec := "fnEqualizers", apart := false, narrowed := true }
def FnEqualizersUptoSaid : Prop := fnEqualizersUptoRow.holds Try.pinned (OpenSpec.upto fnEqualizersSpec)

/-- 'laws.FnPullbacksPushouts', WHERE WHAT IT READS IS OF BULK AT MOST 1048576: true; the input reads as it did. -/
def fnPullbacksPushoutsUptoRow : OpenClaim := { program := "ytocgbhcfnphnhaa", sum := "294e70f165daa6ce2b72811792f4a6afe86d30700d7ff0f2cb1610af24f0e03a", func := "loop.example/g01083/laws.FnPullbacksPushouts", spec := "fnPullbacksPushouts", apart := false, narrowed := true }
def FnPullbacksPushoutsUptoSaid : Prop := fnPullbacksPushoutsUptoRow.holds Try.pinned (OpenSpec.upto fnPullbacksPushoutsSpec)

end Rows
end Go.Proofs.Ytocgbhcfnphnhaa
