/-
  No cell of these rows narrows 'for every input' (looked for: loops, veiled, ifaces, maps, wideKeys, modest, calm, conditions, laid).
  DERIVED. THE GIVEN ROWS OF THIS SEAT. 11 by the template 'for every input the law returns true; each argument reads behind the call as it read before'; 0 by the template 'total and deterministic' (their statements: YtkmkbmhpdnddnaaTotals.lean).
  GIVEN WITH THE SEED: the statements are not yours to turn. If you find one false, say at which input.
  Laid BY PROGRAM, IN A SANDBOX (cutbox-rows.mjs): the forced cells as the released guide's own fill.sh prints them over the translation 57d0e0d8635b7b5e… (all of the seat's roots in one cut). By AI agents, Wed Nov 11 2026. No macro, syntax, notation, axiom, sorry.
-/
import Derived.Test.YtkmkbmhpdnddnaaChecked
import GoSem.Claim
import GoSem.ClaimJoined
import GoSem.ClaimMapViews
import Derived.JoinedTies
import Derived.KernelRfl
namespace Go.Proofs.Ytkmkbmhpdnddnaa
/- THE CELL 'sum', in the pinned program and in every row, IS THE sha256 OF THE DUMP (.gsa) THAT YtkmkbmhpdnddnaaProg.lean LOADS. Nothing in Lean hashes anything: it is a label: what it is worth is what the hold of that sum in a sandbox is worth. -/
noncomputable def Try.pinned : Pinned := { name := "ytkmkbmhpdnddnaa", sum := "57d0e0d8635b7b5e177e73c450ff6509d3272d1f5a883bb03160f3c0698c0caa", checked := Try.checked }
namespace Rows
def none {H : Type} : Left H := { results := [], args := [] }

/-- 'laws.FnExactIsOrdered': WHATEVER THE INPUT: true; the input reads as it did. -/
def fnExactIsOrderedSpec : ChangeSpec := { name := "fnExactIsOrdered", fn := fun _ => fun
  | [d] => { results := [.lit (.bool true)], args := [d] }
  | _ => none }
def fnExactIsOrderedRow : OpenClaim := { program := "ytkmkbmhpdnddnaa", sum := "57d0e0d8635b7b5e177e73c450ff6509d3272d1f5a883bb03160f3c0698c0caa", func := "loop.example/g01083/laws.FnExactIsOrdered", spec := "fnExactIsOrdered", apart := false }
def FnExactIsOrderedSaid : Prop := fnExactIsOrderedRow.holds Try.pinned (OpenSpec.ofChange fnExactIsOrderedSpec)

/-- ITS FALSE NEIGHBOUR: 'it returns false'. Refute it at one input. -/
def fnExactIsOrderedWrong : ChangeSpec := { name := "fnExactIsOrdered", fn := fun _ => fun
  | [d] => { results := [.lit (.bool false)], args := [d] }
  | _ => none }
def FnExactIsOrderedWrongFalsely : Prop := fnExactIsOrderedRow.holds Try.pinned (OpenSpec.ofChange fnExactIsOrderedWrong)

/-- 'laws.FnExactCountNumberings': WHATEVER THE INPUT: true; the input reads as it did. -/
def fnExactCountNumberingsSpec : ChangeSpec := { name := "fnExactCountNumberings", fn := fun _ => fun
  | [d] => { results := [.lit (.bool true)], args := [d] }
  | _ => none }
def fnExactCountNumberingsRow : OpenClaim := { program := "ytkmkbmhpdnddnaa", sum := "57d0e0d8635b7b5e177e73c450ff6509d3272d1f5a883bb03160f3c0698c0caa", func := "loop.example/g01083/laws.FnExactCountNumberings", spec := "fnExactCountNumberings", unfollowed := true, recurses := true, apart := false }
def FnExactCountNumberingsSaid : Prop := fnExactCountNumberingsRow.holds Try.pinned (OpenSpec.ofChange fnExactCountNumberingsSpec)

/-- ITS FALSE NEIGHBOUR: 'it returns false'. Refute it at one input. -/
def fnExactCountNumberingsWrong : ChangeSpec := { name := "fnExactCountNumberings", fn := fun _ => fun
  | [d] => { results := [.lit (.bool false)], args := [d] }
  | _ => none }
def FnExactCountNumberingsWrongFalsely : Prop := fnExactCountNumberingsRow.holds Try.pinned (OpenSpec.ofChange fnExactCountNumberingsWrong)

/-- 'laws.FnExactIsEpi': WHATEVER THE INPUT: true; the input reads as it did. -/
def fnExactIsEpiSpec : ChangeSpec := { name := "fnExactIsEpi", fn := fun _ => fun
  | [d1, d2] => { results := [.lit (.bool true)], args := [d1, d2] }
  | _ => none }
def fnExactIsEpiRow : OpenClaim := { program := "ytkmkbmhpdnddnaa", sum := "57d0e0d8635b7b5e177e73c450ff6509d3272d1f5a883bb03160f3c0698c0caa", func := "loop.example/g01083/laws.FnExactIsEpi", spec := "fnExactIsEpi", unfollowed := true, recurses := true, apart := false }
def FnExactIsEpiSaid : Prop := fnExactIsEpiRow.holds Try.pinned (OpenSpec.ofChange fnExactIsEpiSpec)

/-- ITS FALSE NEIGHBOUR: 'it returns false'. Refute it at one input. -/
def fnExactIsEpiWrong : ChangeSpec := { name := "fnExactIsEpi", fn := fun _ => fun
  | [d1, d2] => { results := [.lit (.bool false)], args := [d1, d2] }
  | _ => none }
def FnExactIsEpiWrongFalsely : Prop := fnExactIsEpiRow.holds Try.pinned (OpenSpec.ofChange fnExactIsEpiWrong)

/-- 'laws.FnExactIsMono': WHATEVER THE INPUT: true; the input reads as it did. -/
def fnExactIsMonoSpec : ChangeSpec := { name := "fnExactIsMono", fn := fun _ => fun
  | [d1, d2] => { results := [.lit (.bool true)], args := [d1, d2] }
  | _ => none }
def fnExactIsMonoRow : OpenClaim := { program := "ytkmkbmhpdnddnaa", sum := "57d0e0d8635b7b5e177e73c450ff6509d3272d1f5a883bb03160f3c0698c0caa", func := "loop.example/g01083/laws.FnExactIsMono", spec := "fnExactIsMono", unfollowed := true, recurses := true, apart := false }
def FnExactIsMonoSaid : Prop := fnExactIsMonoRow.holds Try.pinned (OpenSpec.ofChange fnExactIsMonoSpec)

/-- ITS FALSE NEIGHBOUR: 'it returns false'. Refute it at one input. -/
def fnExactIsMonoWrong : ChangeSpec := { name := "fnExactIsMono", fn := fun _ => fun
  | [d1, d2] => { results := [.lit (.bool false)], args := [d1, d2] }
  | _ => none }
def FnExactIsMonoWrongFalsely : Prop := fnExactIsMonoRow.holds Try.pinned (OpenSpec.ofChange fnExactIsMonoWrong)

/-- 'laws.FnExactCountChains': WHATEVER THE INPUT: true; the input reads as it did. -/
def fnExactCountChainsSpec : ChangeSpec := { name := "fnExactCountChains", fn := fun _ => fun
  | [d1, d2] => { results := [.lit (.bool true)], args := [d1, d2] }
  | _ => none }
def fnExactCountChainsRow : OpenClaim := { program := "ytkmkbmhpdnddnaa", sum := "57d0e0d8635b7b5e177e73c450ff6509d3272d1f5a883bb03160f3c0698c0caa", func := "loop.example/g01083/laws.FnExactCountChains", spec := "fnExactCountChains", unfollowed := true, recurses := true, apart := false }
def FnExactCountChainsSaid : Prop := fnExactCountChainsRow.holds Try.pinned (OpenSpec.ofChange fnExactCountChainsSpec)

/-- ITS FALSE NEIGHBOUR: 'it returns false'. Refute it at one input. -/
def fnExactCountChainsWrong : ChangeSpec := { name := "fnExactCountChains", fn := fun _ => fun
  | [d1, d2] => { results := [.lit (.bool false)], args := [d1, d2] }
  | _ => none }
def FnExactCountChainsWrongFalsely : Prop := fnExactCountChainsRow.holds Try.pinned (OpenSpec.ofChange fnExactCountChainsWrong)

/-- 'laws.FnExactCountProperChains': WHATEVER THE INPUT: true; the input reads as it did. -/
def fnExactCountProperChainsSpec : ChangeSpec := { name := "fnExactCountProperChains", fn := fun _ => fun
  | [d1, d2] => { results := [.lit (.bool true)], args := [d1, d2] }
  | _ => none }
def fnExactCountProperChainsRow : OpenClaim := { program := "ytkmkbmhpdnddnaa", sum := "57d0e0d8635b7b5e177e73c450ff6509d3272d1f5a883bb03160f3c0698c0caa", func := "loop.example/g01083/laws.FnExactCountProperChains", spec := "fnExactCountProperChains", unfollowed := true, recurses := true, apart := false }
def FnExactCountProperChainsSaid : Prop := fnExactCountProperChainsRow.holds Try.pinned (OpenSpec.ofChange fnExactCountProperChainsSpec)

/-- ITS FALSE NEIGHBOUR: 'it returns false'. Refute it at one input. -/
def fnExactCountProperChainsWrong : ChangeSpec := { name := "fnExactCountProperChains", fn := fun _ => fun
  | [d1, d2] => { results := [.lit (.bool false)], args := [d1, d2] }
  | _ => none }
def FnExactCountProperChainsWrongFalsely : Prop := fnExactCountProperChainsRow.holds Try.pinned (OpenSpec.ofChange fnExactCountProperChainsWrong)

/-- 'laws.FnExactEulerCharacteristic': WHATEVER THE INPUT: true; the input reads as it did. -/
def fnExactEulerCharacteristicSpec : ChangeSpec := { name := "fnExactEulerCharacteristic", fn := fun _ => fun
  | [d] => { results := [.lit (.bool true)], args := [d] }
  | _ => none }
def fnExactEulerCharacteristicRow : OpenClaim := { program := "ytkmkbmhpdnddnaa", sum := "57d0e0d8635b7b5e177e73c450ff6509d3272d1f5a883bb03160f3c0698c0caa", func := "loop.example/g01083/laws.FnExactEulerCharacteristic", spec := "fnExactEulerCharacteristic", unfollowed := true, recurses := true, apart := false }
def FnExactEulerCharacteristicSaid : Prop := fnExactEulerCharacteristicRow.holds Try.pinned (OpenSpec.ofChange fnExactEulerCharacteristicSpec)

/-- ITS FALSE NEIGHBOUR: 'it returns false'. Refute it at one input. -/
def fnExactEulerCharacteristicWrong : ChangeSpec := { name := "fnExactEulerCharacteristic", fn := fun _ => fun
  | [d] => { results := [.lit (.bool false)], args := [d] }
  | _ => none }
def FnExactEulerCharacteristicWrongFalsely : Prop := fnExactEulerCharacteristicRow.holds Try.pinned (OpenSpec.ofChange fnExactEulerCharacteristicWrong)

/-- 'laws.FnExactTerminalObjects': WHATEVER THE INPUT: true; the input reads as it did. -/
def fnExactTerminalObjectsSpec : ChangeSpec := { name := "fnExactTerminalObjects", fn := fun _ => fun
  | [d] => { results := [.lit (.bool true)], args := [d] }
  | _ => none }
def fnExactTerminalObjectsRow : OpenClaim := { program := "ytkmkbmhpdnddnaa", sum := "57d0e0d8635b7b5e177e73c450ff6509d3272d1f5a883bb03160f3c0698c0caa", func := "loop.example/g01083/laws.FnExactTerminalObjects", spec := "fnExactTerminalObjects", apart := false }
def FnExactTerminalObjectsSaid : Prop := fnExactTerminalObjectsRow.holds Try.pinned (OpenSpec.ofChange fnExactTerminalObjectsSpec)

/-- ITS FALSE NEIGHBOUR: 'it returns false'. Refute it at one input. -/
def fnExactTerminalObjectsWrong : ChangeSpec := { name := "fnExactTerminalObjects", fn := fun _ => fun
  | [d] => { results := [.lit (.bool false)], args := [d] }
  | _ => none }
def FnExactTerminalObjectsWrongFalsely : Prop := fnExactTerminalObjectsRow.holds Try.pinned (OpenSpec.ofChange fnExactTerminalObjectsWrong)

/-- 'laws.FnExactIsIso': WHATEVER THE INPUT: true; the input reads as it did. -/
def fnExactIsIsoSpec : ChangeSpec := { name := "fnExactIsIso", fn := fun _ => fun
  | [d1, d2] => { results := [.lit (.bool true)], args := [d1, d2] }
  | _ => none }
def fnExactIsIsoRow : OpenClaim := { program := "ytkmkbmhpdnddnaa", sum := "57d0e0d8635b7b5e177e73c450ff6509d3272d1f5a883bb03160f3c0698c0caa", func := "loop.example/g01083/laws.FnExactIsIso", spec := "fnExactIsIso", apart := false }
def FnExactIsIsoSaid : Prop := fnExactIsIsoRow.holds Try.pinned (OpenSpec.ofChange fnExactIsIsoSpec)

/-- ITS FALSE NEIGHBOUR: 'it returns false'. Refute it at one input. -/
def fnExactIsIsoWrong : ChangeSpec := { name := "fnExactIsIso", fn := fun _ => fun
  | [d1, d2] => { results := [.lit (.bool false)], args := [d1, d2] }
  | _ => none }
def FnExactIsIsoWrongFalsely : Prop := fnExactIsIsoRow.holds Try.pinned (OpenSpec.ofChange fnExactIsIsoWrong)

/-- 'laws.FnExactIsComplete': WHATEVER THE INPUT: true; the input reads as it did. -/
def fnExactIsCompleteSpec : ChangeSpec := { name := "fnExactIsComplete", fn := fun _ => fun
  | [d] => { results := [.lit (.bool true)], args := [d] }
  | _ => none }
def fnExactIsCompleteRow : OpenClaim := { program := "ytkmkbmhpdnddnaa", sum := "57d0e0d8635b7b5e177e73c450ff6509d3272d1f5a883bb03160f3c0698c0caa", func := "loop.example/g01083/laws.FnExactIsComplete", spec := "fnExactIsComplete", apart := false }
def FnExactIsCompleteSaid : Prop := fnExactIsCompleteRow.holds Try.pinned (OpenSpec.ofChange fnExactIsCompleteSpec)

/-- ITS FALSE NEIGHBOUR: 'it returns false'. Refute it at one input. -/
def fnExactIsCompleteWrong : ChangeSpec := { name := "fnExactIsComplete", fn := fun _ => fun
  | [d] => { results := [.lit (.bool false)], args := [d] }
  | _ => none }
def FnExactIsCompleteWrongFalsely : Prop := fnExactIsCompleteRow.holds Try.pinned (OpenSpec.ofChange fnExactIsCompleteWrong)

/-- 'laws.FnExactIsOrthogonal': WHATEVER THE INPUT: true; the input reads as it did. -/
def fnExactIsOrthogonalSpec : ChangeSpec := { name := "fnExactIsOrthogonal", fn := fun _ => fun
  | [d1, d2, d3] => { results := [.lit (.bool true)], args := [d1, d2, d3] }
  | _ => none }
def fnExactIsOrthogonalRow : OpenClaim := { program := "ytkmkbmhpdnddnaa", sum := "57d0e0d8635b7b5e177e73c450ff6509d3272d1f5a883bb03160f3c0698c0caa", func := "loop.example/g01083/laws.FnExactIsOrthogonal", spec := "fnExactIsOrthogonal", apart := false }
def FnExactIsOrthogonalSaid : Prop := fnExactIsOrthogonalRow.holds Try.pinned (OpenSpec.ofChange fnExactIsOrthogonalSpec)

/-- ITS FALSE NEIGHBOUR: 'it returns false'. Refute it at one input. -/
def fnExactIsOrthogonalWrong : ChangeSpec := { name := "fnExactIsOrthogonal", fn := fun _ => fun
  | [d1, d2, d3] => { results := [.lit (.bool false)], args := [d1, d2, d3] }
  | _ => none }
def FnExactIsOrthogonalWrongFalsely : Prop := fnExactIsOrthogonalRow.holds Try.pinned (OpenSpec.ofChange fnExactIsOrthogonalWrong)

/- THE SECOND FORM. 'bulk': how many values and letters a reading holds, each counted each time it is reached (what is shared counts as often as it is met; a slice's spare places count too). A statement '..UptoSaid' is the law's where the arguments, and the package variables that the reading takes, are together of bulk at most 1048576: NARROWER than '..Said'. Prove '..Said' where nothing that the law and all that it calls make is longer than what came in: it says more and counts as full. Else prove '..UptoSaid'. A law counts once. -/
mutual
def uptoBulk {H : Type} : DataW H → Nat
  | .lit (.string bytes) => bytes.length + 1
  | .lit _ => 1
  | .nil => 1
  | .ptr d => uptoBulk d + 1
  | .slice elems spare => uptoBulkAll elems + uptoBulkAll spare + 1
  | .agg parts => uptoBulkAll parts + 1
  | .iface _ d => uptoBulk d + 1
  | .map entries => uptoBulkEntries entries + 1
  | .held _ => 1
def uptoBulkAll {H : Type} : List (DataW H) → Nat
  | [] => 0
  | d :: r => uptoBulk d + uptoBulkAll r
def uptoBulkEntries {H : Type} : List (Lit × DataW H) → Nat
  | [] => 0
  | x :: r => uptoBulkEntry x + uptoBulkEntries r
def uptoBulkEntry {H : Type} : Lit × DataW H → Nat
  | (.string bytes, d) => bytes.length + uptoBulk d + 1
  | (_, d) => uptoBulk d + 1
 end
def uptoSmall : (H : Type) → List (DataW H) → Bool := fun _ ds => decide (uptoBulkAll ds ≤ 1048576)
def OpenSpec.upto (s : _root_.Go.ChangeSpec) : _root_.Go.OpenSpec := { _root_.Go.OpenSpec.ofChange s with cond := some uptoSmall }

/-- 'laws.FnExactIsOrdered', WHERE WHAT IT READS IS OF BULK AT MOST 1048576: true; the input reads as it did. -/
def fnExactIsOrderedUptoRow : OpenClaim := { program := "ytkmkbmhpdnddnaa", sum := "57d0e0d8635b7b5e177e73c450ff6509d3272d1f5a883bb03160f3c0698c0caa", func := "loop.example/g01083/laws.FnExactIsOrdered", spec := "fnExactIsOrdered", apart := false, narrowed := true }
def FnExactIsOrderedUptoSaid : Prop := fnExactIsOrderedUptoRow.holds Try.pinned (OpenSpec.upto fnExactIsOrderedSpec)

/-- 'laws.FnExactCountNumberings', WHERE WHAT IT READS IS OF BULK AT MOST 1048576: true; the input reads as it did. -/
def fnExactCountNumberingsUptoRow : OpenClaim := { program := "ytkmkbmhpdnddnaa", sum := "57d0e0d8635b7b5e177e73c450ff6509d3272d1f5a883bb03160f3c0698c0caa", func := "loop.example/g01083/laws.FnExactCountNumberings", spec := "fnExactCountNumberings", unfollowed := true, recurses := true, apart := false, narrowed := true }
def FnExactCountNumberingsUptoSaid : Prop := fnExactCountNumberingsUptoRow.holds Try.pinned (OpenSpec.upto fnExactCountNumberingsSpec)

/-- 'laws.FnExactIsEpi', WHERE WHAT IT READS IS OF BULK AT MOST 1048576: true; the input reads as it did. -/
def fnExactIsEpiUptoRow : OpenClaim := { program := "ytkmkbmhpdnddnaa", sum := "57d0e0d8635b7b5e177e73c450ff6509d3272d1f5a883bb03160f3c0698c0caa", func := "loop.example/g01083/laws.FnExactIsEpi", spec := "fnExactIsEpi", unfollowed := true, recurses := true, apart := false, narrowed := true }
def FnExactIsEpiUptoSaid : Prop := fnExactIsEpiUptoRow.holds Try.pinned (OpenSpec.upto fnExactIsEpiSpec)

/-- 'laws.FnExactIsMono', WHERE WHAT IT READS IS OF BULK AT MOST 1048576: true; the input reads as it did. -/
def fnExactIsMonoUptoRow : OpenClaim := { program := "ytkmkbmhpdnddnaa", sum := "57d0e0d8635b7b5e177e73c450ff6509d3272d1f5a883bb03160f3c0698c0caa", func := "loop.example/g01083/laws.FnExactIsMono", spec := "fnExactIsMono", unfollowed := true, recurses := true, apart := false, narrowed := true }
def FnExactIsMonoUptoSaid : Prop := fnExactIsMonoUptoRow.holds Try.pinned (OpenSpec.upto fnExactIsMonoSpec)

/-- 'laws.FnExactCountChains', WHERE WHAT IT READS IS OF BULK AT MOST 1048576: true; the input reads as it did. -/
def fnExactCountChainsUptoRow : OpenClaim := { program := "ytkmkbmhpdnddnaa", sum := "57d0e0d8635b7b5e177e73c450ff6509d3272d1f5a883bb03160f3c0698c0caa", func := "loop.example/g01083/laws.FnExactCountChains", spec := "fnExactCountChains", unfollowed := true, recurses := true, apart := false, narrowed := true }
def FnExactCountChainsUptoSaid : Prop := fnExactCountChainsUptoRow.holds Try.pinned (OpenSpec.upto fnExactCountChainsSpec)

/-- 'laws.FnExactCountProperChains', WHERE WHAT IT READS IS OF BULK AT MOST 1048576: true; the input reads as it did. -/
def fnExactCountProperChainsUptoRow : OpenClaim := { program := "ytkmkbmhpdnddnaa", sum := "57d0e0d8635b7b5e177e73c450ff6509d3272d1f5a883bb03160f3c0698c0caa", func := "loop.example/g01083/laws.FnExactCountProperChains", spec := "fnExactCountProperChains", unfollowed := true, recurses := true, apart := false, narrowed := true }
def FnExactCountProperChainsUptoSaid : Prop := fnExactCountProperChainsUptoRow.holds Try.pinned (OpenSpec.upto fnExactCountProperChainsSpec)

/-- 'laws.FnExactEulerCharacteristic', WHERE WHAT IT READS IS OF BULK AT MOST 1048576: true; the input reads as it did. -/
def fnExactEulerCharacteristicUptoRow : OpenClaim := { program := "ytkmkbmhpdnddnaa", sum := "57d0e0d8635b7b5e177e73c450ff6509d3272d1f5a883bb03160f3c0698c0caa", func := "loop.example/g01083/laws.FnExactEulerCharacteristic", spec := "fnExactEulerCharacteristic", unfollowed := true, recurses := true, apart := false, narrowed := true }
def FnExactEulerCharacteristicUptoSaid : Prop := fnExactEulerCharacteristicUptoRow.holds Try.pinned (OpenSpec.upto fnExactEulerCharacteristicSpec)

/-- 'laws.FnExactTerminalObjects', WHERE WHAT IT READS IS OF BULK AT MOST 1048576: true; the input reads as it did. -/
def fnExactTerminalObjectsUptoRow : OpenClaim := { program := "ytkmkbmhpdnddnaa", sum := "57d0e0d8635b7b5e177e73c450ff6509d3272d1f5a883bb03160f3c0698c0caa", func := "loop.example/g01083/laws.FnExactTerminalObjects", spec := "fnExactTerminalObjects", apart := false, narrowed := true }
def FnExactTerminalObjectsUptoSaid : Prop := fnExactTerminalObjectsUptoRow.holds Try.pinned (OpenSpec.upto fnExactTerminalObjectsSpec)

/-- 'laws.FnExactIsIso', WHERE WHAT IT READS IS OF BULK AT MOST 1048576: true; the input reads as it did. -/
def fnExactIsIsoUptoRow : OpenClaim := { program := "ytkmkbmhpdnddnaa", sum := "57d0e0d8635b7b5e177e73c450ff6509d3272d1f5a883bb03160f3c0698c0caa", func := "loop.example/g01083/laws.FnExactIsIso", spec := "fnExactIsIso", apart := false, narrowed := true }
def FnExactIsIsoUptoSaid : Prop := fnExactIsIsoUptoRow.holds Try.pinned (OpenSpec.upto fnExactIsIsoSpec)

/-- 'laws.FnExactIsComplete', WHERE WHAT IT READS IS OF BULK AT MOST 1048576: true; the input reads as it did. -/
def fnExactIsCompleteUptoRow : OpenClaim := { program := "ytkmkbmhpdnddnaa", sum := "57d0e0d8635b7b5e177e73c450ff6509d3272d1f5a883bb03160f3c0698c0caa", func := "loop.example/g01083/laws.FnExactIsComplete", spec := "fnExactIsComplete", apart := false, narrowed := true }
def FnExactIsCompleteUptoSaid : Prop := fnExactIsCompleteUptoRow.holds Try.pinned (OpenSpec.upto fnExactIsCompleteSpec)

/-- 'laws.FnExactIsOrthogonal', WHERE WHAT IT READS IS OF BULK AT MOST 1048576: true; the input reads as it did. -/
def fnExactIsOrthogonalUptoRow : OpenClaim := { program := "ytkmkbmhpdnddnaa", sum := "57d0e0d8635b7b5e177e73c450ff6509d3272d1f5a883bb03160f3c0698c0caa", func := "loop.example/g01083/laws.FnExactIsOrthogonal", spec := "fnExactIsOrthogonal", apart := false, narrowed := true }
def FnExactIsOrthogonalUptoSaid : Prop := fnExactIsOrthogonalUptoRow.holds Try.pinned (OpenSpec.upto fnExactIsOrthogonalSpec)

end Rows
end Go.Proofs.Ytkmkbmhpdnddnaa
