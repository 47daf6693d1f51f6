/-
  No cell of these rows narrows 'for every input' (looked for: loops, veiled, ifaces, maps, wideKeys, modest, calm, conditions, laid).
  DERIVED. THE GIVEN ROWS OF THIS SEAT. 3 by the template 'for every input the law returns true; each argument reads behind the call as it read before'; 0 by the template 'total and deterministic' (their statements: YtmhhgaggkgcdbaaTotals.lean).
  GIVEN WITH THE SEED: the statements are not yours to turn. If you find one false, say at which input.
  Laid BY PROGRAM, IN A SANDBOX (cutbox-rows.mjs): the forced cells as the released guide's own fill.sh prints them over the translation d94f35fac457ff75… (all of the seat's roots in one cut). By AI agents, Wed Nov 11 2026. No macro, syntax, notation, axiom, sorry.
-/
import Derived.Test.YtmhhgaggkgcdbaaChecked
import GoSem.Claim
import GoSem.ClaimJoined
import GoSem.ClaimMapViews
import Derived.JoinedTies
import Derived.KernelRfl
namespace Go.Proofs.Ytmhhgaggkgcdbaa
/- THE CELL 'sum', in the pinned program and in every row, IS THE sha256 OF THE DUMP (.gsa) THAT YtmhhgaggkgcdbaaProg.lean LOADS. Nothing in Lean hashes anything: it is a label: what it is worth is what the hold of that sum in a sandbox is worth. -/
noncomputable def Try.pinned : Pinned := { name := "ytmhhgaggkgcdbaa", sum := "d94f35fac457ff754016c3bebb2920e50497b5ab4c874e1bcf9ed1fe32e34d44", checked := Try.checked }
namespace Rows
def none {H : Type} : Left H := { results := [], args := [] }

/-- 'laws.FnExactJoinFormulas': WHATEVER THE INPUT: true; the input reads as it did. -/
def fnExactJoinFormulasSpec : ChangeSpec := { name := "fnExactJoinFormulas", fn := fun _ => fun
  | [d1, d2, d3] => { results := [.lit (.bool true)], args := [d1, d2, d3] }
  | _ => none }
def fnExactJoinFormulasRow : OpenClaim := { program := "ytmhhgaggkgcdbaa", sum := "d94f35fac457ff754016c3bebb2920e50497b5ab4c874e1bcf9ed1fe32e34d44", func := "loop.example/g01083/laws.FnExactJoinFormulas", spec := "fnExactJoinFormulas", apart := false }
def FnExactJoinFormulasSaid : Prop := fnExactJoinFormulasRow.holds Try.pinned (OpenSpec.ofChange fnExactJoinFormulasSpec)

/-- ITS FALSE NEIGHBOUR: 'it returns false'. Refute it at one input. -/
def fnExactJoinFormulasWrong : ChangeSpec := { name := "fnExactJoinFormulas", fn := fun _ => fun
  | [d1, d2, d3] => { results := [.lit (.bool false)], args := [d1, d2, d3] }
  | _ => none }
def FnExactJoinFormulasWrongFalsely : Prop := fnExactJoinFormulasRow.holds Try.pinned (OpenSpec.ofChange fnExactJoinFormulasWrong)

/-- 'laws.FnExactNegateFormula': WHATEVER THE INPUT: true; the input reads as it did. -/
def fnExactNegateFormulaSpec : ChangeSpec := { name := "fnExactNegateFormula", fn := fun _ => fun
  | [d] => { results := [.lit (.bool true)], args := [d] }
  | _ => none }
def fnExactNegateFormulaRow : OpenClaim := { program := "ytmhhgaggkgcdbaa", sum := "d94f35fac457ff754016c3bebb2920e50497b5ab4c874e1bcf9ed1fe32e34d44", func := "loop.example/g01083/laws.FnExactNegateFormula", spec := "fnExactNegateFormula", apart := false }
def FnExactNegateFormulaSaid : Prop := fnExactNegateFormulaRow.holds Try.pinned (OpenSpec.ofChange fnExactNegateFormulaSpec)

/-- ITS FALSE NEIGHBOUR: 'it returns false'. Refute it at one input. -/
def fnExactNegateFormulaWrong : ChangeSpec := { name := "fnExactNegateFormula", fn := fun _ => fun
  | [d] => { results := [.lit (.bool false)], args := [d] }
  | _ => none }
def FnExactNegateFormulaWrongFalsely : Prop := fnExactNegateFormulaRow.holds Try.pinned (OpenSpec.ofChange fnExactNegateFormulaWrong)

/-- 'laws.FnExactSubstituteVariables': WHATEVER THE INPUT: true; the input reads as it did. -/
def fnExactSubstituteVariablesSpec : ChangeSpec := { name := "fnExactSubstituteVariables", fn := fun _ => fun
  | [d1, d2, d3] => { results := [.lit (.bool true)], args := [d1, d2, d3] }
  | _ => none }
def fnExactSubstituteVariablesRow : OpenClaim := { program := "ytmhhgaggkgcdbaa", sum := "d94f35fac457ff754016c3bebb2920e50497b5ab4c874e1bcf9ed1fe32e34d44", func := "loop.example/g01083/laws.FnExactSubstituteVariables", spec := "fnExactSubstituteVariables", apart := false }
def FnExactSubstituteVariablesSaid : Prop := fnExactSubstituteVariablesRow.holds Try.pinned (OpenSpec.ofChange fnExactSubstituteVariablesSpec)

/-- ITS FALSE NEIGHBOUR: 'it returns false'. Refute it at one input. -/
def fnExactSubstituteVariablesWrong : ChangeSpec := { name := "fnExactSubstituteVariables", fn := fun _ => fun
  | [d1, d2, d3] => { results := [.lit (.bool false)], args := [d1, d2, d3] }
  | _ => none }
def FnExactSubstituteVariablesWrongFalsely : Prop := fnExactSubstituteVariablesRow.holds Try.pinned (OpenSpec.ofChange fnExactSubstituteVariablesWrong)

/- THE SECOND FORM. 'bulk': how many values and letters a reading holds, each counted each time it is reached (what is shared counts as often as it is met; a slice's spare places count too). A statement '..UptoSaid' is the law's where the arguments, and the package variables that the reading takes, are together of bulk at most 1048576: NARROWER than '..Said'. Prove '..Said' where nothing that the law and all that it calls make is longer than what came in: it says more and counts as full. Else prove '..UptoSaid'. A law counts once. -/
mutual
def uptoBulk {H : Type} : DataW H → Nat
  | .lit (.string bytes) => bytes.length + 1
  | .lit _ => 1
  | .nil => 1
  | .ptr d => uptoBulk d + 1
  | .slice elems spare => uptoBulkAll elems + uptoBulkAll spare + 1
  | .agg parts => uptoBulkAll parts + 1
  | .iface _ d => uptoBulk d + 1
  | .map entries => uptoBulkEntries entries + 1
  | .held _ => 1
def uptoBulkAll {H : Type} : List (DataW H) → Nat
  | [] => 0
  | d :: r => uptoBulk d + uptoBulkAll r
def uptoBulkEntries {H : Type} : List (Lit × DataW H) → Nat
  | [] => 0
  | x :: r => uptoBulkEntry x + uptoBulkEntries r
def uptoBulkEntry {H : Type} : Lit × DataW H → Nat
  | (.string bytes, d) => bytes.length + uptoBulk d + 1
  | (_, d) => uptoBulk d + 1
 end
def uptoSmall : (H : Type) → List (DataW H) → Bool := fun _ ds => decide (uptoBulkAll ds ≤ 1048576)
def OpenSpec.upto (s : _root_.Go.ChangeSpec) : _root_.Go.OpenSpec := { _root_.Go.OpenSpec.ofChange s with cond := some uptoSmall }

/-- 'laws.FnExactJoinFormulas', WHERE WHAT IT READS IS OF BULK AT MOST 1048576: true; the input reads as it did. -/
def fnExactJoinFormulasUptoRow : OpenClaim := { program := "ytmhhgaggkgcdbaa", sum := "d94f35fac457ff754016c3bebb2920e50497b5ab4c874e1bcf9ed1fe32e34d44", func := "loop.example/g01083/laws.FnExactJoinFormulas", spec := "fnExactJoinFormulas", apart := false, narrowed := true }
def FnExactJoinFormulasUptoSaid : Prop := fnExactJoinFormulasUptoRow.holds Try.pinned (OpenSpec.upto fnExactJoinFormulasSpec)

/-- 'laws.FnExactNegateFormula', WHERE WHAT IT READS IS OF BULK AT MOST 1048576: true; the input reads as it did. -/
def fnExactNegateFormulaUptoRow : OpenClaim := { program := "ytmhhgaggkgcdbaa", sum := "d94f35fac457ff754016c3bebb2920e50497b5ab4c874e1bcf9ed1fe32e34d44", func := "loop.example/g01083/laws.FnExactNegateFormula", spec := "fnExactNegateFormula", apart := false, narrowed := true }
def FnExactNegateFormulaUptoSaid : Prop := fnExactNegateFormulaUptoRow.holds Try.pinned (OpenSpec.upto fnExactNegateFormulaSpec)

/-- 'laws.FnExactSubstituteVariables', WHERE WHAT IT READS IS OF BULK AT MOST 1048576: true; the input reads as it did. -/
def fnExactSubstituteVariablesUptoRow : OpenClaim := { program := "ytmhhgaggkgcdbaa", sum := "d94f35fac457ff754016c3bebb2920e50497b5ab4c874e1bcf9ed1fe32e34d44", func := "loop.example/g01083/laws.FnExactSubstituteVariables", spec := "fnExactSubstituteVariables", apart := false, narrowed := true }
def FnExactSubstituteVariablesUptoSaid : Prop := fnExactSubstituteVariablesUptoRow.holds Try.pinned (OpenSpec.upto fnExactSubstituteVariablesSpec)

end Rows
end Go.Proofs.Ytmhhgaggkgcdbaa
