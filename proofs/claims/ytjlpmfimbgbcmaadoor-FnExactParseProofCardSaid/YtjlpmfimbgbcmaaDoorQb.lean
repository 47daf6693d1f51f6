/-
  A region that draws its order, whose operations read and whose calls make memory, but each with one value in every world that goes on from here: one walk in the order of the text. Over any program.
-/
import Derived.Test.YtjlpmfimbgbcmaaDoorBase
namespace Go.Proofs.YtjlpmfimbgbcmaaDoor
open Go.RowKit

section
variable {P : Program}
/-- The walk in the order of the text, under a lid. -/
structure QW (P : Program) (ops : Array Oper) (C : World → Prop) (Q : Act → Prop) (l : List Oper) (a : Act) : Prop where
  out : wpQuiet P ops C Q l a
theorem qw_step {ops : Array Oper} {C : World → Prop} {Q : Act → Prop} {a : Act} {o : Oper} {rest : List Oper}
    (h : ∀ K : Act → Prop, (∀ a, QW P ops C Q rest a → K a) → if Region.wanted o (yielded ops a.tmps) = true then o.quiet P a C K else K (a.put o.dst undef)) : QW P ops C Q (o :: rest) a :=
  ⟨wpQuiet_step fun K hK => h K fun a q => hK a q.out⟩
theorem qw_nil {ops : Array Oper} {C : World → Prop} {Q : Act → Prop} {a : Act} (h : Q a) : QW P ops C Q [] a := ⟨h⟩
theorem wp_region_qb {id : Nat} {Q : Exit → Act → World → Prop} {a : Act} {w : World} {l : List Oper} (hm : P.follows .mixedOrders = true) (hB : Region.lexB .any l.toArray = true)
    (h : QW P l.toArray (fun w' => Below w.heap.size w w') (fun a' => ∀ w', Below w.heap.size w w' → Q .normal a' w') l a) : (Code.region id l.toArray true).wp P Q a w :=
  wp_region_quiet (C := fun w' => Below w.heap.size w w') hm hB (show Below w.heap.size w w.drew from (Drawn.one (Drawn.refl w)).below _) (by simpa using h.out)
theorem qb_yes {ops : Array Oper} {C : World → Prop} {K : Act → Prop} {o : Oper} {a : Act} (hw : Region.wanted o (yielded ops a.tmps) = true)
    (h : ∃ v, (∀ w', C w' → o.quietAt P a C w' v) ∧ K (a.put o.dst v)) : if Region.wanted o (yielded ops a.tmps) = true then o.quiet P a C K else K (a.put o.dst undef) := by
  rw [if_pos hw]; exact h
theorem qb_no {ops : Array Oper} {C : World → Prop} {K : Act → Prop} {o : Oper} {a : Act} (hw : Region.wanted o (yielded ops a.tmps) = false)
    (h : K (a.put o.dst undef)) : if Region.wanted o (yielded ops a.tmps) = true then o.quiet P a C K else K (a.put o.dst undef) := by
  rw [if_neg (by rw [hw]; exact Bool.false_ne_true)]; exact h
theorem calls_qb {f : FuncId} {args : Array Value} {w w' : World} {v : Value} (hC : Below w.heap.size w w') (h : Calls P f args w' (Ret w' v)) : Calls P f args w' (fun e w'' => e = .returned v ∧ Below w.heap.size w w'') :=
  h.mono fun _ _ ⟨he, hb⟩ => ⟨he, bel_next hC hb⟩
theorem calls_qr {f : FuncId} {args : Array Value} {w w' : World} {v : Value} (hC : Below w.heap.size w w') (h : Calls P f args w' (Rd w' v)) : Calls P f args w' (fun e w'' => e = .returned v ∧ Below w.heap.size w w'') :=
  calls_qb hC (h.mono fun _ _ h => rd_ret h)
end
end Go.Proofs.YtjlpmfimbgbcmaaDoor
