/-
  Tables of eight rows of eight numbers: laws on their operations. Over this program.
-/
import Derived.Test.YtkmkbmhpdnddnaaCat7
import Derived.Deep.MidRow
import Derived.Laws.Rows
import Derived.StillTailTactics
namespace Go.Proofs.Ytkmkbmhpdnddnaa
open Go.RowKit

def z64 : Array Value := Array.replicate 64 (.int .i64 0)
theorem z64_size : z64.size = 64 := by simp [z64]
theorem z64_at {i : Nat} (h : i < 64) : z64[i]? = some (.int .i64 0) := by simp [z64, h]
theorem run_alloc64 (w : World) : (Instr.alloc 80 true (.tuple #[])).run Try.prog w = .ok (.pointer (some ⟨w.heap.size, 0, none⟩)) (w.alloc (.cells z64 80)) := by kernel_rfl
theorem run_build64 (w : World) : (Instr.build 80 #[]).run Try.prog w = .ok (.agg z64) w := by kernel_rfl
theorem info64 : (Try.prog.info? 80).map (·.size) = some 64 := by kernel_rfl
section
variable {ops : Array Oper} {rest : List Oper} {o : Oper} {a : Act} {w : World} {Q : Exit → Act → World → Prop}
theorem wpList_alloc64 (hg : o.guard = none) (hop : o.op = .alloc 80) (h : wpList Try.prog ops Q rest (a.put o.dst (.pointer (some ⟨w.heap.size, 0, none⟩))) (w.alloc (.cells z64 80))) : wpList Try.prog ops Q (o :: rest) a w := by
  refine wpList_plain hg fun K hK => ?_
  have hrun := run_alloc64 w
  unfold Oper.wp execOp
  rw [hop]
  simp only [Sem.run_bind, Sem.run_pure, hrun, Result.andThen_ok]
  exact hK _ _ h
theorem wpList_build64 (hg : o.guard = none) (hop : o.op = .build 80 #[]) (h : wpList Try.prog ops Q rest (a.put o.dst (.agg z64)) w) : wpList Try.prog ops Q (o :: rest) a w := by
  refine wpList_plain hg fun K hK => ?_
  have hrun := run_build64 w
  unfold Oper.wp execOp
  rw [hop]
  have e : (#[] : Array (Nat × Operand)).map (fun (x : Nat × Operand) => (x.1, a.eval x.2)) = #[] := by simp
  simp only [Sem.run_bind, Sem.run_pure, e, hrun, Result.andThen_ok]
  exact hK _ _ h
end
/-- Cells stored one behind the other into a row. -/
theorem rowIs_setCells {b : Nat} {t : TypeId} {n : Nat} : ∀ (vs : List Value) (o : Nat) (w : World) (f : Nat → Value), w.rowIs b t n f →
    (w.setCells b o vs).rowIs b t n (fun j => if o ≤ j ∧ j < o + vs.length then vs.getD (j - o) undef else f j)
  | [], o, _, f, h => h.congr fun j _ => by rw [if_neg (by simp only [List.length_nil]; omega)]
  | v :: r, o, w, f, h => by
    have h2 := rowIs_setCells r (o + 1) _ _ (h.set o v)
    refine h2.congr fun j _ => ?_
    by_cases e : j = o
    · subst e
      rw [if_neg (by omega), if_pos rfl, if_pos (by simp)]
      simp
    · by_cases h1 : o + 1 ≤ j ∧ j < o + 1 + r.length
      · rw [if_pos h1, if_pos (by simp; omega), show j - o = (j - (o + 1)) + 1 from by omega]
        rfl
      · rw [if_neg h1, if_neg e, if_neg (by simp; omega)]
theorem heap_setCells {b k : Nat} (hne : k ≠ b) : ∀ (vs : List Value) (o : Nat) (w : World), (w.setCells b o vs).heap[k]? = w.heap[k]?
  | [], _, _ => rfl
  | v :: r, o, w => by
    show ((w.setCell ⟨b, o, none⟩ v).setCells b (o + 1) r).heap[k]? = _
    rw [heap_setCells hne r (o + 1)]
    exact Below.heap_setCell _ _ _ _ hne
theorem below_setCells {B b : Nat} (hB : B ≤ b) : ∀ (vs : List Value) (o : Nat) (a w : World), Below B a w → Below B a (w.setCells b o vs)
  | [], _, _, _, h => h
  | v :: r, o, a, _, h => below_setCells hB r (o + 1) a _ (h.setCell hB v)
theorem there_row {w : World} {b n : Nat} {t : TypeId} {f : Nat → Value} (h : w.rowIs b t n f) : w.there b 0 n := fun j hj => by
  rw [Nat.zero_add]
  exact ⟨by rw [h.cell hj]; rfl, h.frozen j⟩
theorem stop_store {ops : Array Oper} {rest : List Oper} {o : Oper} {a : Act} {w : World} {Q : Exit → Act → World → Prop} {ty : TypeId} {x y : Operand} (_ : o.op = .store ty x y) (h : Hold (wpList Try.prog ops Q (o :: rest) a w)) : wpList Try.prog ops Q (o :: rest) a w := h
theorem stop_load {ops : Array Oper} {rest : List Oper} {o : Oper} {a : Act} {w : World} {Q : Exit → Act → World → Prop} {x : Operand} (_ : o.op = .load 80 x) (h : Hold (wpList Try.prog ops Q (o :: rest) a w)) : wpList Try.prog ops Q (o :: rest) a w := h
/-- How many of the first k arrows lie at place i of the table. -/
def cntA (c : Cat) : Nat → Nat → Int
  | 0, _ => 0
  | k + 1, i => if (c.F k).toNat * 8 + (c.T k).toNat = i then cntA c k i + 1 else cntA c k i
theorem cntA_bd (c : Cat) (i : Nat) : ∀ k : Nat, 0 ≤ cntA c k i ∧ cntA c k i ≤ k
  | 0 => by simp [cntA]
  | k + 1 => by
    have := cntA_bd c i k
    unfold cntA
    split <;> omega
end Go.Proofs.Ytkmkbmhpdnddnaa
