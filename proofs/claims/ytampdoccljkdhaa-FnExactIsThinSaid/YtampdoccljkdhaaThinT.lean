/-
  Sets of pairs of objects that the call itself makes.
-/
import Derived.Test.YtampdoccljkdhaaApp
import Derived.Test.YtampdoccljkdhaaThinKey
import Derived.Maps.OwnOps
import Derived.Maps.OwnSet
namespace Go.Proofs.Ytampdoccljkdhaa
open Go.RowKit Go.Maps

theorem I64.wfT {x : Int} (h : I64 x) : (Lit.int .i64 x).wf = true := WalkArith.wf_i64 (by unfold I64 at h; omega)
def KL (a b : Int) : Lit := .string (keyBytes [.int .i64 a, .int .i64 b])
/-- Block b holds a set of pairs. -/
structure MapE (w : World) (b c : Nat) (F : Int → Int → Bool) : Prop where
  ex : ∃ (n : Nat) (D : DataW Unit), w.ownsMap Try.prog 81 (plainElem Try.prog 4) b n D ∧ n ≤ c ∧ ∀ x y, I64 x → I64 y → D.atKey (KL x y) (.lit (.bool false)) = .lit (.bool (F x y))
theorem MapE.made (w : World) : MapE (w.alloc (.map #[] 0)) w.heap.size 0 (fun _ _ => false) :=
  ⟨0, .map [], World.ownsMap_made _ _ _ _, by omega, fun x y _ _ => rfl⟩
theorem MapE.lt {w : World} {b c : Nat} {F : Int → Int → Bool} (h : MapE w b c F) : b < w.heap.size := by
  obtain ⟨n, D, ho, -⟩ := h.ex
  exact ho.lt
theorem MapE.kept {w w' : World} {b c : Nat} {F : Int → Int → Bool} (h : MapE w b c F) (hb : Below w.heap.size w w') : MapE w' b c F := by
  obtain ⟨n, D, ho, r⟩ := h.ex
  exact ⟨n, D, ho.kept (row := none) ⟨hb.os, hb.tape, hb.output, hb.size, fun k hk _ => hb.block k hk⟩ (fun e => by cases e), r⟩
theorem MapE.setCell {w : World} {b c : Nat} {F : Int → Int → Bool} (h : MapE w b c F) {a : Addr} (ha : b ≠ a.block) (u : Value) : MapE (w.setCell a u) b c F := by
  obtain ⟨n, D, ho, r⟩ := h.ex
  exact ⟨n, D, ho.setCell ha u, r⟩
theorem plainElem_bool_inv {v : Value} {z : DataW Unit × List MemPlace} (h : plainElem Try.prog 4 v = some z) : ∃ x, v = .bool x ∧ z = (.lit (.bool x), []) := by
  unfold plainElem at h
  rw [Try.underlying4] at h
  cases v <;> simp at h
  subst h
  exact ⟨_, rfl, rfl⟩
theorem MapE.look {w : World} {g c : Nat} {F : Int → Int → Bool} (h : MapE w g c F) {a b : Int} (ha : I64 a) (hb : I64 b) :
    (Instr.lookup 83 (.map (some g)) (.agg #[.int .i64 a, .int .i64 b]) false).run Try.prog w = .ok (.bool (F a b)) w := by
  obtain ⟨n, D, ho, _, hD⟩ := h.ex
  obtain ⟨v, ps, hr, hv⟩ := ho.lookup keyedEnds Try.underlying83 (z := .bool false) (by kernel_rfl) (plainElem_bool Try.underlying4 false) (keyE ha.wfT hb.wfT)
  have hk := hD a b ha hb
  unfold KL at hk
  rw [hk] at hv
  obtain ⟨x, rfl, hx⟩ := plainElem_bool_inv hv
  simp at hx
  obtain ⟨rfl, _⟩ := hx
  exact hr
theorem thinPut {w : World} {g c : Nat} {F : Int → Int → Bool} (h : MapE w g c F) {a b : Int} (ha : I64 a) (hb : I64 b) (hc : c < 4294967296)
    {ops : Array Oper} {rest : List Oper} {o : Oper} {ac : Act} {Q : Exit → Act → World → Prop} (hg : o.guard = none) (m x v : Operand) (hop : o.op = Op.mapUpdate 83 m x v)
    (hm : ac.eval m = .map (some g)) (hx : ac.eval x = .agg #[.int .i64 a, .int .i64 b]) (hv : ac.eval v = .bool true)
    (hK : ∀ w', MapE w' g (c + 1) (fun p q => if p = a ∧ q = b then true else F p q) → w.grownBy w' (some g) → wpList Try.prog ops Q rest (ac.put o.dst undef) w') :
    Hold (wpList Try.prog ops Q (o :: rest) ac w) := by
  show wpList Try.prog ops Q (o :: rest) ac w
  obtain ⟨n, D, ho, hn, hD⟩ := h.ex
  refine wpList_mapUpdate_own w hg m x v _ hop 81 4 keyedEnds Try.underlying83 _ g n D hm ho (by unfold maxLen; omega) _ _ _ hx hv (keyE ha.wfT hb.wfT) _ [] (plainElem_bool Try.underlying4 true) ?_
  intro w' ho' hg'
  have hmap := ho.isMap
  refine hK w' ⟨n + 1, _, ho', by omega, fun p q hp hq => ?_⟩ hg'
  by_cases e : p = a ∧ q = b
  · obtain ⟨rfl, rfl⟩ := e
    rw [if_pos ⟨rfl, rfl⟩]
    exact Maps.atKey_put_same hmap (by trivial) _ _
  · rw [if_neg e]
    rw [Maps.atKey_put_other (by
      intro h
      exact e (by have := keyE_inj hp.wfT hq.wfT ha.wfT hb.wfT h; exact this))]
    exact hD p q hp hq
end Go.Proofs.Ytampdoccljkdhaa
