/-
  A map from int64 to int64 that the call itself makes, told as a partial function and a count. Over any program.
-/
import Derived.Test.YtocgbhcfnphnhaaApp
import Derived.Maps.OwnOps
import Derived.Maps.OwnSet
namespace Go.Proofs.Ytocgbhcfnphnhaa
open Go.RowKit Go.Maps

/-- Block b holds a map with c entries that answers as F. -/
structure MapI (P : Program) (k e : TypeId) (w : World) (b c : Nat) (F : Int → Option Int) : Prop where
  ex : ∃ (n : Nat) (D : DataW Unit), w.ownsMap P k (plainElem P e) b n D ∧ n ≤ c ∧ Maps.size D = c ∧
    ∀ y, (F y = none → Maps.has D (.int .i64 y) = false) ∧ (∀ z, F y = some z → Maps.has D (.int .i64 y) = true ∧ D.atKey (.int .i64 y) (.lit (.int .i64 0)) = .lit (.int .i64 z))

theorem I64.wf {x : Int} (h : I64 x) : (Lit.int .i64 x).wf = true := WalkArith.wf_i64 (by unfold I64 at h; omega)

section
variable {P : Program} {k e t : TypeId}
theorem MapI.made (P : Program) (k e : TypeId) (w : World) : MapI P k e (w.alloc (.map #[] 0)) w.heap.size 0 (fun _ => none) :=
  ⟨0, .map [], World.ownsMap_made _ _ _ _, by omega, rfl, fun y => ⟨fun _ => rfl, fun z h => by cases h⟩⟩
theorem MapI.lt {w : World} {b c : Nat} {F : Int → Option Int} (h : MapI P k e w b c F) : b < w.heap.size := by
  obtain ⟨n, D, ho, -⟩ := h.ex
  exact ho.lt
theorem MapI.kept {w w' : World} {b c : Nat} {F : Int → Option Int} (h : MapI P k e w b c F) (hb : Below w.heap.size w w') : MapI P k e w' b c F := by
  obtain ⟨n, D, ho, r⟩ := h.ex
  exact ⟨n, D, ho.kept (row := none) ⟨hb.os, hb.tape, hb.output, hb.size, fun k hk _ => hb.block k hk⟩ (fun e => by cases e), r⟩
theorem MapI.other {w w' : World} {b c : Nat} {F : Int → Option Int} {row : Option Nat} (h : MapI P k e w b c F) (hg : w.grownBy w' row) (hne : some b ≠ row) : MapI P k e w' b c F := by
  obtain ⟨n, D, ho, r⟩ := h.ex
  exact ⟨n, D, ho.kept hg hne, r⟩
theorem MapI.setCell {w : World} {b c : Nat} {F : Int → Option Int} (h : MapI P k e w b c F) {a : Addr} (ha : b ≠ a.block) (u : Value) : MapI P k e (w.setCell a u) b c F := by
  obtain ⟨n, D, ho, r⟩ := h.ex
  exact ⟨n, D, ho.setCell ha u, r⟩

variable {w : World} {b c : Nat} {F : Int → Option Int} (h : MapI P k e w b c F) (hk : P.underlying k = some (.int .i64)) (he : P.underlying e = some (.int .i64)) (ht : P.underlying t = some (.map k e))
include h ht
theorem MapI.len (ty : TypeId) : (Builtin.len_ #[t] ty #[.map (some b)]).run P w = .ok (.int .i64 c) w := by
  obtain ⟨n, D, ho, _, hs, _⟩ := h.ex
  rw [ho.len ht ty, hs]
include hk he
theorem MapI.lookNo (hz : (zeroValue e).run P w = .ok (.int .i64 0) w) {y : Int} (hy : I64 y) (hF : F y = none) :
    (Instr.lookup t (.map (some b)) (.int .i64 y) true).run P w = .ok (.tuple #[.int .i64 0, .bool false]) w := by
  obtain ⟨n, D, ho, _, _, hD⟩ := h.ex
  obtain ⟨v, ps, hr, hv⟩ := ho.look_ok (int_keyed hk) ht hz (plainElem_int he (by decide)) (keyOf_int_mk hk hy.wf)
  have hh := (hD y).1 hF
  rw [hh] at hr
  rw [Maps.atKey_of_not_has hh] at hv
  obtain ⟨c', rfl, hc, _⟩ := plainElem_int_inv he hv
  simp at hc
  obtain ⟨rfl, _⟩ := hc
  exact hr
theorem MapI.lookYes (hz : (zeroValue e).run P w = .ok (.int .i64 0) w) {y z : Int} (hy : I64 y) (hF : F y = some z) :
    (Instr.lookup t (.map (some b)) (.int .i64 y) true).run P w = .ok (.tuple #[.int .i64 z, .bool true]) w := by
  obtain ⟨n, D, ho, _, _, hD⟩ := h.ex
  obtain ⟨v, ps, hr, hv⟩ := ho.look_ok (int_keyed hk) ht hz (plainElem_int he (by decide)) (keyOf_int_mk hk hy.wf)
  obtain ⟨hh, ha⟩ := (hD y).2 z hF
  rw [hh] at hr
  rw [ha] at hv
  obtain ⟨c', rfl, hc, _⟩ := plainElem_int_inv he hv
  simp at hc
  obtain ⟨rfl, _⟩ := hc
  exact hr
/-- m[y] = z, behind which the map answers z at y. -/
theorem mapPut {y z : Int} (hy : I64 y) (hzz : I64 z) (hF : F y = none) (hc : c < 4294967296)
    {ops : Array Oper} {rest : List Oper} {o : Oper} {a : Act} {Q : Exit → Act → World → Prop} (hg : o.guard = none) (m x v : Operand) (hop : o.op = Op.mapUpdate t m x v)
    (hm : a.eval m = .map (some b)) (hx : a.eval x = .int .i64 y) (hv : a.eval v = .int .i64 z)
    (hK : ∀ w', MapI P k e w' b (c + 1) (fun q => if q = y then some z else F q) → w.grownBy w' (some b) → wpList P ops Q rest (a.put o.dst undef) w') :
    Hold (wpList P ops Q (o :: rest) a w) := by
  show wpList P ops Q (o :: rest) a w
  obtain ⟨n, D, ho, hn, hs, hD⟩ := h.ex
  refine wpList_mapUpdate_own w hg m x v t hop k e (int_keyed hk) ht _ b n D hm ho (by unfold maxLen; omega) _ _ _ hx hv (keyOf_int_mk hk hy.wf) _ [] (plainElem_int he hzz.wf) ?_
  intro w' ho' hg'
  have hmap := ho.isMap
  have htidy := ho.tidy (int_keyed hk)
  refine hK w' ⟨n + 1, _, ho', by omega, ?_, fun q => ⟨fun hq => ?_, fun z' hq => ?_⟩⟩ hg'
  · rw [Maps.size_put htidy, (hD y).1 hF]; simp [hs]
  · by_cases e1 : q = y
    · rw [if_pos e1] at hq; cases hq
    · rw [if_neg e1] at hq
      rw [Maps.has_put_other (by simpa using e1)]
      exact (hD q).1 hq
  · by_cases e1 : q = y
    · subst e1
      rw [if_pos rfl] at hq
      injection hq with hq
      subst hq
      exact ⟨Maps.has_put_same hmap (by trivial) _, Maps.atKey_put_same hmap (by trivial) _ _⟩
    · rw [if_neg e1] at hq
      rw [Maps.has_put_other (by simpa using e1), Maps.atKey_put_other (by simpa using e1)]
      exact (hD q).2 z' hq
end
end Go.Proofs.Ytocgbhcfnphnhaa
