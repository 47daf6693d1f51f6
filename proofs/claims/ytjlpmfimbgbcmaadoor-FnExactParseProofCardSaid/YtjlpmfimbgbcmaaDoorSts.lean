/-
  Lists of steps of the call's own.
-/
import Derived.Test.YtjlpmfimbgbcmaaDoorPst
namespace Go.Proofs.YtjlpmfimbgbcmaaDoor
open Go.RowKit

/-- A step with the values that hold its lists, and the bounds of their blocks. -/
structure SV where
  t : St
  p : Value
  c : Value
  h : Value
  lo : Nat
  m1 : Nat
  m2 : Nat
  hi : Nat
/-- The cells of a step. -/
def c7 (x : SV) : List Value := [.int .i64 x.t.rule, x.p, x.c, x.h, .string x.t.conc, .int .i64 x.t.var, .string x.t.temp]
def cS (X : List SV) : List Value := X.flatMap c7
theorem cS_length : ∀ X : List SV, (cS X).length = X.length * 7
  | [] => rfl
  | x :: X => by
    have := cS_length X
    simp only [cS, c7, List.flatMap_cons, List.length_append, List.length_cons, List.length_nil] at *
    omega
theorem cS_append (X Y : List SV) : cS (X ++ Y) = cS X ++ cS Y := by simp [cS]
theorem cS_get : ∀ (X : List SV) {i j : Nat} (h : i < X.length) (hj : j < 7), (cS X)[i * 7 + j]? = (c7 X[i])[j]?
  | [], i, _, h, _ => by simp at h
  | x :: X, 0, j, _, hj => by
    have : j = 0 ∨ j = 1 ∨ j = 2 ∨ j = 3 ∨ j = 4 ∨ j = 5 ∨ j = 6 := by omega
    rcases this with rfl | rfl | rfl | rfl | rfl | rfl | rfl <;> rfl
  | x :: X, i + 1, j, h, hj => by
    have := cS_get X (i := i) (j := j) (by simpa using h) hj
    have e2 : cS (x :: X) = .int .i64 x.t.rule :: x.p :: x.c :: x.h :: .string x.t.conc :: .int .i64 x.t.var :: .string x.t.temp :: cS X := rfl
    rw [e2, show (i + 1) * 7 + j = i * 7 + j + 7 by omega]
    exact this
/-- The blocks of a step's lists lie in its own bounds. -/
structure ElS (w : World) (x : SV) : Prop where
  op : OwnT 2 x.lo x.m1 w x.p x.t.prem
  oc : OwnT 2 x.m1 x.m2 w x.c x.t.ctx
  oh : OwS w x.m2 x.h x.t.hyp
  ot : ∀ k, x.h.ownBlock = some k → k < x.hi
  le : x.lo ≤ x.m1 ∧ x.m1 ≤ x.m2 ∧ x.m2 ≤ x.hi
  wf : I64 x.t.rule ∧ I64 x.t.var
theorem ElS.within {w w' : World} {x : SV} {B T : Nat} (h : ElS w x) (hb : Within B T w w') (hd : x.hi ≤ B ∨ T ≤ x.lo) : ElS w' x := by
  have hle := h.le
  refine ⟨h.op.kept hb (by omega), h.oc.kept hb (by omega), ⟨ownsRow_within h.oh.row hb (fun k hk => ?_), h.oh.len⟩, h.ot, h.le, h.wf⟩
  have := (h.oh.lt k hk).1
  have := h.ot k hk
  omega
theorem ElS.grew {w w' : World} {x : SV} {v v' : Value} (h : ElS w x) (hg : Grew w w' v v') (hd : ∀ k, v.ownBlock = some k → k < x.lo ∨ x.hi ≤ k) : ElS w' x := by
  have hle := h.le
  have key : ∀ u : Value, (∀ k, u.ownBlock = some k → x.lo ≤ k ∧ k < x.hi) → Dj u v := by
    intro u hu
    cases e : u.ownBlock with
    | none => exact .inl e
    | some k =>
      refine .inr (fun e2 => ?_)
      rw [e] at e2
      have := hu k e
      have := hd k e2.symm
      omega
  have dp := key x.p (fun k hk => by have := h.op.own.row.lt k hk; have := h.op.top k hk; omega)
  have dc := key x.c (fun k hk => by have := h.oc.own.row.lt k hk; have := h.oc.top k hk; omega)
  have dh := key x.h (fun k hk => by have := h.oh.lt k hk; have := h.ot k hk; omega)
  exact ⟨h.op.grew hg dp, h.oc.grew hg dc, ⟨ownsRow_grew h.oh.row hg dh, h.oh.len⟩, h.ot, h.le, h.wf⟩
/-- v is a slice of steps of the call's own, in blocks from B on, below T. -/
structure OSt (B T : Nat) (w : World) (v : Value) (X : List SV) : Prop where
  row : w.ownsRow B 54 7 v X.length (cS X)
  top : ∀ k, v.ownBlock = some k → k < T
  els : ∀ x ∈ X, ElS w x ∧ B ≤ x.lo ∧ x.hi ≤ T
  pw : X.Pairwise (fun x y => x.hi ≤ y.lo)
  out : ∀ x ∈ X, ∀ k, v.ownBlock = some k → k < x.lo ∨ x.hi ≤ k
section
variable {B T B' T' : Nat} {w w' : World} {v : Value} {X : List SV}
theorem OSt.mono (h : OSt B T w v X) (hB : B' ≤ B) (hT : T ≤ T') : OSt B' T' w v X := by
  refine ⟨⟨h.row.1, ?_⟩, fun k hk => Nat.lt_of_lt_of_le (h.top k hk) hT, fun x hx => ⟨(h.els x hx).1, Nat.le_trans hB (h.els x hx).2.1, Nat.le_trans (h.els x hx).2.2 hT⟩, h.pw, h.out⟩
  rcases h.row.2 with hn | ⟨g, cap, cur, hv, hBg, rest⟩
  · exact .inl hn
  · exact .inr ⟨g, cap, cur, hv, by omega, rest⟩
theorem OSt.kept (h : OSt B T w v X) (hb : Within B' T' w w') (hd : T ≤ B' ∨ T' ≤ B) : OSt B T w' v X := by
  refine ⟨ownsRow_within h.row hb (fun k hk => ?_), h.top, fun x hx => ⟨(h.els x hx).1.within hb (by have := (h.els x hx).2; omega), (h.els x hx).2⟩, h.pw, h.out⟩
  have := h.top k hk
  have := (h.row.lt k hk).1
  omega
theorem OSt.keptB (h : OSt B T w v X) (hb : Below w.heap.size w w') : OSt B T w' v X := h.kept (below_within hb B) (.inr (Nat.le_refl _))
theorem OSt.lt (h : OSt B T w v X) : ∀ k, v.ownBlock = some k → B ≤ k ∧ k < T := fun k hk => ⟨(h.row.lt k hk).1, h.top k hk⟩
theorem OSt.empty {m : Nat} (hB : B ≤ w.heap.size) (hm : w.heap.size = m) : OSt B (m + 1) (w.alloc (.cells #[] 54)) (.slice (some ⟨m, 0, none⟩) 0 0) [] := by
  subst hm
  exact ⟨World.ownsRow_made w #[] 0 hB (by simp [maxLen]) (by simp), (fun k hk => by simp [Value.ownBlock] at hk; omega), (fun x hx => by cases hx), List.Pairwise.nil, (fun x hx => by cases hx)⟩
theorem OSt.opened (h : OSt B T w v X) : ∃ ao c, v = .slice ao X.length c := by
  rcases h.row.2 with ⟨rfl, hn⟩ | ⟨g, cap, cur, rfl, _⟩
  · exact ⟨none, 0, by rw [hn]⟩
  · exact ⟨_, cap, rfl⟩
end
/-- A row of strings and a row of another type do not lie in one block. -/
theorem dj_typesS {E' : TypeId} {sz : Nat} {w : World} {B B' n : Nat} {u v : Value} {xs : List ByteArray} {ys : List Value} (hne : 9 ≠ E') (hu : OwS w B u xs) (hv : w.ownsRow B' E' sz v n ys) : Dj u v := by
  unfold Dj
  rcases hu.row.2 with ⟨rfl, _⟩ | ⟨g, cap, cur, rfl, _, hg, _⟩
  · exact .inl rfl
  · rcases hv.2 with ⟨rfl, _⟩ | ⟨g', cap', cur', rfl, _, hg', _⟩
    · exact .inr (fun e => by simp [Value.ownBlock] at e)
    · refine .inr (fun e => ?_)
      simp only [Value.ownBlock, Option.some.injEq] at e
      subst e
      rw [hg] at hg'
      injection hg' with h
      injection h with h1 h2
      exact hne h2
theorem oneCell_sl {E : TypeId} {w : World} {B n : Nat} {u : Value} {xs : List Value} (hu : w.ownsRow B E 1 u n xs) : u.oneCell' = true := by
  rcases hu.2 with ⟨rfl, _⟩ | ⟨g, cap, cur, rfl, _⟩ <;> rfl
theorem infoStep : (Tryd.prog.info? 54).map (fun i => (i.zero, i.size, i.bytes)) = some (some (.agg #[.int .i64 0, .slice none 0 0, .slice none 0 0, .slice none 0 0, .string ⟨#[]⟩, .int .i64 0, .string ⟨#[]⟩]), 7, 120) := by kernel_rfl
section
variable {w : World}
/-- append(out, step): the step's cells at block m; its lists are younger than the list. -/
theorem run_appSt {B N m : Nat} {v : Value} {X : List SV} {x : SV} {ty : TypeId}
    (hv : OSt B N w v X) (hx : ElS w x) (cc : ∀ j, j < 7 → w.cell? ⟨m, j, none⟩ = (c7 x)[j]?) (hlo : N ≤ x.lo) (hhi : x.hi ≤ w.heap.size)
    (hBN : B ≤ N) (hl : X.length < 1048576) :
    ∃ v' w', (Builtin.append_ #[30, 30] ty #[v, .slice (some ⟨m, 0, none⟩) 1 1]).run Tryd.prog w = .ok v' w' ∧ OSt B w'.heap.size w' v' (X ++ [x]) ∧ Grew w w' v v' := by
  obtain ⟨i, hi, hz0, hz1, hz2⟩ := info_parts infoStep
  have hle := hx.le
  obtain ⟨v', w', hrn, k2, k3⟩ := run_append_own2 (P := Tryd.prog) (w := w) B 30 ty 54 i _ 7 120 Tryd.underlying30 hi hz0 hz1 hz2 rfl (by decide) v X.length _ hv.row ⟨m, 0, none⟩ 1 1 (c7 x) rfl
    (by
      intro j y hj
      have hj7 : j < 7 := by
        have := (List.getElem?_eq_some_iff.1 hj).1
        simpa [c7] using this
      have e : ((⟨m, 0, none⟩ : Addr).add j) = ⟨m, j, none⟩ := by
        have : j = 0 ∨ j = 1 ∨ j = 2 ∨ j = 3 ∨ j = 4 ∨ j = 5 ∨ j = 6 := by omega
        rcases this with rfl | rfl | rfl | rfl | rfl | rfl | rfl <;> simp [Addr.add]
      rw [e]
      exact (cc j hj7).trans hj)
    (by
      intro y hy
      simp [c7] at hy
      rcases hy with rfl | rfl | rfl | rfl | rfl | rfl | rfl
      · rfl
      · exact oneCell_sl hx.op.own.row
      · exact oneCell_sl hx.oc.own.row
      · exact oneCell_sl hx.oh.row
      · rfl
      · rfl
      · rfl) (by unfold maxLen; omega) (by omega) (by omega)
  have hsz := k3.grown.size
  have hvx : ∀ k, v.ownBlock = some k → k < x.lo ∨ x.hi ≤ k := fun k hk => by have := hv.top k hk; omega
  refine ⟨v', w', hrn, ⟨?_, fun k hk => (k2.lt k hk).2, fun y hy => ?_, ?_, fun y hy k hk => ?_⟩, k3⟩
  · rw [List.length_append, cS_append]
    simpa [cS] using k2
  · rcases List.mem_append.1 hy with hy | hy
    · have := (hv.els y hy).2
      exact ⟨(hv.els y hy).1.grew k3 (hv.out y hy), this.1, by omega⟩
    · simp at hy; subst hy
      exact ⟨hx.grew k3 hvx, by omega, by omega⟩
  · rw [List.pairwise_append]
    refine ⟨hv.pw, by simp, fun a ha b hb => ?_⟩
    simp at hb; subst hb
    have := (hv.els a ha).2.2
    omega
  · rcases k3.blk with e | ⟨q, e, hq⟩
    · rw [e] at hk
      rcases List.mem_append.1 hy with hy | hy
      · exact hv.out y hy k hk
      · simp at hy; subst hy; exact hvx k hk
    · rw [e] at hk
      cases hk
      rcases List.mem_append.1 hy with hy | hy
      · have := (hv.els y hy).2.2
        omega
      · simp at hy; subst hy; omega
/-- .. in a plain region. -/
theorem appSt {B N m : Nat} {v : Value} {X : List SV} {x : SV}
    (hv : OSt B N w v X) (hx : ElS w x) (cc : ∀ j, j < 7 → w.cell? ⟨m, j, none⟩ = (c7 x)[j]?) (hlo : N ≤ x.lo) (hhi : x.hi ≤ w.heap.size)
    (hBN : B ≤ N) (hl : X.length < 1048576)
    {ops : Array Oper} {rest : List Oper} {o : Oper} {a : Act} {Q : Exit → Act → World → Prop} (hgd : o.guard = none) (s y : Operand)
    (ho : o.op = .call { callee := .builtin .append, args := #[s, y], argTypes := #[30, 30] })
    (hs : a.eval s = v) (hy : a.eval y = .slice (some ⟨m, 0, none⟩) 1 1)
    (h : ∀ v' w', OSt B w'.heap.size w' v' (X ++ [x]) → Grew w w' v v' → wpList Tryd.prog ops Q rest (a.put o.dst v') w') : Hold (wpList Tryd.prog ops Q (o :: rest) a w) := by
  show wpList Tryd.prog ops Q (o :: rest) a w
  refine wpList_plain hgd fun K hK => ?_
  obtain ⟨v', w', hrn, k2, k3⟩ := run_appSt (ty := o.type) hv hx cc hlo hhi hBN hl
  unfold Oper.wp execOp
  simp only [ho, resolve, invoke, builtin, Sem.run_bind, Sem.run_pure, Result.andThen_ok, List.map_toArray, List.map_cons, List.map_nil, hs, hy, hrn]
  exact hK _ _ (h v' w' k2 k3)
end
end Go.Proofs.YtjlpmfimbgbcmaaDoor
