/-
  commaList: the program's reading of numbers with commas between them.
-/
import Derived.Test.YtjlpmfimbgbcmaaDoorLd
import Derived.Test.YtjlpmfimbgbcmaaDoorSq
import Derived.RangeFuncBox
import Derived.Maps.AppendAt
namespace Go.Proofs.YtjlpmfimbgbcmaaDoor
open Go.RowKit Go.Shelf
attribute [local go_sem] Oper.semAt_some

/-- The numbers that a text with commas spells. -/
def clist (s : ByteArray) : Option (List Int) := if s.size = 0 then some [] else if ∀ x ∈ pcs 44 s, 0 ≤ val x then some ((pcs 44 s).map val) else none

theorem boxed_turn {W W' : World} {row : Option Nat} {B : Nat} {t : TypeId} {v : Value} (h : Boxed W B t v) (hg : W.grownBy W' row) (hr : ∀ r, row = some r → ∃ o : Obj, W.heap[r]? = some o ∧ o.isCells = false) : Boxed W' B t v :=
  h.kept hg (fun e => by
    obtain ⟨o, ho, hc⟩ := hr B e.symm
    rw [show W.heap[B]? = _ from h] at ho; cases ho; cases hc)
theorem ownsRow_turn {W W' : World} {row : Option Nat} {base : Nat} {E : TypeId} {sz : Nat} {v : Value} {k : Nat} {xs : List Value} (h : W.ownsRow base E sz v k xs) (hg : W.grownBy W' row) (hr : ∀ r, row = some r → ∃ o : Obj, W.heap[r]? = some o ∧ o.isCells = false) : W'.ownsRow base E sz v k xs := by
  refine h.kept hg ?_
  rcases h.2 with ⟨rfl, _⟩ | ⟨g, cap, cur, rfl, _, hgb, _⟩
  · exact .inl rfl
  · refine .inr fun e' => ?_
    obtain ⟨o, ho, hc⟩ := hr g (by simpa [Value.ownBlock] using e'.symm)
    rw [hgb] at ho; cases ho; cases hc

/-- Between two rounds: the results' boxes (b, b + 1), the list's box (b + 3), the text's box (t). -/
structure CI (b : Nat) (w : World) (t : Nat) (pre : List ByteArray) (W : World) : Prop where
  r0 : Boxed W b 42 (.slice none 0 0)
  r1 : Boxed W (b + 1) 4 (.bool false)
  out : ∃ v, Boxed W (b + 3) 42 v ∧ W.ownsRow b 2 1 v pre.length (pre.map fun x => .int .i64 (val x))
  str : ∃ u, Boxed W t 9 u
  sep : Boxed W (t + 1) 9 (.string ⟨#[44]⟩)
  sav : Boxed W (t + 2) 3 (.int .i64 0)
  ok : ∀ x ∈ pre, 0 ≤ val x
  bel : Below b w W
structure CX (b : Nat) (w : World) (W : World) : Prop where
  r0 : Boxed W b 42 (.slice none 0 0)
  r1 : Boxed W (b + 1) 4 (.bool false)
  bel : Below b w W

theorem CI.turn {b t : Nat} {w : World} {pre : List ByteArray} {A B : World} {row : Option Nat} (h : CI b w t pre A) (hg : A.grownBy B row) (hr : ∀ r, row = some r → b ≤ r ∧ ∃ o : Obj, A.heap[r]? = some o ∧ o.isCells = false) (hw : b ≤ w.heap.size) : CI b w t pre B := by
  have hr' : ∀ r, row = some r → ∃ o : Obj, A.heap[r]? = some o ∧ o.isCells = false := fun r e => (hr r e).2
  obtain ⟨v, h1, h2⟩ := h.out
  obtain ⟨u, h3⟩ := h.str
  exact ⟨boxed_turn h.r0 hg hr', boxed_turn h.r1 hg hr', ⟨v, boxed_turn h1 hg hr', ownsRow_turn h2 hg hr'⟩, ⟨u, boxed_turn h3 hg hr'⟩, boxed_turn h.sep hg hr', boxed_turn h.sav hg hr', h.ok, h.bel.grown hg (Nat.le_trans hw h.bel.size) (fun k e => (hr k e).1)⟩
theorem CX.turn {b : Nat} {w : World} {A B : World} {row : Option Nat} (h : CX b w A) (hg : A.grownBy B row) (hr : ∀ r, row = some r → b ≤ r ∧ ∃ o : Obj, A.heap[r]? = some o ∧ o.isCells = false) (hw : b ≤ w.heap.size) : CX b w B := by
  have hr' : ∀ r, row = some r → ∃ o : Obj, A.heap[r]? = some o ∧ o.isCells = false := fun r e => (hr r e).2
  exact ⟨boxed_turn h.r0 hg hr', boxed_turn h.r1 hg hr', h.bel.grown hg (Nat.le_trans hw h.bel.size) (fun k e => (hr k e).1)⟩
theorem CI.text {b t : Nat} {w : World} {pre : List ByteArray} {A : World} (h : CI b w t pre A) (ht : b + 4 ≤ t) (x : Value) : CI b w t pre (A.setCell ⟨t, 0, none⟩ x) := by
  have hg := grownBy_setCell' A t x
  obtain ⟨v, h1, h2⟩ := h.out
  obtain ⟨u, h3⟩ := h.str
  refine ⟨h.r0.kept hg (by simp; omega), h.r1.kept hg (by simp; omega), ⟨v, h1.kept hg (by simp; omega), h2.kept hg (.inr (h3.not_row (by decide) h2).symm)⟩, ⟨x, h3.set x⟩, h.sep.kept hg (by simp), h.sav.kept hg (by simp), h.ok, h.bel.setCell (p := ⟨t, 0, none⟩) (by show b ≤ t; omega) _⟩

theorem grown_of_below {A B : World} (h : Below A.heap.size A B) : A.grownBy B none := ⟨h.os, h.tape, h.output, h.size, fun k hk _ => h.block k hk⟩
theorem CI.keep {b t : Nat} {w : World} {pre : List ByteArray} {A B : World} (h : CI b w t pre A) (hg : Below A.heap.size A B) (hw : b ≤ w.heap.size) : CI b w t pre B :=
  h.turn (grown_of_below hg) (fun r e => by cases e) hw
theorem Kt.grown {t : Nat} {W W' : World} {row : Option Nat} (hg : W.grownBy W' row) (h : ∀ r, row = some r → r < t ∨ t + 3 ≤ r) : Kt t W W' := fun k o h1 h2 hk =>
  (hg.block k (Array.getElem?_eq_some_iff.1 hk).1 (fun e => by have := h k e.symm; omega)).trans hk
/-- The growing list does not lie in the iterator's blocks. -/
theorem CI.row {b t : Nat} {w : World} {pre : List ByteArray} {A : World} (h : CI b w t pre A) {v : Value} {k : Nat} {xs : List Value} (hv : A.ownsRow b 2 1 v k xs) : ∀ r, v.ownBlock = some r → r < t ∨ t + 3 ≤ r := by
  intro r e
  obtain ⟨u, h0⟩ := h.str
  have n0 := h0.not_row (by decide) hv
  have n1 := h.sep.not_row (by decide) hv
  have n2 := h.sav.not_row (by decide) hv
  rw [e] at n0 n1 n2
  simp only [ne_eq, Option.some.injEq] at n0 n1 n2
  omega
theorem KeepsFrom.of_below {B : Nat} {A C : World} (h : Below A.heap.size A C) : KeepsFrom B A C := ⟨h.size, fun k _ _ hk _ => (h.block k (Array.getElem?_eq_some_iff.1 hk).1).trans hk⟩

theorem pcs_size (c : UInt8) : ∀ (n : Nat) (s : ByteArray), s.size ≤ n → ∀ x ∈ pcs c s, x.size ≤ s.size := by
  intro n
  induction n with
  | zero =>
    intro s hs x hx
    rcases pcs_cases c s with h | ⟨j, hj, e, h⟩
    · rw [(pcs_miss h).2] at hx
      simp at hx; rw [hx]; exact Nat.le_refl _
    · omega
  | succ n ih =>
    intro s hs x hx
    rcases pcs_cases c s with h | ⟨j, hj, e, h⟩
    · rw [(pcs_miss h).2] at hx
      simp at hx; rw [hx]; exact Nat.le_refl _
    · rw [(pcs_hit hj e h).2] at hx
      rcases List.mem_cons.1 hx with rfl | hx
      · simp; omega
      · have := ih _ (by simp; omega) x hx
        simp at this
        omega

theorem CI.app {b t : Nat} {w : World} {pre : List ByteArray} {A w1 : World} {v0 v' : Value} {tmp : Obj} (h : CI b w t pre A) (ht : b + 4 ≤ t) {k : Nat} {xs : List Value} (prow : A.ownsRow b 2 1 v0 k xs) (hg : (A.alloc tmp).grownBy w1 v0.ownBlock) {x : ByteArray} (hx : 0 ≤ val x)
    (hv2 : Boxed (w1.setCell ⟨b + 3, 0, none⟩ v') (b + 3) 42 v') (hr2 : (w1.setCell ⟨b + 3, 0, none⟩ v').ownsRow b 2 1 v' (pre.length + 1) ((pre.map fun x => Value.int .i64 (val x)) ++ [.int .i64 (val x)])) (hb2 : Below b A (w1.setCell ⟨b + 3, 0, none⟩ v')) :
    CI b w t (pre ++ [x]) (w1.setCell ⟨b + 3, 0, none⟩ v') ∧ Kt t A (w1.setCell ⟨b + 3, 0, none⟩ v') := by
  have hs := grownBy_setCell' w1 (b + 3) v'
  have pa := prow.alloc tmp
  obtain ⟨u, h0⟩ := h.str
  refine ⟨⟨((h.r0.alloc tmp).kept hg ((h.r0.alloc tmp).not_row (by decide) pa)).kept hs (by simp), ((h.r1.alloc tmp).kept hg ((h.r1.alloc tmp).not_row (by decide) pa)).kept hs (by simp), ⟨v', hv2, ?_⟩,
    ⟨u, ((h0.alloc tmp).kept hg ((h0.alloc tmp).not_row (by decide) pa)).kept hs (by simp; omega)⟩, ((h.sep.alloc tmp).kept hg ((h.sep.alloc tmp).not_row (by decide) pa)).kept hs (by simp; omega), ((h.sav.alloc tmp).kept hg ((h.sav.alloc tmp).not_row (by decide) pa)).kept hs (by simp; omega), ?_, h.bel.trans hb2⟩, ?_⟩
  · simpa using hr2
  · intro y hy
    rcases List.mem_append.1 hy with hy | hy
    · exact h.ok y hy
    · simp at hy; rw [hy]; exact hx
  · exact ((Kt.grown (World.grownBy_alloc A tmp none) (fun r e => by cases e)).trans (Kt.grown hg (h.row prow))).trans (Kt.grown hs (fun r e => by cases e; omega))

theorem load_cell {P : Program} {t : TypeId} {w : World} {B : Nat} {T : TypeId} {v : Value} (h : Boxed w B T v) (ha : (isAgg t).run P w = .ok false w) : (loadVar t ⟨B, 0, none⟩).run P w = .ok v w := by
  have := h.cell
  simp [loadVar, Sem.run_bind, ha, this, Result.andThen]

theorem ownsRow_slice {W : World} {base : Nat} {E : TypeId} {sz : Nat} {v : Value} {k : Nat} {xs : List Value} (h : W.ownsRow base E sz v k xs) : ∃ a c, v = .slice a k c := by
  rcases h.2 with ⟨rfl, h0⟩ | ⟨g, cap, cur, rfl, _⟩
  · exact ⟨none, 0, by rw [h0]⟩
  · exact ⟨_, _, rfl⟩
theorem info2 : (Tryd.prog.info? 2).map (fun i => (i.zero, i.size, i.bytes)) = some (some (.int .i64 0), 1, 8) := by kernel_rfl

theorem results_cells2 {fn : Func} {p q : Tmp} {t u : TypeId} (h : fn.results = #[.cell p t, .cell q u]) (tmps : Array Value) (P : Program) (w : World) (a b : Addr) (x y : Value)
    (hp : tmps.getD p undef = .pointer (some a)) (hq : tmps.getD q undef = .pointer (some b)) (h1 : (loadVar t a).run P w = .ok x w) (h2 : (loadVar u b).run P w = .ok y w) :
    (results fn tmps).run P w = .ok (.tuple #[x, y]) w := by
  have hp' : tmps[p]?.getD undef = .pointer (some a) := by simpa using hp
  have hq' : tmps[q]?.getD undef = .pointer (some b) := by simpa using hq
  simp only [results, h]
  simp [hp', hq', asAddr, Sem.run_bind, Result.andThen, h1, h2]

set_option maxRecDepth 100000 in
set_option maxHeartbeats 2000000 in
theorem cl_in {s : ByteArray} (hs : s.size < 4294967281) {w : World} (hp : PE w) :
    CallsIn Fence.wide 9 Tryd.prog 58 #[.string s] w (fun e w' => ∃ v, e = .returned (.tuple #[v, .bool (clist s).isSome]) ∧ Below w.heap.size w w' ∧
      (∀ zs, clist s = some zs → w'.ownsRow w.heap.size 2 1 v zs.length (zs.map (Value.int .i64))) ∧ (clist s = none → v = .slice none 0 0)) := by
  obtain ⟨i0, hi, hz0, hz1, hz2⟩ := info_parts info2
  refine callsIn_of_wp_marks Tryd.func58 rfl trivial ?_ rfl
  simp only [Tryd.ntmps58, List.size_toArray, List.length_cons, List.length_nil, Nat.reduceAdd, Nat.reduceSub, Array.replicate_succ, Array.replicate_zero, List.push_toArray, List.append_toArray, List.nil_append, List.cons_append]
  obtain ⟨b, hb⟩ : ∃ b, b = w.heap.size := ⟨_, rfl⟩
  gi_wp2_with (refine ⟨trivial, ?_⟩; gi_at_call 78; refine (callsIn_wide.2 (c_SplitSeq _ _)).mono ?_; rintro e w' ⟨rfl, rfl⟩)
  · rename_i hemp
    have hs0 : s.size = 0 := by
      rw [ByteArray.toList_eq] at hemp
      have : s.data.toList = [] := List.isEmpty_iff.1 hemp
      have h2 := congrArg List.length this
      simpa using h2
    have hc : clist s = some [] := by unfold clist; rw [if_pos hs0]
    have r0 := (((Boxed.new w 42 (.slice (some ⟨w.heap.size + 1 + 1, 0, none⟩) 0 0)).alloc (.cells #[.bool true] 4)).alloc (.cells #[] 2)).alloc (.cells #[.slice (some ⟨w.heap.size + 1 + 1, 0, none⟩) 0 0] 42)
    have r1 := ((Boxed.new (w.alloc (.cells #[.slice (some ⟨w.heap.size + 1 + 1, 0, none⟩) 0 0] 42)) 4 (.bool true)).alloc (.cells #[] 2)).alloc (.cells #[.slice (some ⟨w.heap.size + 1 + 1, 0, none⟩) 0 0] 42)
    have rr := ((Own.empty 2 ((w.alloc (.cells #[.slice (some ⟨w.heap.size + 1 + 1, 0, none⟩) 0 0] 42)).alloc (.cells #[.bool true] 4)) w.heap.size (by simp; omega)).alloc (.cells #[.slice (some ⟨w.heap.size + 1 + 1, 0, none⟩) 0 0] 42)).row
    have bb : Below w.heap.size w ((((w.alloc (.cells #[.slice (some ⟨w.heap.size + 1 + 1, 0, none⟩) 0 0] 42)).alloc (.cells #[.bool true] 4)).alloc (.cells #[] 2)).alloc (.cells #[.slice (some ⟨w.heap.size + 1 + 1, 0, none⟩) 0 0] 42)) :=
      ((((Below.refl _ w).alloc (Nat.le_refl _) _).alloc (by simp) _).alloc (by simp; omega) _).alloc (by simp; omega) _
    rw [World.size_alloc] at r1
    refine ⟨_, results_cells2 rfl _ _ _ ⟨w.heap.size, 0, none⟩ ⟨w.heap.size + 1, 0, none⟩ _ _ rfl rfl (load_cell r0 (run_isAgg_plain Tryd.underlying42 rfl _)) (load_cell r1 (run_isAgg_plain Tryd.underlying4 rfl _)), .slice (some ⟨w.heap.size + 1 + 1, 0, none⟩) 0 0, ?_, bb, ?_, ?_⟩
    · rw [hc]; rfl
    · intro zs hz
      rw [hc] at hz; cases hz
      simpa using rr
    · intro hz; rw [hc] at hz; cases hz
  · rename_i hemp KK hne
    have hs0 : s.size ≠ 0 := by
      intro e
      rw [ByteArray.toList_eq] at hemp
      have : s.data.toList = [] := List.length_eq_zero_iff.1 (by simpa using e)
      rw [this] at hemp; cases hemp
    obtain ⟨W0, hW0⟩ : ∃ W0, ((((((w.alloc (.cells #[.slice none 0 0] 42)).alloc (.cells #[.bool false] 4)).alloc (.cells #[] 2)).alloc (.cells #[.slice (some ⟨w.heap.size + 1 + 1, 0, none⟩) 0 0] 42)).alloc (.cells #[.string s] 9)).alloc (.cells #[.string ⟨#[44]⟩] 9)).alloc (.cells #[.int .i64 0] 3) = W0 := ⟨_, rfl⟩
    have ht : w.heap.size = b := hb.symm
    clear hb
    have q0 : W0.heap.size = b + 7 := by rw [← hW0]; simp; omega
    have o0 : Boxed W0 b 42 (.slice none 0 0) := by
      rw [← hW0, ← ht]; exact ((((((Boxed.new w _ _).alloc _).alloc _).alloc _).alloc _).alloc _).alloc _
    have o1 : Boxed W0 (b + 1) 4 (.bool false) := by
      have h := (((((Boxed.new (w.alloc (.cells #[.slice none 0 0] 42)) 4 (.bool false)).alloc (.cells #[] 2)).alloc (.cells #[.slice (some ⟨w.heap.size + 1 + 1, 0, none⟩) 0 0] 42)).alloc (.cells #[.string s] 9)).alloc (.cells #[.string ⟨#[44]⟩] 9)).alloc (.cells #[.int .i64 0] 3)
      rw [hW0] at h
      simpa [ht] using h
    have o3 : Boxed W0 (b + 3) 42 (.slice (some ⟨b + 2, 0, none⟩) 0 0) := by
      have h := (((Boxed.new (((w.alloc (.cells #[.slice none 0 0] 42)).alloc (.cells #[.bool false] 4)).alloc (.cells #[] 2)) 42 (.slice (some ⟨w.heap.size + 1 + 1, 0, none⟩) 0 0)).alloc (.cells #[.string s] 9)).alloc (.cells #[.string ⟨#[44]⟩] 9)).alloc (.cells #[.int .i64 0] 3)
      rw [hW0] at h
      simpa [ht] using h
    have o4 : Boxed W0 (b + 4) 9 (.string s) := by
      have h := ((Boxed.new ((((w.alloc (.cells #[.slice none 0 0] 42)).alloc (.cells #[.bool false] 4)).alloc (.cells #[] 2)).alloc (.cells #[.slice (some ⟨w.heap.size + 1 + 1, 0, none⟩) 0 0] 42)) 9 (.string s)).alloc (.cells #[.string ⟨#[44]⟩] 9)).alloc (.cells #[.int .i64 0] 3)
      rw [hW0] at h
      simpa [ht] using h
    have o5 : Boxed W0 (b + 5) 9 (.string ⟨#[44]⟩) := by
      have h := (Boxed.new (((((w.alloc (.cells #[.slice none 0 0] 42)).alloc (.cells #[.bool false] 4)).alloc (.cells #[] 2)).alloc (.cells #[.slice (some ⟨w.heap.size + 1 + 1, 0, none⟩) 0 0] 42)).alloc (.cells #[.string s] 9)) 9 (.string ⟨#[44]⟩)).alloc (.cells #[.int .i64 0] 3)
      rw [hW0] at h
      simpa [ht] using h
    have o6 : Boxed W0 (b + 6) 3 (.int .i64 0) := by
      have h := Boxed.new ((((((w.alloc (.cells #[.slice none 0 0] 42)).alloc (.cells #[.bool false] 4)).alloc (.cells #[] 2)).alloc (.cells #[.slice (some ⟨w.heap.size + 1 + 1, 0, none⟩) 0 0] 42)).alloc (.cells #[.string s] 9)).alloc (.cells #[.string ⟨#[44]⟩] 9)) 3 (.int .i64 0)
      rw [hW0] at h
      simpa [ht] using h
    have hbel : Below b w W0 := by
      rw [← hW0, ← ht]
      exact ((((((((Below.refl _ w).alloc (Nat.le_refl _) _).alloc (by simp) _).alloc (by simp; omega) _).alloc (by simp; omega) _).alloc (by simp; omega) _).alloc (by simp; omega) _).alloc (by simp; omega) _)
    have hrow : W0.ownsRow b 2 1 (.slice (some ⟨b + 2, 0, none⟩) 0 0) 0 [] := by
      have h := ((((((Own.empty 2 ((w.alloc (.cells #[.slice none 0 0] 42)).alloc (.cells #[.bool false] 4)) b (by simp; omega)).alloc (.cells #[.slice (some ⟨w.heap.size + 1 + 1, 0, none⟩) 0 0] 42)).alloc (.cells #[.string s] 9)).alloc (.cells #[.string ⟨#[44]⟩] 9)).alloc (.cells #[.int .i64 0] 3))).row
      rw [hW0] at h
      simpa [ht] using h
    rw [hW0]
    clear hW0
    rw [ht]
    refine rangeT (t := b + 4) rfl (by omega) (gf := 110) rfl trivial (enters_of Tryd.func110 (by kernel_rfl) rfl) (by omega) (sq_seq hs o4 o5 o6)
      (fun pre W => CI b w (b + 4) pre W) (fun c _ W => c = .ret ∧ CX b w W ∧ ∃ x ∈ pcs 44 s, ¬ 0 ≤ val x) ?hI ?hIx ?hIt ?h0
      (fun x => { tmps := #[.string s, undef, .pointer (some ⟨b, 0, none⟩), .pointer (some ⟨b + 1, 0, none⟩), .pointer (some ⟨b + 1 + 1 + 1, 0, none⟩), .string x, undef, undef, .slice (some ⟨b + 1 + 1, 0, none⟩) 0 0, .string s, .bool false, undef, .string s, .func (.func 110) #[] #[.pointer (some ⟨b + 1 + 1 + 1 + 1 + 1, 0, none⟩), .pointer (some ⟨b + 1 + 1 + 1 + 1, 0, none⟩), .pointer (some ⟨b + 1 + 1 + 1 + 1 + 2, 0, none⟩)], .string x, undef, undef, undef, undef, undef, undef, undef, undef, undef, undef, undef, undef], defers := [] }) ?assign ?body ?done ?stop
    case hI => exact fun pre A B row h hg hr => h.turn hg (fun r e => by have := hr r e; exact ⟨by omega, this.2⟩) (by omega)
    case hIx => exact fun c pre A B row h hg hr => ⟨h.1, h.2.1.turn hg (fun r e => by have := hr r e; exact ⟨by omega, this.2⟩) (by omega), h.2.2⟩
    case hIt => exact fun pre A v h => h.text (by omega) v
    case h0 => exact ⟨o0, o1, ⟨_, o3, hrow⟩, ⟨_, o4⟩, o5, o6, fun x hx => (by cases hx), hbel⟩
    case assign =>
      intro l x W K hK
      gi_wp2
      exact hK
    case body =>
      intro l pre x W hI hpre
      have hxs : x.size ≤ s.size := pcs_size 44 _ s (Nat.le_refl _) x (hpre.subset (by simp))
      have hpl : pre.length < (pcs 44 s).length := by have := hpre.length_le; simp at this; omega
      have hpm := pcs_len 44 s
      have hcb := Lib.countB_le ⟨#[44]⟩ (Nat.le_refl _) s.size s (Nat.le_refl _)
      by_cases hx : 0 ≤ val x
      · gi_wp2_with first | (refine ⟨trivial, ?_⟩; gi_at_call 57; refine (CallsIn.inRound l (callsIn_wide.2 (c_longDigits (by omega) (hp.keep (by rw [ht]; exact hI.bel))))).mono ?_; rintro e w' ⟨v, rfl, hv, hb'⟩; have hI' := hI.keep hb' (by omega); obtain ⟨v0, p3, prow⟩ := hI'.out; have c0 := hI'.r0.cell; have f0 := hI'.r0.frozen; have c1 := hI'.r1.cell; have f1 := hI'.r1.frozen; have c3 : w'.cell? ⟨b + 1 + 1 + 1, 0, none⟩ = some v0 := p3.cell; have f3 : w'.frozen? ⟨b + 1 + 1 + 1, 0, none⟩ = false := p3.frozen) | (gi_at_builtin; refine wpListIn_append_own _ rfl _ _ 42 rfl b 2 i0 (.int .i64 0) 1 8 Tryd.underlying42 hi hz0 hz1 hz2 rfl (by decide) _ _ _ rfl (prow.alloc _) ⟨w'.heap.size, 0, none⟩ 1 1 [.int .i64 (val x)] rfl rfl (cell_one_new _ _ _) (by simp [Value.oneCell']) (by simp only [maxLen]; omega) (by omega) (by have := hI'.bel.size; simp; omega) ?_; intro v' w1 hown' hgrow _; obtain ⟨g', cap', rfl⟩ := ownsRow_succ hown'; obtain ⟨hv1, hv2, hr2, hk2, hb2⟩ := p3.appended (by decide) prow (by have := hI'.bel.size; omega) (by omega) hown' hgrow; have g3 : w1.cell? ⟨b + 1 + 1 + 1, 0, none⟩ = some v0 := hv1.cell; have e3 : w1.frozen? ⟨b + 1 + 1 + 1, 0, none⟩ = false := hv1.frozen)
        obtain ⟨n1, n2⟩ := hI'.app (by omega) prow hgrow hx hv2 hr2 hb2
        exact ⟨(KeepsFrom.of_below hb').trans (hk2.from _), (Kt.grown (grown_of_below hb') (fun r e => by cases e)).trans n2, n1⟩
      · gi_wp2_with (refine ⟨trivial, ?_⟩; gi_at_call 57; refine (CallsIn.inRound l (callsIn_wide.2 (c_longDigits (by omega) (hp.keep (by rw [ht]; exact hI.bel))))).mono ?_; rintro e w' ⟨v, rfl, hv, hb'⟩; rw [show decide (0 ≤ val x) = false from decide_eq_false (by omega)]; have hI' := hI.keep hb' (by omega); obtain ⟨v0, p3, prow⟩ := hI'.out; have c0 := hI'.r0.cell; have f0 := hI'.r0.frozen; have c1 := hI'.r1.cell; have f1 := hI'.r1.frozen; have c3 : w'.cell? ⟨b + 1 + 1 + 1, 0, none⟩ = some v0 := p3.cell; have f3 : w'.frozen? ⟨b + 1 + 1 + 1, 0, none⟩ = false := p3.frozen)
        have k1 := (KeepsOthers.setCell w' ⟨b, 0, none⟩ (.slice none 0 0)).trans (KeepsOthers.setCell (w'.setCell ⟨b, 0, none⟩ (.slice none 0 0)) ⟨b + 1, 0, none⟩ (.bool false))
        refine ⟨(KeepsFrom.of_below hb').trans (k1.from _), rfl, ⟨?_, ?_, ?_⟩, x, hpre.subset (by simp), by omega⟩
        · exact (hI'.r0.set _).kept (grownBy_setCell' _ _ _) (by simp)
        · exact (hI'.r1.kept (grownBy_setCell' _ b _) (by simp)).set _
        · exact (hI'.bel.setCell (p := ⟨b, 0, none⟩) (Nat.le_refl _) _).setCell (p := ⟨b + 1, 0, none⟩) (by show b ≤ b + 1; omega) _
    case done =>
      intro D W hD hI hK
      obtain ⟨v0, p3, prow⟩ := hI.out
      have c0 := hI.r0.cell; have f0 := hI.r0.frozen; have c1 := hI.r1.cell; have f1 := hI.r1.frozen
      have c3 : W.cell? ⟨b + 1 + 1 + 1, 0, none⟩ = some v0 := p3.cell
      obtain ⟨n0, k0, rfl⟩ := ownsRow_slice prow
      have HC := Lib.hid (show clist s = some ((pcs 44 s).map val) by unfold clist; rw [if_neg hs0, if_pos hI.ok])
      gi_wp2
      have hc := HC.out
      have s1 := grownBy_setCell' W b (.slice n0 (pcs 44 s).length k0)
      have s2 := grownBy_setCell' (W.setCell ⟨b, 0, none⟩ (.slice n0 (pcs 44 s).length k0)) (b + 1) (.bool true)
      have k2 := ((KeepsOthers.setCell W ⟨b, 0, none⟩ (.slice n0 (pcs 44 s).length k0)).trans (KeepsOthers.setCell (W.setCell ⟨b, 0, none⟩ (.slice n0 (pcs 44 s).length k0)) ⟨b + 1, 0, none⟩ (.bool true))).same D _ hK rfl
      have r0 := (hI.r0.set (.slice n0 (pcs 44 s).length k0)).kept s2 (by simp)
      have r1 := (hI.r1.kept s1 (by simp)).set (.bool true)
      have rr := (prow.kept s1 (.inr (hI.r0.not_row (by decide) prow).symm)).kept s2 (.inr ((hI.r1.kept s1 (by simp)).not_row (by decide) (prow.kept s1 (.inr (hI.r0.not_row (by decide) prow).symm))).symm)
      have bb := (hI.bel.setCell (p := ⟨b, 0, none⟩) (Nat.le_refl _) (.slice n0 (pcs 44 s).length k0)).setCell (p := ⟨b + 1, 0, none⟩) (by show b ≤ b + 1; omega) (.bool true)
      refine ⟨by simp, .inl ⟨_, _, rfl, run_takeDeferred k2, ?_⟩⟩
      have hp0 := grownBy_putObj' ((W.setCell ⟨b, 0, none⟩ (.slice n0 (pcs 44 s).length k0)).setCell ⟨b + 1, 0, none⟩ (.bool true)) D (.deferred none)
      refine ⟨_, results_cells2 rfl _ _ _ ⟨b, 0, none⟩ ⟨b + 1, 0, none⟩ _ _ rfl rfl (load_cell (r0.kept hp0 (by simp; omega)) (run_isAgg_plain Tryd.underlying42 rfl _)) (load_cell (r1.kept hp0 (by simp; omega)) (run_isAgg_plain Tryd.underlying4 rfl _)), .slice n0 (pcs 44 s).length k0, ?_, ?_, ?_, ?_⟩
      · rw [hc]; rfl
      · rw [ht]; exact bb.grown hp0 (by have := bb.size; omega) (fun k e => by cases e; omega)
      · intro zs hz
        rw [hc] at hz; cases hz
        rw [ht]
        have := ownsRow_putObj rr (.deferred none) k2 rfl
        rw [List.length_map, List.map_map]
        exact this
      · intro hz; rw [hc] at hz; cases hz
    case stop =>
      rintro D c pre W hD ⟨rfl, hX, x, hx, hv⟩ hK
      have HC := Lib.hid (show clist s = none by unfold clist; rw [if_neg hs0, if_neg (fun h => hv (h x hx))])
      gi_wp2
      have hc := HC.out
      have hp0 := grownBy_putObj' W D (.deferred none)
      refine ⟨by simp, .inl ⟨_, _, rfl, run_takeDeferred hK, ?_⟩⟩
      refine ⟨_, results_cells2 rfl _ _ _ ⟨b, 0, none⟩ ⟨b + 1, 0, none⟩ _ _ rfl rfl (load_cell (hX.r0.kept hp0 (by simp; omega)) (run_isAgg_plain Tryd.underlying42 rfl _)) (load_cell (hX.r1.kept hp0 (by simp; omega)) (run_isAgg_plain Tryd.underlying4 rfl _)), .slice none 0 0, ?_, ?_, ?_, ?_⟩
      · rw [hc]; rfl
      · try rw [ht]
        exact hX.bel.grown hp0 (by have := hX.bel.size; omega) (fun k e => by cases e; omega)
      · intro zs hz; rw [hc] at hz; cases hz
      · intro _; rfl

theorem c_commaList {s : ByteArray} (hs : s.size < 4294967281) {w : World} (hp : PE w) :
    Calls Tryd.prog 58 #[.string s] w (fun e w' => ∃ v, e = .returned (.tuple #[v, .bool (clist s).isSome]) ∧ Below w.heap.size w w' ∧
      (∀ zs, clist s = some zs → w'.ownsRow w.heap.size 2 1 v zs.length (zs.map (Value.int .i64))) ∧ (clist s = none → v = .slice none 0 0)) :=
  callsIn_wide.1 (cl_in hs hp)
end Go.Proofs.YtjlpmfimbgbcmaaDoor
