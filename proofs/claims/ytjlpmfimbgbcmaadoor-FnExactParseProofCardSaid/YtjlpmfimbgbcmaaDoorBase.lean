/-
  Words and small laws for slices of int64 that a call reads or makes: IS (a slice value reads as a list), Own (a slice of the call's own), how both go on over a later world. No program in sight.
-/
import Derived.WalkKit
import Derived.ProofKit
import Derived.OpenShut
import Derived.Deep.LoopGhost
import Derived.Deep.OwnRows
import Derived.Deep.Light
import Derived.WalkSpells
import Derived.WalkLawsBesides
import Derived.BigQuiet
import Derived.Deep.QuietTactic
import Derived.Lib.Hide
namespace Go.Proofs.YtjlpmfimbgbcmaaDoor
open Go.RowKit

/-- Entry i of a list, 0 beyond its end. -/
def gi (xs : List Int) (i : Nat) : Int := xs.getD i 0
def I64 (x : Int) : Prop := -9223372036854775808 ≤ x ∧ x ≤ 9223372036854775807
def AllI64 (xs : List Int) : Prop := ∀ x ∈ xs, I64 x

theorem gi_lt {xs : List Int} {i : Nat} (h : i < xs.length) : gi xs i = xs[i] := by
  unfold gi; rw [List.getD_eq_getElem?_getD, List.getElem?_eq_getElem h]; rfl
theorem gi_mem {xs : List Int} {i : Nat} (h : i < xs.length) : gi xs i ∈ xs := by
  rw [gi_lt h]; exact List.getElem_mem h
theorem gi_I64 {xs : List Int} (hw : AllI64 xs) (i : Nat) : -9223372036854775808 ≤ gi xs i ∧ gi xs i ≤ 9223372036854775807 := by
  by_cases h : i < xs.length
  · exact hw _ (gi_mem h)
  · unfold gi; rw [List.getD_eq_getElem?_getD, List.getElem?_eq_none (by omega)]; simp
theorem drop_gi {xs : List Int} {i : Nat} (h : i < xs.length) : xs.drop i = gi xs i :: xs.drop (i + 1) := by
  rw [gi_lt h]; exact List.drop_eq_getElem_cons h
theorem take_gi {xs : List Int} {i : Nat} (h : i < xs.length) : xs.take (i + 1) = xs.take i ++ [gi xs i] := by
  rw [gi_lt h]; exact List.take_succ_eq_append_getElem h

/-- The slice value v reads as the list xs in w. -/
structure IS (w : World) (v : Value) (xs : List Int) : Prop where
  ex : ∃ (ao : Option Addr) (b o c : Nat), v = .slice ao xs.length c ∧ (0 < xs.length → ao = some ⟨b, o, none⟩) ∧ ∀ i, i < xs.length → w.cell? ⟨b, o + i, none⟩ = some (.int .i64 (gi xs i))
  wf : AllI64 xs
  len : xs.length ≤ 4294967296

/-- v is a slice of the call's own, from block B on, over elements of type E, that reads xs. -/
structure Own (E : TypeId) (w : World) (B : Nat) (v : Value) (xs : List Int) : Prop where
  row : w.ownsRow B E 1 v xs.length (xs.map (Value.int .i64))
  wf : AllI64 xs
  len : xs.length ≤ 4294967296

theorem IS.kept {w w' : World} {v : Value} {xs : List Int} (h : IS w v xs) (hb : Below w.heap.size w w') : IS w' v xs := by
  obtain ⟨ao, b, o, c, rfl, ha, hc⟩ := h.ex
  exact ⟨⟨ao, b, o, c, rfl, ha, fun i hi => (hb.cell (World.block_lt_of_cell? _ _ (hc i hi))).trans (hc i hi)⟩, h.wf, h.len⟩
theorem IS.drewN {w : World} {v : Value} {xs : List Int} (h : IS w v xs) (n : Nat) : IS (w.drewN n) v xs := ⟨h.ex, h.wf, h.len⟩
theorem IS.drew {w : World} {v : Value} {xs : List Int} (h : IS w v xs) : IS w.drew v xs := ⟨h.ex, h.wf, h.len⟩

theorem Own.is {E : TypeId} {w : World} {B : Nat} {v : Value} {xs : List Int} (h : Own E w B v xs) : IS w v xs := by
  refine ⟨?_, h.wf, h.len⟩
  rcases h.row.2 with ⟨rfl, hn⟩ | ⟨g, cap, cur, rfl, hB, hg, hn, hc, hs, ht⟩
  · exact ⟨none, 0, 0, 0, by rw [hn], fun h0 => by omega, fun i hi => by omega⟩
  · refine ⟨some ⟨g, 0, none⟩, g, 0, cap, rfl, fun _ => rfl, fun i hi => ?_⟩
    rw [Nat.zero_add, h.row.cellAt i (by omega), gi_lt hi]
    simp [hi]

theorem Own.kept {E : TypeId} {w w' : World} {B : Nat} {v : Value} {xs : List Int} (h : Own E w B v xs) (hb : Below w.heap.size w w') : Own E w' B v xs := by
  refine ⟨h.row.kept (row := none) ⟨hb.os, hb.tape, hb.output, hb.size, fun k hk _ => hb.block k hk⟩ ?_, h.wf, h.len⟩
  cases v.ownBlock with
  | none => exact .inl rfl
  | some k => exact .inr (fun e => by cases e)
theorem Own.base {E : TypeId} {w : World} {B B' : Nat} {v : Value} {xs : List Int} (h : Own E w B v xs) (hB : B' ≤ B) : Own E w B' v xs := by
  refine ⟨⟨h.row.1, ?_⟩, h.wf, h.len⟩
  rcases h.row.2 with hn | ⟨g, cap, cur, hv, hBg, rest⟩
  · exact .inl hn
  · exact .inr ⟨g, cap, cur, hv, by omega, rest⟩
theorem Own.nil (E : TypeId) (w : World) (B : Nat) : Own E w B (.slice none 0 0) [] :=
  ⟨World.ownsRow_nil _ _ _ _, (fun _ hx => by cases hx), by simp⟩

/-- A row known cell by cell is a slice of the call's own. -/
theorem Own.of_row {E : TypeId} {w : World} {B b : Nat} {xs : List Int} {f : Nat → Value} (hr : w.rowIs b E xs.length f) (hB : B ≤ b) (hf : ∀ i, i < xs.length → f i = .int .i64 (gi xs i))
    (wf : AllI64 xs) (len : xs.length ≤ 4294967296) : Own E w B (.slice (some ⟨b, 0, none⟩) xs.length xs.length) xs := by
  obtain ⟨c, hb, hn, hc⟩ := hr
  refine ⟨⟨by simp, .inr ⟨b, xs.length, c, rfl, hB, hb, Nat.le_refl _, by unfold maxLen; omega, by omega, ?_⟩⟩, wf, len⟩
  rw [List.take_of_length_le (by simp; omega)]
  apply List.ext_getElem?
  intro i
  by_cases hi : i < xs.length
  · have := hc i hi
    rw [hf i hi, gi_lt hi] at this
    simp [hi, ← this]
  · rw [List.getElem?_eq_none (by simp; omega), List.getElem?_eq_none (by simp; omega)]

theorem row_step {xs : List Int} (n k : Nat) (z : Value) (j : Nat) (_ : j < n) : (if j = k then Value.int .i64 (gi xs k) else (if j < k then .int .i64 (gi xs j) else z)) = if j < k + 1 then .int .i64 (gi xs j) else z := by
  by_cases e : j = k
  · subst e; simp
  · rw [if_neg e]
    by_cases h : j < k
    · rw [if_pos h, if_pos (by omega)]
    · rw [if_neg h, if_neg (by omega)]
theorem eq_step {xs ys : List Int} {k : Nat} (h : k < xs.length) (h' : k < ys.length) :
    (gi xs k = gi ys k → (xs.drop k == ys.drop k) = (xs.drop (k + 1) == ys.drop (k + 1))) ∧ (¬ gi xs k = gi ys k → (xs.drop k == ys.drop k) = false) := by
  rw [drop_gi h, drop_gi h']
  refine ⟨fun e => by rw [e]; simp, fun e => by simp [e]⟩
theorem beq_false_of_length {xs ys : List Int} (h : ¬ xs.length = ys.length) : (xs == ys) = false := by
  rw [beq_eq_false_iff_ne]
  exact fun e => h (by rw [e])
/-- The same world, but for draws. -/
def Drawn (w w' : World) : Prop := ∃ n, w' = w.drewN n
theorem Drawn.refl (w : World) : Drawn w w := ⟨0, rfl⟩
theorem Drawn.step {w w' : World} (h : Drawn w w') (n : Nat) : Drawn w (w'.drewN n) := by
  obtain ⟨m, rfl⟩ := h
  exact ⟨m + n, World.drewN_drewN _ _ _⟩
theorem Drawn.one {w w' : World} (h : Drawn w w') : Drawn w w'.drew := h.step 1
theorem drawn_trans {a b c : World} (h : Drawn a b) (k : Drawn b c) : Drawn a c := by
  obtain ⟨m, rfl⟩ := h
  obtain ⟨n, rfl⟩ := k
  exact Drawn.step (Drawn.step (Drawn.refl _) _) _
theorem Drawn.below {w w' : World} (h : Drawn w w') (B : Nat) : Below B w w' := by
  obtain ⟨m, rfl⟩ := h
  exact ⟨rfl, rfl, rfl, Nat.le_refl _, fun _ _ => rfl⟩
theorem Drawn.bel0 {w w1 : World} (d : Drawn w w1) : Below w.heap.size w w1 := d.below _
theorem Drawn.bel {w w1 w2 : World} (d : Drawn w w1) (h : Below w1.heap.size w1 w2) : Below w.heap.size w w2 := (d.below _).trans (h.mono (d.below w.heap.size).size)
theorem bel_next {w w1 w2 : World} (d : Below w.heap.size w w1) (h : Below w1.heap.size w1 w2) : Below w.heap.size w w2 := d.trans (h.mono d.size)
theorem IS.drawn {w w' : World} {v : Value} {xs : List Int} (h : IS w v xs) (hd : Drawn w w') : IS w' v xs := by
  obtain ⟨n, rfl⟩ := hd
  exact h.drewN n
/-- The end of a call that only reads. -/
def Rd (w : World) (v : Value) : Ending → World → Prop := fun e w' => e = .returned v ∧ Drawn w w'
theorem ret_b {a b : Bool} (h : b = a) : Ending.returned (.bool a) = .returned (.bool b) := by rw [h]
theorem ret_i {k : IntKind} {a b : Int} (h : b = a) : Ending.returned (.int k a) = .returned (.int k b) := by rw [h]
/-- .. as a quiet call wants it. -/
theorem calls_q {P : Program} {f : FuncId} {args : Array Value} {W : World} {v : Value} (h : Calls P f args W (Rd W v)) : Calls P f args W (fun e w' => e = .returned v ∧ ∃ m, w' = W.drewN m) := h
theorem rd_bool {w w' : World} {r b : Bool} (h : r = b) (hw : Drawn w w') : Rd w (.bool r) (.returned (.bool b)) w' := ⟨by rw [h], hw⟩
theorem rd_int {w w' : World} {k : IntKind} {r b : Int} (h : r = b) (hw : Drawn w w') : Rd w (.int k r) (.returned (.int k b)) w' := ⟨by rw [h], hw⟩
/-- The end of a call that may make memory and changes none; its result is v. -/
def Ret (w : World) (v : Value) : Ending → World → Prop := fun e w' => e = .returned v ∧ Below w.heap.size w w'
theorem rd_ret {w : World} {v : Value} {e : Ending} {w' : World} (h : Rd w v e w') : Ret w v e w' := ⟨h.1, h.2.below _⟩
/-- The end of a call that makes memory and changes none: its result has the property R. -/
def Mk (w : World) (R : World → Value → Prop) : Ending → World → Prop := fun e w' => ∃ v, e = .returned v ∧ R w' v ∧ Below w.heap.size w w'

/-- From w to w' only blocks from B on, below T, were written, and new ones made. -/
structure Within (B T : Nat) (w w' : World) : Prop where
  os : w'.os = w.os
  tape : w'.tape = w.tape
  output : w'.output = w.output
  size : w.heap.size ≤ w'.heap.size
  block : ∀ k, (k < B ∨ T ≤ k) → k < w.heap.size → w'.heap[k]? = w.heap[k]?
theorem below_within {w w' : World} (h : Below w.heap.size w w') (B : Nat) : Within B B w w' := ⟨h.os, h.tape, h.output, h.size, fun k _ hk => h.block k hk⟩
theorem Within.below {B T C : Nat} {a w w' : World} (h : Within B T w w') (hb : Below C a w) (hC : C ≤ B) (hs : C ≤ a.heap.size) : Below C a w' :=
  ⟨h.os.trans hb.os, h.tape.trans hb.tape, h.output.trans hb.output, Nat.le_trans hb.size h.size, fun k hk => (h.block k (.inl (by omega)) (by have := hb.size; omega)).trans (hb.block k hk)⟩
theorem Drawn.within {w w' : World} (h : Drawn w w') (B : Nat) : Within B B w w' := below_within (h.below _) B
theorem Within.refl (B T : Nat) (w : World) : Within B T w w := ⟨rfl, rfl, rfl, Nat.le_refl _, fun _ _ _ => rfl⟩
theorem Within.trans {B T : Nat} {a b c : World} (h : Within B T a b) (k : Within B T b c) : Within B T a c :=
  ⟨k.os.trans h.os, k.tape.trans h.tape, k.output.trans h.output, Nat.le_trans h.size k.size, fun i hi hs => (k.block i hi (Nat.lt_of_lt_of_le hs h.size)).trans (h.block i hi hs)⟩
theorem Within.mono {B T B' T' : Nat} {w w' : World} (h : Within B T w w') (hB : B' ≤ B) (hT : T ≤ T') : Within B' T' w w' :=
  ⟨h.os, h.tape, h.output, h.size, fun k hk hs => h.block k (by omega) hs⟩
theorem Within.setCell {B T : Nat} {a w : World} (h : Within B T a w) {p : Addr} (hp : B ≤ p.block) (hp' : p.block < T) (u : Value) : Within B T a (w.setCell p u) :=
  h.trans ⟨rfl, rfl, rfl, by simp [World.setCell], fun k hk _ => Below.heap_setCell _ _ _ _ (by omega)⟩

/-- A slice of the call's own whose array lies from block B on, below T. -/
structure OwnT (E : TypeId) (B T : Nat) (w : World) (v : Value) (xs : List Int) : Prop where
  own : Own E w B v xs
  top : ∀ k, v.ownBlock = some k → k < T
theorem Own.top {E : TypeId} {w : World} {B : Nat} {v : Value} {xs : List Int} (h : Own E w B v xs) : OwnT E B w.heap.size w v xs :=
  ⟨h, fun k hk => (h.row.lt k hk).2⟩
theorem OwnT.is {E : TypeId} {B T : Nat} {w : World} {v : Value} {xs : List Int} (h : OwnT E B T w v xs) : IS w v xs := h.own.is
theorem OwnT.size {E : TypeId} {B T : Nat} {w : World} {v : Value} {xs : List Int} (h : OwnT E B T w v xs) : xs.length ≤ 4294967296 := h.own.len
theorem OwnT.kept {E : TypeId} {B T B' T' : Nat} {w w' : World} {v : Value} {xs : List Int} (h : OwnT E B T w v xs) (hb : Within B' T' w w') (hd : T ≤ B' ∨ T' ≤ B) : OwnT E B T w' v xs := by
  refine ⟨⟨⟨h.own.row.1, ?_⟩, h.own.wf, h.own.len⟩, h.top⟩
  rcases h.own.row.2 with hn | ⟨g, cap, cur, hv, hBg, hg, rest⟩
  · exact .inl hn
  · refine .inr ⟨g, cap, cur, hv, hBg, ?_, rest⟩
    have ht := h.top g (by rw [hv]; rfl)
    have hlt := (Array.getElem?_eq_some_iff.1 hg).1
    rw [hb.block g (by omega) hlt]
    exact hg

/-- The end of a call with a slice of int64 and a code for results. -/
def Mk2 (E : TypeId) (w : World) (r : List Int × Int) : Ending → World → Prop := fun e w' => ∃ u, e = .returned (.tuple #[u, .int .i64 r.2]) ∧ OwnT E w.heap.size w'.heap.size w' u r.1 ∧ Below w.heap.size w w'
/-- k, k + 1, .. : n numbers. -/
def mkI (k : Int) (n : Nat) : List Int := (List.range n).map fun (i : Nat) => k + (i : Int)
theorem mkI_length (k : Int) (n : Nat) : (mkI k n).length = n := by simp [mkI]
theorem gi_mkI {k : Int} {n i : Nat} (h : i < n) : gi (mkI k n) i = k + i := by
  rw [gi_lt (by rw [mkI_length]; exact h)]; simp [mkI]
theorem mkI_I64 {k : Int} {n : Nat} (hk : 0 ≤ k) (h : k + n ≤ 4611686018427387904) : AllI64 (mkI k n) := by
  intro x hx
  simp only [mkI, List.mem_map, List.mem_range] at hx
  obtain ⟨i, hi, rfl⟩ := hx
  exact ⟨by omega, by omega⟩
theorem gi_map {xs : List Int} {g : Int → Int} {i : Nat} (h : i < xs.length) : gi (xs.map g) i = g (gi xs i) := by
  rw [gi_lt (by simpa using h), gi_lt h]; simp
theorem mk2_nil {E : TypeId} {w w' : World} {c : Int} {r : List Int × Int} (hr : r = ([], c)) (hw : Below w.heap.size w w') : Mk2 E w r (.returned (.tuple #[.slice none 0 0, .int .i64 c])) w' := by
  subst hr
  exact ⟨_, rfl, ⟨Own.nil _ _ _, fun k hk => by simp [Value.ownBlock] at hk⟩, hw⟩
theorem mk2_own {E : TypeId} {w w' : World} {u : Value} {c : Int} {xs : List Int} {r : List Int × Int} (hr : r = (xs, c)) (ho : Own E w' w.heap.size u xs) (hw : Below w.heap.size w w') :
    Mk2 E w r (.returned (.tuple #[u, .int .i64 c])) w' := by
  subst hr
  exact ⟨_, rfl, ho.top, hw⟩
/-- A slice of slices of int64. -/
def gr (xss : List (List Int)) (i : Nat) : List Int := xss.getD i []
theorem gr_lt {xss : List (List Int)} {i : Nat} (h : i < xss.length) : gr xss i = xss[i] := by
  unfold gr; rw [List.getD_eq_getElem?_getD, List.getElem?_eq_getElem h]; rfl
theorem drop_gr {xss : List (List Int)} {i : Nat} (h : i < xss.length) : xss.drop i = gr xss i :: xss.drop (i + 1) := by
  rw [gr_lt h]; exact List.drop_eq_getElem_cons h
structure ISS (w : World) (v : Value) (xss : List (List Int)) : Prop where
  ex : ∃ (ao : Option Addr) (b o c : Nat) (R : Nat → Value), v = .slice ao xss.length c ∧ (0 < xss.length → ao = some ⟨b, o, none⟩) ∧ (∀ i, i < xss.length → w.cell? ⟨b, o + i, none⟩ = some (R i)) ∧ ∀ i, i < xss.length → IS w (R i) (gr xss i)
  len : xss.length ≤ 4294967296
theorem ISS.kept {w w' : World} {v : Value} {xss : List (List Int)} (h : ISS w v xss) (hb : Below w.heap.size w w') : ISS w' v xss := by
  obtain ⟨ao, b, o, c, R, rfl, ha, hc, hr⟩ := h.ex
  exact ⟨⟨ao, b, o, c, R, rfl, ha, fun i hi => (hb.cell (World.block_lt_of_cell? _ _ (hc i hi))).trans (hc i hi), fun i hi => (hr i hi).kept hb⟩, h.len⟩
theorem ISS.drawn {w w' : World} {v : Value} {xss : List (List Int)} (h : ISS w v xss) (hd : Drawn w w') : ISS w' v xss := h.kept (hd.below _)
theorem ISS.lit1 {w : World} {u : Value} {xs : List Int} {E : TypeId} (h : IS w u xs) : ISS (w.alloc (.cells #[u] E)) (.slice (some ⟨w.heap.size, 0, none⟩) 1 1) [xs] := by
  have hb : Below w.heap.size w (w.alloc (.cells #[u] E)) := (Below.refl _ _).alloc (Nat.le_refl _) _
  refine ⟨⟨some ⟨w.heap.size, 0, none⟩, w.heap.size, 0, 1, fun _ => u, rfl, fun _ => rfl, fun i hi => ?_, fun i hi => ?_⟩, by simp⟩
  · obtain rfl : i = 0 := by simp at hi; omega
    simp
  · obtain rfl : i = 0 := by simp at hi; omega
    exact h.kept hb
theorem ISS.lit2 {w : World} {u v : Value} {xs ys : List Int} {E : TypeId} (h : IS w u xs) (h' : IS w v ys) : ISS (w.alloc (.cells #[u, v] E)) (.slice (some ⟨w.heap.size, 0, none⟩) 2 2) [xs, ys] := by
  have hb : Below w.heap.size w (w.alloc (.cells #[u, v] E)) := (Below.refl _ _).alloc (Nat.le_refl _) _
  refine ⟨⟨some ⟨w.heap.size, 0, none⟩, w.heap.size, 0, 2, fun i => if i = 0 then u else v, rfl, fun _ => rfl, fun i hi => ?_, fun i hi => ?_⟩, by simp⟩
  · have : i = 0 ∨ i = 1 := by simp at hi; omega
    rcases this with rfl | rfl <;> simp
  · have : i = 0 ∨ i = 1 := by simp at hi; omega
    rcases this with rfl | rfl
    · exact h.kept hb
    · exact h'.kept hb
theorem ne_len (a b : Nat) : ((a : Int) != (b : Int)) = !decide (a = b) := by
  by_cases h : a = b
  · simp [h]
  · have : (a : Int) ≠ b := by omega
    rw [bne_iff_ne.2 this]; simp [h]
theorem eq_zero_b (a : Int) : (a == 0) = decide (a = 0) := rfl
theorem mark_step {k : Int} {j : Nat} {xs : List Int} (h : j < xs.length) :
    ((mkI k j ++ xs.drop j).map (Value.int .i64)).set j (.int .i64 (k + j)) = (mkI k (j + 1) ++ xs.drop (j + 1)).map (Value.int .i64) := by
  rw [drop_gi h]
  have e : mkI k (j + 1) = mkI k j ++ [k + (j : Int)] := by simp [mkI, List.range_succ]
  rw [e, List.map_append, List.map_append, List.map_append, List.set_append_right _ _ (by simp [mkI])]
  simp [mkI]
end Go.Proofs.YtjlpmfimbgbcmaaDoor
