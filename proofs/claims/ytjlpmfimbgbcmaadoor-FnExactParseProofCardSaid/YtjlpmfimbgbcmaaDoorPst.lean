/-
  parseStep: the program's reading of a line.
-/
import Derived.Test.YtjlpmfimbgbcmaaDoorCbw
import Derived.Test.YtjlpmfimbgbcmaaDoorRli
namespace Go.Proofs.YtjlpmfimbgbcmaaDoor
open Go.RowKit

/-- The step that seven words spell, if they spell one. -/
def stepOf (p0 p1 p2 p3 p4 p5 p6 : ByteArray) : Option St :=
  match clist p1, clist p2 with
  | some a, some b => if 0 ≤ val p0 ∧ 0 ≤ val p5 ∧ canB ⟨val p0, a, b, if p3.size = 0 then [] else pcs 47 p3, p4, val p5, p6⟩ = true then some ⟨val p0, a, b, if p3.size = 0 then [] else pcs 47 p3, p4, val p5, p6⟩ else none
  | _, _ => none
/-- The step that a line spells, if it spells one. -/
def stepP (line : ByteArray) : Option St :=
  match pcs 59 line with
  | [p0, p1, p2, p3, p4, p5, p6] => stepOf p0 p1 p2 p3 p4 p5 p6
  | _ => none

theorem stepOf_none {p0 p1 p2 p3 p4 p5 p6 : ByteArray} (h : ¬ (decide (0 ≤ val p0) = true ∧ (clist p1).isSome = true ∧ (clist p2).isSome = true ∧ decide (0 ≤ val p5) = true)) : stepOf p0 p1 p2 p3 p4 p5 p6 = none := by
  unfold stepOf
  cases h1 : clist p1 with
  | none => rfl
  | some a =>
    cases h2 : clist p2 with
    | none => rfl
    | some b =>
      simp only
      rw [if_neg]
      rintro ⟨ha, hb, -⟩
      exact h ⟨decide_eq_true ha, by rw [h1]; rfl, by rw [h2]; rfl, decide_eq_true hb⟩
theorem stepOf_some {p0 p1 p2 p3 p4 p5 p6 : ByteArray} {a b : List Int} (h0 : 0 ≤ val p0) (h1 : clist p1 = some a) (h2 : clist p2 = some b) (h5 : 0 ≤ val p5) :
    stepOf p0 p1 p2 p3 p4 p5 p6 = if canB ⟨val p0, a, b, if p3.size = 0 then [] else pcs 47 p3, p4, val p5, p6⟩ = true then some ⟨val p0, a, b, if p3.size = 0 then [] else pcs 47 p3, p4, val p5, p6⟩ else none := by
  unfold stepOf
  rw [h1, h2]
  simp only [h0, h5, true_and]
theorem stepP_seven {s p0 p1 p2 p3 p4 p5 p6 : ByteArray} (h : pcs 59 s = [p0, p1, p2, p3, p4, p5, p6]) : stepP s = stepOf p0 p1 p2 p3 p4 p5 p6 := by unfold stepP; rw [h]
theorem stepP_none {s : ByteArray} (h : (pcs 59 s).length ≠ 7) : stepP s = none := by
  unfold stepP
  split
  · rename_i e; rw [e] at h; exact absurd rfl h
  · rfl
theorem seven {α : Type} {xs : List α} (h : xs.length = 7) : ∃ a b c d e f g, xs = [a, b, c, d, e, f, g] := by
  match xs, h with
  | [a, b, c, d, e, f, g], _ => exact ⟨a, b, c, d, e, f, g, rfl⟩

/-- What a step's seven cells hold that the call has made: each list in blocks of its own. -/
def StIn (w w' : World) (cs : Array Value) (t : St) : Prop :=
  ∃ vp vc vh m1 m2, cs = #[.int .i64 t.rule, vp, vc, vh, .string t.conc, .int .i64 t.var, .string t.temp] ∧ w.heap.size ≤ m1 ∧ m1 ≤ m2 ∧ m2 ≤ w'.heap.size ∧
    OwnT 2 w.heap.size m1 w' vp t.prem ∧ OwnT 2 m1 m2 w' vc t.ctx ∧ OwS w' m2 vh t.hyp

theorem cl_shape {s : ByteArray} {w w' : World} {v : Value} (h : ∀ zs, clist s = some zs → w'.ownsRow w.heap.size 2 1 v zs.length (zs.map (Value.int .i64))) (hn : clist s = none → v = .slice none 0 0) : ∃ a n c, v = .slice a n c := by
  cases hc : clist s with
  | none => exact ⟨_, _, _, hn hc⟩
  | some zs => obtain ⟨a, c, hv⟩ := ownsRow_slice (h zs hc); exact ⟨a, _, c, hv⟩
theorem cl_len {s : ByteArray} {zs : List Int} (h : clist s = some zs) : zs.length ≤ s.size + 1 := by
  unfold clist at h
  split at h
  · cases h; simp
  · split at h
    · cases h
      have := pcs_len 44 s
      have := Lib.countB_le ⟨#[44]⟩ (Nat.le_refl _) s.size s (Nat.le_refl _)
      rw [List.length_map]; omega
    · cases h
theorem cl_i64 {s : ByteArray} {zs : List Int} (h : clist s = some zs) : AllI64 zs := by
  unfold clist at h
  split at h
  · cases h; exact fun _ hx => (by cases hx)
  · split at h
    · rename_i hv
      cases h
      intro x hx
      obtain ⟨y, hy, rfl⟩ := List.mem_map.1 hx
      exact i64_val (hv y hy)
    · cases h
theorem cl_own {s : ByteArray} {w w' : World} {v : Value} (hs : s.size ≤ 1048576) (h : ∀ zs, clist s = some zs → w'.ownsRow w.heap.size 2 1 v zs.length (zs.map (Value.int .i64))) :
    ∀ zs, clist s = some zs → OwnT 2 w.heap.size w'.heap.size w' v zs := fun zs hz =>
  Own.top ⟨h zs hz, cl_i64 hz, by have := cl_len hz; omega⟩

theorem OwS.within {w w' : World} {B B' T' : Nat} {v : Value} {xs : List ByteArray} (h : OwS w B v xs) (hb : Within B' T' w w') (hd : T' ≤ B) : OwS w' B v xs := by
  refine ⟨⟨h.row.1, ?_⟩, h.len⟩
  rcases h.row.2 with hn | ⟨g, cap, cur, hv, hBg, hg, rest⟩
  · exact .inl hn
  · refine .inr ⟨g, cap, cur, hv, hBg, ?_, rest⟩
    have hlt := (Array.getElem?_eq_some_iff.1 hg).1
    rw [hb.block g (by omega) hlt]
    exact hg
theorem OwS.nil (w : World) (B : Nat) : OwS w B (.slice none 0 0) [] := ⟨World.ownsRow_nil _ _ _ _, by simp⟩

/-- The four blocks of parseStep: the result, the words, the step, the four answers. -/
structure P4 (w W : World) (p0 p1 p2 p3 p4 p5 p6 : ByteArray) (f g : Nat → Value) : Prop where
  b : Below w.heap.size w W
  r : W.heap[w.heap.size]? = some (.cells #[.int .i64 0, .slice none 0 0, .slice none 0 0, .slice none 0 0, .string ⟨#[]⟩, .int .i64 0, .string ⟨#[]⟩] 54)
  p : W.heap[w.heap.size + 1]? = some (.cells #[.string p0, .string p1, .string p2, .string p3, .string p4, .string p5, .string p6] 9)
  t : W.rowIs (w.heap.size + 2) 54 7 f
  o : W.rowIs (w.heap.size + 3) 90 4 g
theorem P4.lt {w W : World} {p0 p1 p2 p3 p4 p5 p6 : ByteArray} {f g : Nat → Value} (h : P4 w W p0 p1 p2 p3 p4 p5 p6 f g) : w.heap.size + 3 < W.heap.size := h.o.lt
theorem P4.call {w W W' : World} {p0 p1 p2 p3 p4 p5 p6 : ByteArray} {f g : Nat → Value} (h : P4 w W p0 p1 p2 p3 p4 p5 p6 f g) (hb : Below W.heap.size W W') : P4 w W' p0 p1 p2 p3 p4 p5 p6 f g := by
  have := h.lt
  exact ⟨bel_next h.b hb, (hb.block _ (by omega)).trans h.r, (hb.block _ (by omega)).trans h.p, h.t.of_block (hb.block _ (by omega)), h.o.of_block (hb.block _ (by omega))⟩
theorem P4.putT {w W : World} {p0 p1 p2 p3 p4 p5 p6 : ByteArray} {f g : Nat → Value} (h : P4 w W p0 p1 p2 p3 p4 p5 p6 f g) (i : Nat) (v : Value) : P4 w (W.setCell ⟨w.heap.size + 2, i, none⟩ v) p0 p1 p2 p3 p4 p5 p6 (fun j => if j = i then v else f j) g :=
  ⟨h.b.setCell (by simp) v, (Below.heap_setCell _ _ _ _ (by simp)).trans h.r, (Below.heap_setCell _ _ _ _ (by simp)).trans h.p, h.t.set i v, h.o.of_block (Below.heap_setCell _ _ _ _ (by simp))⟩
theorem P4.putO {w W : World} {p0 p1 p2 p3 p4 p5 p6 : ByteArray} {f g : Nat → Value} (h : P4 w W p0 p1 p2 p3 p4 p5 p6 f g) (i : Nat) (v : Value) : P4 w (W.setCell ⟨w.heap.size + 3, i, none⟩ v) p0 p1 p2 p3 p4 p5 p6 f (fun j => if j = i then v else g j) :=
  ⟨h.b.setCell (by simp) v, (Below.heap_setCell _ _ _ _ (by simp)).trans h.r, (Below.heap_setCell _ _ _ _ (by simp)).trans h.p, h.t.of_block (Below.heap_setCell _ _ _ _ (by simp)), h.o.set i v⟩
theorem P4.word {w W : World} {p0 p1 p2 p3 p4 p5 p6 : ByteArray} {f g : Nat → Value} (h : P4 w W p0 p1 p2 p3 p4 p5 p6 f g) (i : Nat) (hi : i < 7) : W.cell? ⟨w.heap.size + 1, i, none⟩ = some (.string ([p0, p1, p2, p3, p4, p5, p6][i])) := by
  unfold World.cell?
  simp only [h.p]
  have : i = 0 ∨ i = 1 ∨ i = 2 ∨ i = 3 ∨ i = 4 ∨ i = 5 ∨ i = 6 := by omega
  rcases this with rfl | rfl | rfl | rfl | rfl | rfl | rfl <;> rfl
theorem P4.start {w W : World} {p0 p1 p2 p3 p4 p5 p6 : ByteArray} (hz : W.heap.size = w.heap.size + 3) (hb : Below w.heap.size w W)
    (hr : W.heap[w.heap.size]? = some (.cells #[.int .i64 0, .slice none 0 0, .slice none 0 0, .slice none 0 0, .string ⟨#[]⟩, .int .i64 0, .string ⟨#[]⟩] 54))
    (hp : W.heap[w.heap.size + 1]? = some (.cells #[.string p0, .string p1, .string p2, .string p3, .string p4, .string p5, .string p6] 9))
    (ht : W.heap[w.heap.size + 2]? = some (.cells #[.int .i64 0, .slice none 0 0, .slice none 0 0, .slice none 0 0, .string p4, .int .i64 0, .string p6] 54)) :
    P4 w (W.alloc (.cells #[.bool false, .bool false, .bool false, .bool false] 90)) p0 p1 p2 p3 p4 p5 p6
      (fun i => #[.int .i64 0, .slice none 0 0, .slice none 0 0, .slice none 0 0, .string p4, .int .i64 0, .string p6].getD i undef) (fun _ => .bool false) := by
  refine ⟨hb.alloc (by omega) _, (heap_alloc_old _ _ (by omega)).trans hr, (heap_alloc_old _ _ (by omega)).trans hp, ?_, ?_⟩
  · refine ⟨_, (heap_alloc_old _ _ (by omega)).trans ht, rfl, ?_⟩
    · intro i hi
      have : i = 0 ∨ i = 1 ∨ i = 2 ∨ i = 3 ∨ i = 4 ∨ i = 5 ∨ i = 6 := by omega
      rcases this with rfl | rfl | rfl | rfl | rfl | rfl | rfl <;> rfl
  · rw [← hz]
    exact World.rowIs_alloc W #[.bool false, .bool false, .bool false, .bool false] _ _ fun i hi => by
      have : i = 0 ∨ i = 1 ∨ i = 2 ∨ i = 3 := by simp at hi; omega
      rcases this with rfl | rfl | rfl | rfl <;> rfl

theorem eq4 (a b c d : Bool) (w : World) : (Op.equalIn 10000 90 (.agg #[.bool a, .bool b, .bool c, .bool d]) (.agg #[.bool true, .bool true, .bool true, .bool true])).run Tryd.prog w = .ok (a && b && c && d) w := by
  have u3 := Tryd.underlying4
  have a3 := Tryd.isAgg4
  have z3 := Tryd.sizeOf4
  rw [show (10000 : Nat) = 9999 + 1 from rfl, Op.equalIn]
  simp only [Sem.run_bind, run_underlying Tryd.underlying90, Result.andThen_ok]
  simp only [Std.Legacy.Range.forIn_eq_forIn_range', Std.Legacy.Range.size, Nat.sub_zero, Nat.add_sub_cancel, Nat.div_one, List.range'_succ, List.range'_zero, List.forIn_cons, List.forIn_nil]
  go_simp
  cases a <;> cases b <;> cases c <;> cases d <;> simp
theorem eq4f {a b c d : Bool} (h : ¬ (a = true ∧ b = true ∧ c = true ∧ d = true)) (w : World) : (Op.equalIn 10000 90 (.agg #[.bool a, .bool b, .bool c, .bool d]) (.agg #[.bool true, .bool true, .bool true, .bool true])).run Tryd.prog w = .ok false w := by
  rw [eq4]
  cases a <;> cases b <;> cases c <;> cases d <;> first | rfl | exact absurd ⟨rfl, rfl, rfl, rfl⟩ h
/-- The blocks as they stand ahead of the last step. -/
structure T5 (w X : World) (a0 a1 a2 a3 a4 a5 a6 : Value) (d1 d2 d3 d4 : Bool) : Prop where
  b : Below w.heap.size w X
  r : X.heap[w.heap.size]? = some (.cells #[.int .i64 0, .slice none 0 0, .slice none 0 0, .slice none 0 0, .string ⟨#[]⟩, .int .i64 0, .string ⟨#[]⟩] 54)
  t : X.heap[w.heap.size + 2]? = some (.cells #[a0, a1, a2, a3, a4, a5, a6] 54)
  o : X.heap[w.heap.size + 3]? = some (.cells #[.bool d1, .bool d2, .bool d3, .bool d4] 90)
theorem T5.call {w X X' : World} {a0 a1 a2 a3 a4 a5 a6 : Value} {d1 d2 d3 d4 : Bool} (h : T5 w X a0 a1 a2 a3 a4 a5 a6 d1 d2 d3 d4) (hb : Below X.heap.size X X') : T5 w X' a0 a1 a2 a3 a4 a5 a6 d1 d2 d3 d4 := by
  have := (Array.getElem?_eq_some_iff.1 h.o).1
  exact ⟨bel_next h.b hb, (hb.block _ (by omega)).trans h.r, (hb.block _ (by omega)).trans h.t, (hb.block _ (by omega)).trans h.o⟩
theorem T5.all {w X : World} {a0 a1 a2 a3 a4 a5 a6 : Value} {d1 d2 d3 d4 : Bool} (h : T5 w X a0 a1 a2 a3 a4 a5 a6 d1 d2 d3 d4) : T5 w X a0 a1 a2 a3 a4 a5 a6 d1 d2 d3 d4 ∧ X.cell? ⟨w.heap.size + 2, 0, none⟩ = some a0 ∧ X.cell? ⟨w.heap.size + 2, 1, none⟩ = some a1 ∧ X.cell? ⟨w.heap.size + 2, 2, none⟩ = some a2 ∧ X.cell? ⟨w.heap.size + 2, 3, none⟩ = some a3 ∧ X.cell? ⟨w.heap.size + 2, 4, none⟩ = some a4 ∧ X.cell? ⟨w.heap.size + 2, 5, none⟩ = some a5 ∧ X.cell? ⟨w.heap.size + 2, 6, none⟩ = some a6 ∧ X.cell? ⟨w.heap.size + 3, 0, none⟩ = some (.bool d1) ∧ X.cell? ⟨w.heap.size + 3, 1, none⟩ = some (.bool d2) ∧ X.cell? ⟨w.heap.size + 3, 2, none⟩ = some (.bool d3) ∧ X.cell? ⟨w.heap.size + 3, 3, none⟩ = some (.bool d4) ∧ X.cell? ⟨w.heap.size, 0, none⟩ = some (.int .i64 0) ∧ X.cell? ⟨w.heap.size, 1, none⟩ = some (.slice none 0 0) ∧ X.cell? ⟨w.heap.size, 2, none⟩ = some (.slice none 0 0) ∧ X.cell? ⟨w.heap.size, 3, none⟩ = some (.slice none 0 0) ∧ X.cell? ⟨w.heap.size, 4, none⟩ = some (.string ⟨#[]⟩) ∧ X.cell? ⟨w.heap.size, 5, none⟩ = some (.int .i64 0) ∧ X.cell? ⟨w.heap.size, 6, none⟩ = some (.string ⟨#[]⟩) ∧ X.frozen? ⟨w.heap.size, 0, none⟩ = false ∧ X.frozen? ⟨w.heap.size, 1, none⟩ = false ∧ X.frozen? ⟨w.heap.size, 2, none⟩ = false ∧ X.frozen? ⟨w.heap.size, 3, none⟩ = false ∧ X.frozen? ⟨w.heap.size, 4, none⟩ = false ∧ X.frozen? ⟨w.heap.size, 5, none⟩ = false ∧ X.frozen? ⟨w.heap.size, 6, none⟩ = false :=
  ⟨h, by simp only [World.cell?, h.t]; rfl, by simp only [World.cell?, h.t]; rfl, by simp only [World.cell?, h.t]; rfl, by simp only [World.cell?, h.t]; rfl, by simp only [World.cell?, h.t]; rfl, by simp only [World.cell?, h.t]; rfl, by simp only [World.cell?, h.t]; rfl, by simp only [World.cell?, h.o]; rfl, by simp only [World.cell?, h.o]; rfl, by simp only [World.cell?, h.o]; rfl, by simp only [World.cell?, h.o]; rfl, by simp only [World.cell?, h.r]; rfl, by simp only [World.cell?, h.r]; rfl, by simp only [World.cell?, h.r]; rfl, by simp only [World.cell?, h.r]; rfl, by simp only [World.cell?, h.r]; rfl, by simp only [World.cell?, h.r]; rfl, by simp only [World.cell?, h.r]; rfl, by simp only [World.frozen?, h.r]; rfl, by simp only [World.frozen?, h.r]; rfl, by simp only [World.frozen?, h.r]; rfl, by simp only [World.frozen?, h.r]; rfl, by simp only [World.frozen?, h.r]; rfl, by simp only [World.frozen?, h.r]; rfl, by simp only [World.frozen?, h.r]; rfl⟩
theorem seven_rows (a0 a1 a2 a3 a4 a5 a6 : Value) {f : Nat → Value} : ∀ i, i < #[a0, a1, a2, a3, a4, a5, a6].size → #[a0, a1, a2, a3, a4, a5, a6][i]? = some (if i = 6 then a6 else if i = 5 then a5 else if i = 4 then a4 else if i = 3 then a3 else if i = 2 then a2 else if i = 1 then a1 else if i = 0 then a0 else f i) := by
  intro i hi
  have : i = 0 ∨ i = 1 ∨ i = 2 ∨ i = 3 ∨ i = 4 ∨ i = 5 ∨ i = 6 := by simp at hi; omega
  rcases this with rfl | rfl | rfl | rfl | rfl | rfl | rfl <;> rfl
/-- Seven cells written one after the other. -/
def set7 (w : World) (b : Nat) (a0 a1 a2 a3 a4 a5 a6 : Value) : World := ((((((w.setCell ⟨b, 0, none⟩ a0).setCell ⟨b, 1, none⟩ a1).setCell ⟨b, 2, none⟩ a2).setCell ⟨b, 3, none⟩ a3).setCell ⟨b, 4, none⟩ a4).setCell ⟨b, 5, none⟩ a5).setCell ⟨b, 6, none⟩ a6
theorem set7_size (w : World) (b : Nat) (a0 a1 a2 a3 a4 a5 a6 : Value) : (set7 w b a0 a1 a2 a3 a4 a5 a6).heap.size = w.heap.size := by simp [set7, World.setCell]
theorem set7_within (w : World) (b : Nat) (a0 a1 a2 a3 a4 a5 a6 : Value) : Within b (b + 1) w (set7 w b a0 a1 a2 a3 a4 a5 a6) :=
  (((((((Within.refl b (b + 1) w).setCell (p := ⟨b, 0, none⟩) (by simp) (by simp) a0).setCell (p := ⟨b, 1, none⟩) (by simp) (by simp) a1).setCell (p := ⟨b, 2, none⟩) (by simp) (by simp) a2).setCell (p := ⟨b, 3, none⟩) (by simp) (by simp) a3).setCell (p := ⟨b, 4, none⟩) (by simp) (by simp) a4).setCell (p := ⟨b, 5, none⟩) (by simp) (by simp) a5).setCell (p := ⟨b, 6, none⟩) (by simp) (by simp) a6
theorem set7_bel {w W : World} {B b : Nat} (h : Below B w W) (hB : B ≤ b) (a0 a1 a2 a3 a4 a5 a6 : Value) : Below B w (((((((W.setCell ⟨b, 0, none⟩ a0).setCell ⟨b, 1, none⟩ a1).setCell ⟨b, 2, none⟩ a2).setCell ⟨b, 3, none⟩ a3).setCell ⟨b, 4, none⟩ a4).setCell ⟨b, 5, none⟩ a5).setCell ⟨b, 6, none⟩ a6) :=
  ((((((h.setCell hB a0).setCell hB a1).setCell hB a2).setCell hB a3).setCell hB a4).setCell hB a5).setCell hB a6
theorem set7_chain (W : World) (b : Nat) (a0 a1 a2 a3 a4 a5 a6 : Value) : ((((((W.setCell ⟨b, 0, none⟩ a0).setCell ⟨b, 1, none⟩ a1).setCell ⟨b, 2, none⟩ a2).setCell ⟨b, 3, none⟩ a3).setCell ⟨b, 4, none⟩ a4).setCell ⟨b, 5, none⟩ a5).setCell ⟨b, 6, none⟩ a6 = set7 W b a0 a1 a2 a3 a4 a5 a6 := rfl
theorem set7_lit {w : World} {b : Nat} {T : TypeId} {cs : Array Value} (h : w.heap[b]? = some (.cells cs T)) (hn : cs.size = 7) (a0 a1 a2 a3 a4 a5 a6 : Value) : (set7 w b a0 a1 a2 a3 a4 a5 a6).heap[b]? = some (.cells #[a0, a1, a2, a3, a4, a5, a6] T (0, 0)) := by
  have hr : w.rowIs b T 7 (fun i => cs.getD i undef) := ⟨cs, h, hn, fun i hi => by simp [hn, hi]⟩
  exact rowIs_litR (((((((hr.set 0 a0).set 1 a1).set 2 a2).set 3 a3).set 4 a4).set 5 a5).set 6 a6) (seven_rows _ _ _ _ _ _ _)

theorem set7_litc {w : World} {b : Nat} {T : TypeId} {cs : Array Value} (h : w.heap[b]? = some (.cells cs T)) (hn : cs.size = 7) (a0 a1 a2 a3 a4 a5 a6 : Value) : (((((((w.setCell ⟨b, 0, none⟩ a0).setCell ⟨b, 1, none⟩ a1).setCell ⟨b, 2, none⟩ a2).setCell ⟨b, 3, none⟩ a3).setCell ⟨b, 4, none⟩ a4).setCell ⟨b, 5, none⟩ a5).setCell ⟨b, 6, none⟩ a6).heap[b]? = some (.cells #[a0, a1, a2, a3, a4, a5, a6] T (0, 0)) := by
  have h7 := set7_lit h hn a0 a1 a2 a3 a4 a5 a6
  unfold set7 at h7
  exact h7
theorem drew_heap (W : World) (b : Nat) : W.drew.heap[b]? = W.heap[b]? := rfl
theorem set7_litd {w : World} {b : Nat} {T : TypeId} {cs : Array Value} (h : w.heap[b]? = some (.cells cs T)) (hn : cs.size = 7) (a0 a1 a2 a3 a4 a5 a6 : Value) : (((((((w.setCell ⟨b, 0, none⟩ a0).setCell ⟨b, 1, none⟩ a1).setCell ⟨b, 2, none⟩ a2).setCell ⟨b, 3, none⟩ a3).setCell ⟨b, 4, none⟩ a4).setCell ⟨b, 5, none⟩ a5).setCell ⟨b, 6, none⟩ a6).drew.heap[b]? = some (.cells #[a0, a1, a2, a3, a4, a5, a6] T (0, 0)) := by
  have h7 := set7_lit h hn a0 a1 a2 a3 a4 a5 a6
  unfold set7 at h7
  rw [drew_heap]
  exact h7
/-- Seven cells of a step's shape. -/
def Seven (cs : Array Value) : Prop := ∃ (x : Int) (a1 : Option Addr) (n1 c1 : Nat) (a2 : Option Addr) (n2 c2 : Nat) (a3 : Option Addr) (n3 c3 : Nat) (s : ByteArray) (y : Int) (t : ByteArray), cs = #[.int .i64 x, .slice a1 n1 c1, .slice a2 n2 c2, .slice a3 n3 c3, .string s, .int .i64 y, .string t]
theorem ret_t2 {a x y : Value} (h : y = x) : Ending.returned (.tuple #[a, x]) = .returned (.tuple #[a, y]) := by rw [h]
theorem stIn_mk {w X wq : World} {T : St} {p0 p4 p5 p6 : ByteArray} {za zb : List Int} {hy : List ByteArray} {vp vc vh : Value} {l2 h2 l3 h3 : Nat} (hT : T = ⟨val p0, za, zb, hy, p4, val p5, p6⟩) (hb : Below X.heap.size X wq)
    (o1 : OwnT 2 l2 h2 X vp za) (o2 : OwnT 2 l3 h3 X vc zb) (o3 : OwS X h3 vh hy) (hl : w.heap.size < l2) (hm : h2 ≤ l3) (hm2 : l2 ≤ h2 ∧ l3 ≤ h3 ∧ h3 ≤ X.heap.size) :
    StIn w (set7 wq w.heap.size (.int .i64 (val p0)) vp vc vh (.string p4) (.int .i64 (val p5)) (.string p6)) #[.int .i64 (val p0), vp, vc, vh, .string p4, .int .i64 (val p5), .string p6] T := by
  subst hT
  have hs := hb.size
  refine ⟨vp, vc, vh, h2, h3, rfl, by omega, by omega, by rw [set7_size]; omega, ?_, ?_, ?_⟩
  · exact ((o1.keptB hb).kept (set7_within _ _ _ _ _ _ _ _ _) (.inr (by omega))).mono (by omega) (Nat.le_refl _)
  · exact ((o2.keptB hb).kept (set7_within _ _ _ _ _ _ _ _ _) (.inr (by omega))).mono (by omega) (Nat.le_refl _)
  · exact (o3.kept hb).within (set7_within _ _ _ _ _ _ _ _ _) (by omega)
set_option maxHeartbeats 4000000 in
set_option maxRecDepth 100000 in
theorem c_parseStep {s : ByteArray} (hs : s.size ≤ 1048576) {w : World} (hp : PE w) : Calls Tryd.prog 31 #[.string s] w (fun e w' => Below w.heap.size w w' ∧ ∃ cs, e = .returned (.tuple #[.agg cs, .bool (stepP s).isSome]) ∧ (∀ t, stepP s = some t → StIn w w' cs t) ∧ Seven cs) := by
  have HSP := Lib.hid (fun W => c_Split (s := s) (by omega) 59 W)
  have hpl := pcs_len 59 s
  have hcb := Lib.countB_le ⟨#[59]⟩ (Nat.le_refl _) s.size s (Nat.le_refl _)
  have hps := Lib.hid (fun x hx => pcs_size 59 _ s (Nat.le_refl _) x hx)
  by_cases h7 : (pcs 59 s).length = 7
  · obtain ⟨p0, p1, p2, p3, p4, p5, p6, h⟩ := seven h7
    have HQ := Lib.hid (stepP_seven h)
    obtain ⟨R, hR⟩ : ∃ R, R = stepP s := ⟨_, rfl⟩
    rw [← hR] at HQ ⊢
    rw [h] at HSP hps
    clear hR h h7 hpl hcb
    go_enter Tryd.func31, Tryd.ntmps31
    go_wp2_with fail
    refine (HSP.out _).mono ?_
    rintro e w1 ⟨rfl, hw1⟩
    simp only [List.length_cons, List.length_nil, Nat.reduceAdd, World.size_alloc]
    have z1 : w1.heap.size = w.heap.size + 2 := by rw [hw1]; simp
    have hB := Lib.hid (show Below w.heap.size w w1 by rw [hw1]; exact ((Below.refl _ w).alloc (Nat.le_refl _) _).alloc (by simp) _)
    have hP : w1.heap[w.heap.size + 1]? = some (.cells #[.string p0, .string p1, .string p2, .string p3, .string p4, .string p5, .string p6] 9) := by
      rw [hw1]
      have h := heap_alloc_new (w.alloc (.cells #[.int .i64 0, .slice none 0 0, .slice none 0 0, .slice none 0 0, .string ⟨#[]⟩, .int .i64 0, .string ⟨#[]⟩] 54)) (.cells ([p0, p1, p2, p3, p4, p5, p6].map Value.string).toArray 9)
      rw [World.size_alloc] at h
      exact h
    have hR0 : w1.heap[w.heap.size]? = some (.cells #[.int .i64 0, .slice none 0 0, .slice none 0 0, .slice none 0 0, .string ⟨#[]⟩, .int .i64 0, .string ⟨#[]⟩] 54) := by
      rw [hw1, heap_alloc_old _ _ (by simp)]
      exact heap_alloc_new w _
    have hc : ∀ i (hi : i < 7), w1.cell? ⟨w.heap.size + 1, i, none⟩ = some (.string ([p0, p1, p2, p3, p4, p5, p6][i])) := fun i hi => by
      unfold World.cell?
      simp only [hP]
      have : i = 0 ∨ i = 1 ∨ i = 2 ∨ i = 3 ∨ i = 4 ∨ i = 5 ∨ i = 6 := by omega
      rcases this with rfl | rfl | rfl | rfl | rfl | rfl | rfl <;> rfl
    have c4 : w1.cell? ⟨w.heap.size + 1, 4, none⟩ = some (.string p4) := hc 4 (by decide)
    have c6 : w1.cell? ⟨w.heap.size + 1, 6, none⟩ = some (.string p6) := hc 6 (by decide)
    have HP := Lib.hid hP
    have HR0 := Lib.hid hR0
    clear hw1 hc hP hR0
    go_wp2_with fail
    go_region
    obtain ⟨w2, hw2⟩ : ∃ w2, w2 = (w1.alloc (.cells #[.int .i64 0, .slice none 0 0, .slice none 0 0, .slice none 0 0, .string p4, .int .i64 0, .string p6] 54)).drew := ⟨_, rfl⟩
    rw [← hw2]
    have b2 : Below w1.heap.size w1 w2 := by rw [hw2]; exact (bel_alloc (Below.refl _ _) _).trans (Drawn.below (Drawn.one (Drawn.refl _)) _)
    have z2 : w2.heap.size = w.heap.size + 3 := by rw [hw2]; simp; omega
    have hT : w2.heap[w.heap.size + 2]? = some (.cells #[.int .i64 0, .slice none 0 0, .slice none 0 0, .slice none 0 0, .string p4, .int .i64 0, .string p6] 54) := by
      rw [hw2, ← z1]; exact heap_alloc_new w1 _
    have HB2 := Lib.hid (bel_next hB.out b2)
    have HP2 := Lib.hid ((b2.block _ (by omega)).trans HP.out)
    have HR2 := Lib.hid ((b2.block _ (by omega)).trans HR0.out)
    have HT := Lib.hid hT
    clear hw2 b2 hT c4 c6 z1 HP HR0 hB
    go_upto_region 6 with (fail)
    have Q0 := P4.start z2 HB2.out HR2.out HP2.out HT.out
    generalize (w2.alloc (.cells #[.bool false, .bool false, .bool false, .bool false] 90)) = W0 at *
    clear z2 HB2 HP2 HR2 HT
    have HPE := Lib.hid hp
    clear hp
    have HQ0 := Lib.hid Q0
    have x0 : W0.cell? ⟨w.heap.size + 1, 0, none⟩ = some (.string p0) := Q0.word 0 (by decide)
    clear Q0
    go_wp2_with fail
    obtain ⟨d1, hd1⟩ : ∃ d, d = decide (0 ≤ val p0) := ⟨_, rfl⟩
    have HC := c_longDigits (s := p0) (by have := hps.out p0 (by simp); omega) (HPE.out.keep HQ0.out.b)
    rw [← hd1] at HC
    have HD1 := Lib.hid hd1
    clear hd1
    refine HC.mono ?_
    rintro e V1 ⟨v1, rfl, e1, b1⟩
    have HE1 := Lib.hid e1
    clear HC e1
    have S1 := HQ0.out.call b1
    have ut := S1.t.cell (show 0 < 7 by omega)
    have uo := S1.o.cell (show 0 < 4 by omega)
    have uf := S1.t.frozen 0
    have ug := S1.o.frozen 0
    have x1 : V1.cell? ⟨w.heap.size + 1, 1, none⟩ = some (.string p1) := S1.word 1 (by decide)
    have T1 := (S1.putT 0 (.int .i64 v1)).putO 0 (.bool d1)
    have m1' : Within (w.heap.size + 2) (w.heap.size + 4) V1 ((V1.setCell ⟨w.heap.size + 2, 0, none⟩ (.int .i64 v1)).setCell ⟨w.heap.size + 3, 0, none⟩ (.bool d1)) := ((Within.refl _ _ _).setCell (p := ⟨w.heap.size + 2, 0, none⟩) (by simp) (by simp) _).setCell (p := ⟨w.heap.size + 3, 0, none⟩) (by simp) (by simp) _
    have z1' : ((V1.setCell ⟨w.heap.size + 2, 0, none⟩ (.int .i64 v1)).setCell ⟨w.heap.size + 3, 0, none⟩ (.bool d1)).heap.size = V1.heap.size := by simp [World.setCell]
    have HT1 := Lib.hid T1
    have HM1 := Lib.hid m1'
    have HZ1 := Lib.hid z1'
    have HB1 := Lib.hid b1
    clear S1 T1 m1' z1' b1 x0
    go_upto_region 7 with (fail)
    generalize ((V1.setCell ⟨w.heap.size + 2, 0, none⟩ (.int .i64 v1)).setCell ⟨w.heap.size + 3, 0, none⟩ (.bool d1)) = W1 at *
    have HQ1 := HT1
    clear HT1 ut uo uf ug
    have x1 : W1.cell? ⟨w.heap.size + 1, 1, none⟩ = some (.string p1) := HQ1.out.word 1 (by decide)
    go_wp2_with fail
    obtain ⟨d2, hd2⟩ : ∃ d, d = (clist p1).isSome := ⟨_, rfl⟩
    have HC := c_commaList (s := p1) (by have := hps.out p1 (by simp); omega) (HPE.out.keep HQ1.out.b)
    rw [← hd2] at HC
    have HD2 := Lib.hid hd2
    clear hd2
    refine HC.mono ?_
    clear HC
    rintro e V2 ⟨v2, rfl, b2, e2, n2⟩
    obtain ⟨r2, m2, k2, rfl⟩ := cl_shape e2 n2
    have o2 := cl_own (by have := hps.out p1 (by simp); omega) e2
    clear e2 n2
    have S2 := HQ1.out.call b2
    have ut := S2.t.cell (show 1 < 7 by omega)
    have uo := S2.o.cell (show 1 < 4 by omega)
    have uf := S2.t.frozen 1
    have ug := S2.o.frozen 1
    have x2 : V2.cell? ⟨w.heap.size + 1, 2, none⟩ = some (.string p2) := S2.word 2 (by decide)
    have T2 := (S2.putT 1 (.slice r2 m2 k2)).putO 1 (.bool d2)
    have m2' : Within (w.heap.size + 2) (w.heap.size + 4) V2 ((V2.setCell ⟨w.heap.size + 2, 1, none⟩ (.slice r2 m2 k2)).setCell ⟨w.heap.size + 3, 1, none⟩ (.bool d2)) := ((Within.refl _ _ _).setCell (p := ⟨w.heap.size + 2, 1, none⟩) (by simp) (by simp) _).setCell (p := ⟨w.heap.size + 3, 1, none⟩) (by simp) (by simp) _
    have z2' : ((V2.setCell ⟨w.heap.size + 2, 1, none⟩ (.slice r2 m2 k2)).setCell ⟨w.heap.size + 3, 1, none⟩ (.bool d2)).heap.size = V2.heap.size := by simp [World.setCell]
    obtain ⟨y2l, hy2l⟩ : ∃ y, y = W1.heap.size := ⟨_, rfl⟩
    obtain ⟨y2h, hy2h⟩ : ∃ y, y = V2.heap.size := ⟨_, rfl⟩
    rw [← hy2l, ← hy2h] at o2
    have o2 := Lib.hid o2
    have Y2 := Lib.hid (show w.heap.size + 4 ≤ y2l ∧ y2l ≤ y2h by have := HQ1.out.lt; have := b2.size; omega)
    clear hy2l
    have o2' : Hid (∀ zs, clist p1 = some zs → OwnT 2 y2l y2h ((V2.setCell ⟨w.heap.size + 2, 1, none⟩ (.slice r2 m2 k2)).setCell ⟨w.heap.size + 3, 1, none⟩ (.bool d2)) (.slice r2 m2 k2) zs) := Lib.hid fun zs h => (o2.out zs h).kept m2' (.inr Y2.out.1)
    have HT2 := Lib.hid T2
    have HM2 := Lib.hid m2'
    have HZ2 := Lib.hid z2'
    have HB2 := Lib.hid b2
    clear S2 T2 m2' z2' b2 x1
    go_upto_region 8 with (fail)
    generalize ((V2.setCell ⟨w.heap.size + 2, 1, none⟩ (.slice r2 m2 k2)).setCell ⟨w.heap.size + 3, 1, none⟩ (.bool d2)) = W2 at *
    have HQ2 := HT2
    clear HT2 ut uo uf ug
    have o2 := o2'
    clear o2'
    have x2 : W2.cell? ⟨w.heap.size + 1, 2, none⟩ = some (.string p2) := HQ2.out.word 2 (by decide)
    go_wp2_with fail
    obtain ⟨d3, hd3⟩ : ∃ d, d = (clist p2).isSome := ⟨_, rfl⟩
    have HC := c_commaList (s := p2) (by have := hps.out p2 (by simp); omega) (HPE.out.keep HQ2.out.b)
    rw [← hd3] at HC
    have HD3 := Lib.hid hd3
    clear hd3
    refine HC.mono ?_
    clear HC
    rintro e V3 ⟨v3, rfl, b3, e3, n3⟩
    obtain ⟨r3, m3, k3, rfl⟩ := cl_shape e3 n3
    have o3 := cl_own (by have := hps.out p2 (by simp); omega) e3
    clear e3 n3
    have S3 := HQ2.out.call b3
    have ut := S3.t.cell (show 2 < 7 by omega)
    have uo := S3.o.cell (show 2 < 4 by omega)
    have uf := S3.t.frozen 2
    have ug := S3.o.frozen 2
    have x3 : V3.cell? ⟨w.heap.size + 1, 5, none⟩ = some (.string p5) := S3.word 5 (by decide)
    replace o2 : Hid (∀ zs, clist p1 = some zs → OwnT 2 y2l y2h V3 (.slice r2 m2 k2) zs) := Lib.hid fun zs h => (o2.out zs h).keptB b3
    have T3 := (S3.putT 2 (.slice r3 m3 k3)).putO 2 (.bool d3)
    have m3' : Within (w.heap.size + 2) (w.heap.size + 4) V3 ((V3.setCell ⟨w.heap.size + 2, 2, none⟩ (.slice r3 m3 k3)).setCell ⟨w.heap.size + 3, 2, none⟩ (.bool d3)) := ((Within.refl _ _ _).setCell (p := ⟨w.heap.size + 2, 2, none⟩) (by simp) (by simp) _).setCell (p := ⟨w.heap.size + 3, 2, none⟩) (by simp) (by simp) _
    have z3' : ((V3.setCell ⟨w.heap.size + 2, 2, none⟩ (.slice r3 m3 k3)).setCell ⟨w.heap.size + 3, 2, none⟩ (.bool d3)).heap.size = V3.heap.size := by simp [World.setCell]
    obtain ⟨y3l, hy3l⟩ : ∃ y, y = W2.heap.size := ⟨_, rfl⟩
    obtain ⟨y3h, hy3h⟩ : ∃ y, y = V3.heap.size := ⟨_, rfl⟩
    rw [← hy3l, ← hy3h] at o3
    have o3 := Lib.hid o3
    have Y3 := Lib.hid (show w.heap.size + 4 ≤ y3l ∧ y3l ≤ y3h ∧ y2h ≤ y3l by have := HQ2.out.lt; have := b3.size; have := HZ2.out; omega)
    clear hy3l
    have o2' : Hid (∀ zs, clist p1 = some zs → OwnT 2 y2l y2h ((V3.setCell ⟨w.heap.size + 2, 2, none⟩ (.slice r3 m3 k3)).setCell ⟨w.heap.size + 3, 2, none⟩ (.bool d3)) (.slice r2 m2 k2) zs) := Lib.hid fun zs h => (o2.out zs h).kept m3' (.inr Y2.out.1)
    have o3' : Hid (∀ zs, clist p2 = some zs → OwnT 2 y3l y3h ((V3.setCell ⟨w.heap.size + 2, 2, none⟩ (.slice r3 m3 k3)).setCell ⟨w.heap.size + 3, 2, none⟩ (.bool d3)) (.slice r3 m3 k3) zs) := Lib.hid fun zs h => (o3.out zs h).kept m3' (.inr Y3.out.1)
    have HT3 := Lib.hid T3
    have HM3 := Lib.hid m3'
    have HZ3 := Lib.hid z3'
    have HB3 := Lib.hid b3
    clear S3 T3 m3' z3' b3 x2
    go_upto_region 9 with (fail)
    generalize ((V3.setCell ⟨w.heap.size + 2, 2, none⟩ (.slice r3 m3 k3)).setCell ⟨w.heap.size + 3, 2, none⟩ (.bool d3)) = W3 at *
    have HQ3 := HT3
    clear HT3 ut uo uf ug
    have o2 := o2'
    clear o2'
    have o3 := o3'
    clear o3'
    have x3 : W3.cell? ⟨w.heap.size + 1, 5, none⟩ = some (.string p5) := HQ3.out.word 5 (by decide)
    go_wp2_with fail
    obtain ⟨d4, hd4⟩ : ∃ d, d = decide (0 ≤ val p5) := ⟨_, rfl⟩
    have HC := c_longDigits (s := p5) (by have := hps.out p5 (by simp); omega) (HPE.out.keep HQ3.out.b)
    rw [← hd4] at HC
    have HD4 := Lib.hid hd4
    clear hd4
    refine HC.mono ?_
    rintro e V4 ⟨v4, rfl, e4, b4⟩
    have HE4 := Lib.hid e4
    clear HC e4
    have S4 := HQ3.out.call b4
    have ut := S4.t.cell (show 5 < 7 by omega)
    have uo := S4.o.cell (show 3 < 4 by omega)
    have uf := S4.t.frozen 5
    have ug := S4.o.frozen 3
    have x4 : V4.cell? ⟨w.heap.size + 1, 3, none⟩ = some (.string p3) := S4.word 3 (by decide)
    replace o2 : Hid (∀ zs, clist p1 = some zs → OwnT 2 y2l y2h V4 (.slice r2 m2 k2) zs) := Lib.hid fun zs h => (o2.out zs h).keptB b4
    replace o3 : Hid (∀ zs, clist p2 = some zs → OwnT 2 y3l y3h V4 (.slice r3 m3 k3) zs) := Lib.hid fun zs h => (o3.out zs h).keptB b4
    have T4 := (S4.putT 5 (.int .i64 v4)).putO 3 (.bool d4)
    have m4' : Within (w.heap.size + 2) (w.heap.size + 4) V4 ((V4.setCell ⟨w.heap.size + 2, 5, none⟩ (.int .i64 v4)).setCell ⟨w.heap.size + 3, 3, none⟩ (.bool d4)) := ((Within.refl _ _ _).setCell (p := ⟨w.heap.size + 2, 5, none⟩) (by simp) (by simp) _).setCell (p := ⟨w.heap.size + 3, 3, none⟩) (by simp) (by simp) _
    have z4' : ((V4.setCell ⟨w.heap.size + 2, 5, none⟩ (.int .i64 v4)).setCell ⟨w.heap.size + 3, 3, none⟩ (.bool d4)).heap.size = V4.heap.size := by simp [World.setCell]
    have o2' : Hid (∀ zs, clist p1 = some zs → OwnT 2 y2l y2h ((V4.setCell ⟨w.heap.size + 2, 5, none⟩ (.int .i64 v4)).setCell ⟨w.heap.size + 3, 3, none⟩ (.bool d4)) (.slice r2 m2 k2) zs) := Lib.hid fun zs h => (o2.out zs h).kept m4' (.inr Y2.out.1)
    have o3' : Hid (∀ zs, clist p2 = some zs → OwnT 2 y3l y3h ((V4.setCell ⟨w.heap.size + 2, 5, none⟩ (.int .i64 v4)).setCell ⟨w.heap.size + 3, 3, none⟩ (.bool d4)) (.slice r3 m3 k3) zs) := Lib.hid fun zs h => (o3.out zs h).kept m4' (.inr Y3.out.1)
    have HT4 := Lib.hid T4
    have HM4 := Lib.hid m4'
    have HZ4 := Lib.hid z4'
    have HB4 := Lib.hid b4
    clear S4 T4 m4' z4' b4 x3
    go_upto_region 10 with (fail)
    generalize ((V4.setCell ⟨w.heap.size + 2, 5, none⟩ (.int .i64 v4)).setCell ⟨w.heap.size + 3, 3, none⟩ (.bool d4)) = W4 at *
    have HQ4 := HT4
    clear HT4 ut uo uf ug
    have o2 := o2'
    clear o2'
    have o3 := o3'
    clear o3'
    have x4 : W4.cell? ⟨w.heap.size + 1, 3, none⟩ = some (.string p3) := HQ4.out.word 3 (by decide)
    clear x4
    have HY4 := Lib.hid (show y3h ≤ W4.heap.size by have := HZ3.out; have := HB4.out.size; have := HZ4.out; omega)
    by_cases h3 : p3.size = 0
    · have hl : p3.toList.isEmpty = true := by
        rw [ByteArray.toList_eq, List.isEmpty_iff]
        exact List.length_eq_zero_iff.1 (by rw [Array.length_toList]; exact h3)
      have x4 : W4.cell? ⟨w.heap.size + 1, 3, none⟩ = some (.string p3) := HQ4.out.word 3 (by decide)
      have hT : W4.heap[w.heap.size + 2]? = some (.cells #[.int .i64 v1, .slice r2 m2 k2, .slice r3 m3 k3, .slice none 0 0, .string p4, .int .i64 v4, .string p6] 54) := rowIs_litR HQ4.out.t (fun i hi => by
        have : i = 0 ∨ i = 1 ∨ i = 2 ∨ i = 3 ∨ i = 4 ∨ i = 5 ∨ i = 6 := by simp at hi; omega
        rcases this with rfl | rfl | rfl | rfl | rfl | rfl | rfl <;> rfl)
      have hO : W4.heap[w.heap.size + 3]? = some (.cells #[.bool d1, .bool d2, .bool d3, .bool d4] 90) := rowIs_litR HQ4.out.o (fun i hi => by
        have : i = 0 ∨ i = 1 ∨ i = 2 ∨ i = 3 := by simp at hi; omega
        rcases this with rfl | rfl | rfl | rfl <;> rfl)
      have t5 : T5 w W4 _ _ _ _ _ _ _ _ _ _ _ := ⟨HQ4.out.b, HQ4.out.r, hT, hO⟩
      have HT5 := Lib.hid t5
      clear hT hO
      by_cases hall : d1 = true ∧ d2 = true ∧ d3 = true ∧ d4 = true
      · obtain ⟨rfl, rfl, rfl, rfl⟩ := hall
        obtain ⟨za, hza⟩ := Option.isSome_iff_exists.1 HD2.out.symm
        obtain ⟨zb, hzb⟩ := Option.isSome_iff_exists.1 HD3.out.symm
        have h0 : 0 ≤ val p0 := of_decide_eq_true HD1.out.symm
        have h5 : 0 ≤ val p5 := of_decide_eq_true HD4.out.symm
        obtain rfl := HE1.out h0
        obtain rfl := HE4.out h5
        have hq := HQ.out.trans (stepOf_some h0 hza hzb h5)
        obtain ⟨hy, hhy⟩ : ∃ hy, hy = if p3.size = 0 then [] else pcs 47 p3 := ⟨_, rfl⟩
        rw [← hhy] at hq
        have how : OwS W4 y3h (.slice none 0 0) hy := by rw [hhy]; rw [if_pos h3]; exact OwS.nil _ _
        have hsz : ∀ x ∈ hy ++ [p4, p6], x.size < 4294967281 := by
          intro x hx
          rw [hhy] at hx
          rcases List.mem_append.1 hx with hx | hx
          · by_cases h3' : p3.size = 0
            · rw [if_pos h3'] at hx; cases hx
            · rw [if_neg h3'] at hx
              have := pcs_size 47 _ p3 (Nat.le_refl _) x hx
              have := hps.out p3 (by simp)
              omega
          · have : x = p4 ∨ x = p6 := by simpa using hx
            rcases this with rfl | rfl
            · have := hps.out x (by simp); omega
            · have := hps.out x (by simp); omega
        obtain ⟨T, hT⟩ : ∃ T : St, T = ⟨val p0, za, zb, hy, p4, val p5, p6⟩ := ⟨_, rfl⟩
        have hw0 := HT5.out.all
        have S : SB W4 (w.heap.size + 2) T _ _ _ := ⟨by rw [hT]; exact hw0.2.1, hw0.2.2.1, hw0.2.2.2.1, hw0.2.2.2.2.1, by rw [hT]; exact hw0.2.2.2.2.2.1, by rw [hT]; exact hw0.2.2.2.2.2.2.1, by rw [hT]; exact hw0.2.2.2.2.2.2.2.1, by rw [hT]; exact (o2.out za hza).is, by rw [hT]; exact (o3.out zb hzb).is, by rw [hT]; exact how.sl⟩
        have HCW : Hid (∀ W', Drawn W4 W' → Calls Tryd.prog 59 #[.pointer (some ⟨w.heap.size + 2, 0, none⟩)] W' (fun e w' => e = .returned (.bool (canB T)) ∧ T5 w w' (.int .i64 (val p0)) (.slice r2 m2 k2) (.slice r3 m3 k3) (.slice none 0 0) (.string p4) (.int .i64 (val p5)) (.string p6) true true true true ∧ Below W4.heap.size W4 w')) :=
          Lib.hid fun W' hd => (c_canBeWritten (S.kept (hd.below _)) (by rw [hT]; exact ⟨i64_val h0, i64_val h5⟩) (by rw [hT]; have := cl_len hza; have := cl_len hzb; have := hps.out p1 (by simp); have := hps.out p2 (by simp); show za.length + zb.length ≤ _; omega) (by rw [hT]; exact hsz)).mono (fun e w' h => ⟨h.1, HT5.out.call (bel_next (hd.below _) h.2), bel_next (hd.below _) h.2⟩)
        rw [← hT] at hq
        have HR' := Lib.hid hq
        have HHW := Lib.hid how
        have HTT := Lib.hid hT
        have HA := Lib.hid (o2.out za hza)
        have HBb := Lib.hid (o3.out zb hzb)
        have hw := hw0
        clear hw0 S hsz hq how hT hhy HQ HE1 HE4 HD1 HD2 HD3 HD4 o2 o3 hza hzb
        obtain ⟨-, tt0, tt1, tt2, tt3, tt4, tt5, tt6, oo0, oo1, oo2, oo3, rr0, rr1, rr2, rr3, rr4, rr5, rr6, ff0, ff1, ff2, ff3, ff4, ff5, ff6⟩ := hw
        clear t5
        have hE4 := fun W => eq4 true true true true W
        simp only [Bool.and_true] at hE4
        obtain ⟨bb, hbb⟩ : ∃ b, b = canB T := ⟨_, rfl⟩
        rw [← hbb] at HCW
        have HBB := Lib.hid hbb
        clear hbb
        go_upto_region 12 with (fail)
        go_region_with (go_at_call 59; refine (HCW.out _ (by repeat (first | exact Drawn.refl _ | refine Drawn.step ?_ _ | refine Drawn.one ?_))).mono ?_; rintro e wq ⟨rfl, t5q, hbq⟩; have HB7 := Lib.hid hbq; have HT7 := Lib.hid t5q; clear hbq tt0 tt1 tt2 tt3 tt4 tt5 tt6 oo0 oo1 oo2 oo3 rr0 rr1 rr2 rr3 rr4 rr5 rr6 ff0 ff1 ff2 ff3 ff4 ff5 ff6; obtain ⟨-, tt0, tt1, tt2, tt3, tt4, tt5, tt6, oo0, oo1, oo2, oo3, rr0, rr1, rr2, rr3, rr4, rr5, rr6, ff0, ff1, ff2, ff3, ff4, ff5, ff6⟩ := t5q.all; clear t5q)
        all_goals
          clear tt0 tt1 tt2 tt3 tt4 tt5 tt6 oo0 oo1 oo2 oo3 rr0 rr1 rr2 rr3 rr4 rr5 rr6 ff0 ff1 ff2 ff3 ff4 ff5 ff6
          go_wp2_with fail
          have hg := set7_litc HT7.out.r rfl (.int .i64 (val p0)) (.slice r2 m2 k2) (.slice r3 m3 k3) (.slice none 0 0) (.string p4) (.int .i64 (val p5)) (.string p6)
          refine bodyPost_ret (v := .tuple #[.agg #[.int .i64 (val p0), .slice r2 m2 k2, .slice r3 m3 k3, .slice none 0 0, .string p4, .int .i64 (val p5), .string p6], .bool bb]) ?_ rfl ?_
          · refine (results_cell_row2 rfl _ _ w.heap.size 54 #[.int .i64 (val p0), .slice r2 m2 k2, .slice r3 m3 k3, .slice none 0 0, .string p4, .int .i64 (val p5), .string p6] (0, 0) _ ?_ ?_ Tryd.underlying54 rfl (by kernel_rfl)).trans ?_
            · rfl
            · exact hg
            · rfl
          clear hg
          refine ⟨set7_bel HT7.out.b (Nat.le_refl _) _ _ _ _ _ _ _, _, ret_t2 (by rw [HR'.out]; simp only [← HBB.out]; cases bb <;> rfl), fun t ht => ?_, ⟨_, _, _, _, _, _, _, _, _, _, _, _, _, rfl⟩⟩
          rw [HR'.out] at ht
          split at ht
          · cases ht
            rw [set7_chain]
            have hN := HQ4.out.lt
            have hY2 := Y2.out
            have hY3 := Y3.out
            have hY4 := HY4.out
            exact stIn_mk HTT.out HB7.out HA.out HBb.out HHW.out (by omega) (by omega) (by omega)
          · cases ht
      · have HN := Lib.hid (HQ.out.trans (stepOf_none (by rw [← HD1.out, ← HD2.out, ← HD3.out, ← HD4.out]; exact hall)))
        have hn1 : ¬ (d1 = true ∧ d2 = true ∧ d3 = true ∧ d4 = true) := hall
        clear hall HQ HE1 HE4 HD1 HD2 HD3 HD4 o2 o3
        obtain ⟨-, tt0, tt1, tt2, tt3, tt4, tt5, tt6, oo0, oo1, oo2, oo3, rr0, rr1, rr2, rr3, rr4, rr5, rr6, ff0, ff1, ff2, ff3, ff4, ff5, ff6⟩ := t5.all
        clear t5
        have hE4 := fun W => eq4f hn1 W
        clear hn1
        go_upto_region 12 with (fail)
        go_region
        all_goals
          go_wp2_with fail
          have hg := set7_litd HT5.out.r rfl (.int .i64 v1) (.slice r2 m2 k2) (.slice r3 m3 k3) (.slice none 0 0) (.string p4) (.int .i64 v4) (.string p6)
          refine bodyPost_ret (v := .tuple #[.agg #[.int .i64 v1, .slice r2 m2 k2, .slice r3 m3 k3, .slice none 0 0, .string p4, .int .i64 v4, .string p6], .bool false]) ?_ rfl ?_
          · refine (results_cell_row2 rfl _ _ w.heap.size 54 #[.int .i64 v1, .slice r2 m2 k2, .slice r3 m3 k3, .slice none 0 0, .string p4, .int .i64 v4, .string p6] (0, 0) _ ?_ ?_ Tryd.underlying54 rfl (by kernel_rfl)).trans ?_
            · rfl
            · exact hg
            · rfl
          clear hg
          refine ⟨(set7_bel HT5.out.b (Nat.le_refl _) _ _ _ _ _ _ _).trans (Drawn.below (Drawn.one (Drawn.refl _)) _), _, by rw [HN.out]; rfl, fun t ht => (by rw [HN.out] at ht; cases ht), ⟨_, _, _, _, _, _, _, _, _, _, _, _, _, rfl⟩⟩
    · have hl : p3.toList.isEmpty = false := by
        rw [ByteArray.toList_eq, List.isEmpty_eq_false_iff]
        exact fun e => h3 (by have := congrArg List.length e; simpa using this)
      have x4 : W4.cell? ⟨w.heap.size + 1, 3, none⟩ = some (.string p3) := HQ4.out.word 3 (by decide)
      go_wp2_with fail
      refine (c_Split (s := p3) (by have := hps.out p3 (by simp); omega) 47 W4).mono ?_
      rintro e V5 ⟨rfl, hV5⟩
      have b5 : Below W4.heap.size W4 V5 := by rw [hV5]; exact bel_alloc (Below.refl _ _) _
      have S5 := HQ4.out.call b5
      have how5 : OwS V5 W4.heap.size (.slice (some ⟨W4.heap.size, 0, none⟩) (pcs 47 p3).length (pcs 47 p3).length) (pcs 47 p3) := by
        rw [hV5]
        exact OwS.split W4 _ (by have := pcs_len 47 p3; have := Lib.countB_le ⟨#[47]⟩ (Nat.le_refl _) p3.size p3 (Nat.le_refl _); have := hps.out p3 (by simp); omega)
      clear hV5
      have hN5 := HQ4.out.lt
      obtain ⟨n5, hn5⟩ : ∃ n, n = W4.heap.size := ⟨_, rfl⟩
      obtain ⟨ph, hph⟩ : ∃ n, n = (pcs 47 p3).length := ⟨_, rfl⟩
      rw [← hn5, ← hph] at how5 ⊢
      have HY5 := Lib.hid (show y3h ≤ n5 ∧ w.heap.size + 3 < n5 ∧ n5 ≤ V5.heap.size by have := HY4.out; have := b5.size; omega)
      have m5 : Within (w.heap.size + 2) (w.heap.size + 4) V5 (V5.setCell ⟨w.heap.size + 2, 3, none⟩ (.slice (some ⟨n5, 0, none⟩) ph ph)) := (Within.refl _ _ _).setCell (p := ⟨w.heap.size + 2, 3, none⟩) (by simp) (by simp) _
      have T5' := S5.putT 3 (.slice (some ⟨n5, 0, none⟩) ph ph)
      have o2' : Hid (∀ zs, clist p1 = some zs → OwnT 2 y2l y2h (V5.setCell ⟨w.heap.size + 2, 3, none⟩ (.slice (some ⟨n5, 0, none⟩) ph ph)) (.slice r2 m2 k2) zs) := Lib.hid fun zs h => ((o2.out zs h).keptB b5).kept m5 (.inr Y2.out.1)
      have o3' : Hid (∀ zs, clist p2 = some zs → OwnT 2 y3l y3h (V5.setCell ⟨w.heap.size + 2, 3, none⟩ (.slice (some ⟨n5, 0, none⟩) ph ph)) (.slice r3 m3 k3) zs) := Lib.hid fun zs h => ((o3.out zs h).keptB b5).kept m5 (.inr Y3.out.1)
      have HHO := Lib.hid (show OwS (V5.setCell ⟨w.heap.size + 2, 3, none⟩ (.slice (some ⟨n5, 0, none⟩) ph ph)) y3h _ _ from (how5.within m5 (by have := HY5.out; omega)).mono HY5.out.1)
      have HS5 := Lib.hid (show (V5.setCell ⟨w.heap.size + 2, 3, none⟩ (.slice (some ⟨n5, 0, none⟩) ph ph)).heap.size = V5.heap.size by simp [World.setCell])
      have HT5' := Lib.hid T5'
      have ut := S5.t.cell (show 3 < 7 by omega)
      have uf := S5.t.frozen 3
      have HPH := Lib.hid hph
      clear S5 T5' m5 how5 hn5 hph hN5 b5 hl x4
      go_upto_region 12 with (fail)
      generalize (V5.setCell ⟨w.heap.size + 2, 3, none⟩ (.slice (some ⟨n5, 0, none⟩) ph ph)) = W5 at *
      clear ut uf o2 o3
      have o2 := o2'
      have o3 := o3'
      have HQ5 := HT5'
      clear o2' o3' HT5' HY4
      have HY4 := Lib.hid (show y3h ≤ W5.heap.size by have := HS5.out; have := HY5.out; omega)
      have hT : W5.heap[w.heap.size + 2]? = some (.cells #[.int .i64 v1, .slice r2 m2 k2, .slice r3 m3 k3, .slice (some ⟨n5, 0, none⟩) ph ph, .string p4, .int .i64 v4, .string p6] 54) := rowIs_litR HQ5.out.t (fun i hi => by
        have : i = 0 ∨ i = 1 ∨ i = 2 ∨ i = 3 ∨ i = 4 ∨ i = 5 ∨ i = 6 := by simp at hi; omega
        rcases this with rfl | rfl | rfl | rfl | rfl | rfl | rfl <;> rfl)
      have hO : W5.heap[w.heap.size + 3]? = some (.cells #[.bool d1, .bool d2, .bool d3, .bool d4] 90) := rowIs_litR HQ5.out.o (fun i hi => by
        have : i = 0 ∨ i = 1 ∨ i = 2 ∨ i = 3 := by simp at hi; omega
        rcases this with rfl | rfl | rfl | rfl <;> rfl)
      have t5 : T5 w W5 _ _ _ _ _ _ _ _ _ _ _ := ⟨HQ5.out.b, HQ5.out.r, hT, hO⟩
      have HT5 := Lib.hid t5
      clear hT hO
      by_cases hall : d1 = true ∧ d2 = true ∧ d3 = true ∧ d4 = true
      · obtain ⟨rfl, rfl, rfl, rfl⟩ := hall
        obtain ⟨za, hza⟩ := Option.isSome_iff_exists.1 HD2.out.symm
        obtain ⟨zb, hzb⟩ := Option.isSome_iff_exists.1 HD3.out.symm
        have h0 : 0 ≤ val p0 := of_decide_eq_true HD1.out.symm
        have h5 : 0 ≤ val p5 := of_decide_eq_true HD4.out.symm
        obtain rfl := HE1.out h0
        obtain rfl := HE4.out h5
        have hq := HQ.out.trans (stepOf_some h0 hza hzb h5)
        obtain ⟨hy, hhy⟩ : ∃ hy, hy = if p3.size = 0 then [] else pcs 47 p3 := ⟨_, rfl⟩
        rw [← hhy] at hq
        have how : OwS W5 y3h (.slice (some ⟨n5, 0, none⟩) ph ph) hy := by rw [hhy]; rw [if_neg h3]; exact HHO.out
        have hsz : ∀ x ∈ hy ++ [p4, p6], x.size < 4294967281 := by
          intro x hx
          rw [hhy] at hx
          rcases List.mem_append.1 hx with hx | hx
          · by_cases h3' : p3.size = 0
            · rw [if_pos h3'] at hx; cases hx
            · rw [if_neg h3'] at hx
              have := pcs_size 47 _ p3 (Nat.le_refl _) x hx
              have := hps.out p3 (by simp)
              omega
          · have : x = p4 ∨ x = p6 := by simpa using hx
            rcases this with rfl | rfl
            · have := hps.out x (by simp); omega
            · have := hps.out x (by simp); omega
        obtain ⟨T, hT⟩ : ∃ T : St, T = ⟨val p0, za, zb, hy, p4, val p5, p6⟩ := ⟨_, rfl⟩
        have hw0 := HT5.out.all
        have S : SB W5 (w.heap.size + 2) T _ _ _ := ⟨by rw [hT]; exact hw0.2.1, hw0.2.2.1, hw0.2.2.2.1, hw0.2.2.2.2.1, by rw [hT]; exact hw0.2.2.2.2.2.1, by rw [hT]; exact hw0.2.2.2.2.2.2.1, by rw [hT]; exact hw0.2.2.2.2.2.2.2.1, by rw [hT]; exact (o2.out za hza).is, by rw [hT]; exact (o3.out zb hzb).is, by rw [hT]; exact how.sl⟩
        have HCW : Hid (∀ W', Drawn W5 W' → Calls Tryd.prog 59 #[.pointer (some ⟨w.heap.size + 2, 0, none⟩)] W' (fun e w' => e = .returned (.bool (canB T)) ∧ T5 w w' (.int .i64 (val p0)) (.slice r2 m2 k2) (.slice r3 m3 k3) (.slice (some ⟨n5, 0, none⟩) ph ph) (.string p4) (.int .i64 (val p5)) (.string p6) true true true true ∧ Below W5.heap.size W5 w')) :=
          Lib.hid fun W' hd => (c_canBeWritten (S.kept (hd.below _)) (by rw [hT]; exact ⟨i64_val h0, i64_val h5⟩) (by rw [hT]; have := cl_len hza; have := cl_len hzb; have := hps.out p1 (by simp); have := hps.out p2 (by simp); show za.length + zb.length ≤ _; omega) (by rw [hT]; exact hsz)).mono (fun e w' h => ⟨h.1, HT5.out.call (bel_next (hd.below _) h.2), bel_next (hd.below _) h.2⟩)
        rw [← hT] at hq
        have HR' := Lib.hid hq
        have HHW := Lib.hid how
        have HTT := Lib.hid hT
        have HA := Lib.hid (o2.out za hza)
        have HBb := Lib.hid (o3.out zb hzb)
        have hw := hw0
        clear hw0 S hsz hq how hT hhy HQ HE1 HE4 HD1 HD2 HD3 HD4 o2 o3 hza hzb
        obtain ⟨-, tt0, tt1, tt2, tt3, tt4, tt5, tt6, oo0, oo1, oo2, oo3, rr0, rr1, rr2, rr3, rr4, rr5, rr6, ff0, ff1, ff2, ff3, ff4, ff5, ff6⟩ := hw
        clear t5
        have hE4 := fun W => eq4 true true true true W
        simp only [Bool.and_true] at hE4
        obtain ⟨bb, hbb⟩ : ∃ b, b = canB T := ⟨_, rfl⟩
        rw [← hbb] at HCW
        have HBB := Lib.hid hbb
        clear hbb
        go_upto_region 12 with (fail)
        go_region_with (go_at_call 59; refine (HCW.out _ (by repeat (first | exact Drawn.refl _ | refine Drawn.step ?_ _ | refine Drawn.one ?_))).mono ?_; rintro e wq ⟨rfl, t5q, hbq⟩; have HB7 := Lib.hid hbq; have HT7 := Lib.hid t5q; clear hbq tt0 tt1 tt2 tt3 tt4 tt5 tt6 oo0 oo1 oo2 oo3 rr0 rr1 rr2 rr3 rr4 rr5 rr6 ff0 ff1 ff2 ff3 ff4 ff5 ff6; obtain ⟨-, tt0, tt1, tt2, tt3, tt4, tt5, tt6, oo0, oo1, oo2, oo3, rr0, rr1, rr2, rr3, rr4, rr5, rr6, ff0, ff1, ff2, ff3, ff4, ff5, ff6⟩ := t5q.all; clear t5q)
        all_goals
          clear tt0 tt1 tt2 tt3 tt4 tt5 tt6 oo0 oo1 oo2 oo3 rr0 rr1 rr2 rr3 rr4 rr5 rr6 ff0 ff1 ff2 ff3 ff4 ff5 ff6
          go_wp2_with fail
          have hg := set7_litc HT7.out.r rfl (.int .i64 (val p0)) (.slice r2 m2 k2) (.slice r3 m3 k3) (.slice (some ⟨n5, 0, none⟩) ph ph) (.string p4) (.int .i64 (val p5)) (.string p6)
          refine bodyPost_ret (v := .tuple #[.agg #[.int .i64 (val p0), .slice r2 m2 k2, .slice r3 m3 k3, .slice (some ⟨n5, 0, none⟩) ph ph, .string p4, .int .i64 (val p5), .string p6], .bool bb]) ?_ rfl ?_
          · refine (results_cell_row2 rfl _ _ w.heap.size 54 #[.int .i64 (val p0), .slice r2 m2 k2, .slice r3 m3 k3, .slice (some ⟨n5, 0, none⟩) ph ph, .string p4, .int .i64 (val p5), .string p6] (0, 0) _ ?_ ?_ Tryd.underlying54 rfl (by kernel_rfl)).trans ?_
            · rfl
            · exact hg
            · rfl
          clear hg
          refine ⟨set7_bel HT7.out.b (Nat.le_refl _) _ _ _ _ _ _ _, _, ret_t2 (by rw [HR'.out]; simp only [← HBB.out]; cases bb <;> rfl), fun t ht => ?_, ⟨_, _, _, _, _, _, _, _, _, _, _, _, _, rfl⟩⟩
          rw [HR'.out] at ht
          split at ht
          · cases ht
            rw [set7_chain]
            have hN := HQ4.out.lt
            have hY2 := Y2.out
            have hY3 := Y3.out
            have hY4 := HY4.out
            exact stIn_mk HTT.out HB7.out HA.out HBb.out HHW.out (by omega) (by omega) (by omega)
          · cases ht
      · have HN := Lib.hid (HQ.out.trans (stepOf_none (by rw [← HD1.out, ← HD2.out, ← HD3.out, ← HD4.out]; exact hall)))
        have hn1 : ¬ (d1 = true ∧ d2 = true ∧ d3 = true ∧ d4 = true) := hall
        clear hall HQ HE1 HE4 HD1 HD2 HD3 HD4 o2 o3
        obtain ⟨-, tt0, tt1, tt2, tt3, tt4, tt5, tt6, oo0, oo1, oo2, oo3, rr0, rr1, rr2, rr3, rr4, rr5, rr6, ff0, ff1, ff2, ff3, ff4, ff5, ff6⟩ := t5.all
        clear t5
        have hE4 := fun W => eq4f hn1 W
        clear hn1
        go_upto_region 12 with (fail)
        go_region
        all_goals
          go_wp2_with fail
          have hg := set7_litd HT5.out.r rfl (.int .i64 v1) (.slice r2 m2 k2) (.slice r3 m3 k3) (.slice (some ⟨n5, 0, none⟩) ph ph) (.string p4) (.int .i64 v4) (.string p6)
          refine bodyPost_ret (v := .tuple #[.agg #[.int .i64 v1, .slice r2 m2 k2, .slice r3 m3 k3, .slice (some ⟨n5, 0, none⟩) ph ph, .string p4, .int .i64 v4, .string p6], .bool false]) ?_ rfl ?_
          · refine (results_cell_row2 rfl _ _ w.heap.size 54 #[.int .i64 v1, .slice r2 m2 k2, .slice r3 m3 k3, .slice (some ⟨n5, 0, none⟩) ph ph, .string p4, .int .i64 v4, .string p6] (0, 0) _ ?_ ?_ Tryd.underlying54 rfl (by kernel_rfl)).trans ?_
            · rfl
            · exact hg
            · rfl
          clear hg
          refine ⟨(set7_bel HT5.out.b (Nat.le_refl _) _ _ _ _ _ _ _).trans (Drawn.below (Drawn.one (Drawn.refl _)) _), _, by rw [HN.out]; rfl, fun t ht => (by rw [HN.out] at ht; cases ht), ⟨_, _, _, _, _, _, _, _, _, _, _, _, _, rfl⟩⟩
  · have HN := Lib.hid (stepP_none h7)
    obtain ⟨xs, hxs⟩ : ∃ xs, xs = pcs 59 s := ⟨_, rfl⟩
    rw [← hxs] at HSP hpl h7
    have hi : ((xs.length : Int) != 7) = true := by rw [bne_iff_ne]; omega
    obtain ⟨R, hR⟩ : ∃ R, R = stepP s := ⟨_, rfl⟩
    rw [← hR] at HN ⊢
    clear hxs hR h7 hpl hcb
    go_enter Tryd.func31, Tryd.ntmps31
    go_wp2_with fail
    refine (HSP.out _).mono ?_
    rintro e w1 ⟨rfl, rfl⟩
    go_wp2_with fail
    refine bodyPost_ret (results_cell_row2 rfl _ _ w.heap.size 54 #[_, _, _, _, _, _, _] (0, 0) _ (by rfl) ((heap_alloc_old _ _ (by simp)).trans (heap_alloc_new w _)) Tryd.underlying54 rfl (by kernel_rfl)) rfl ?_
    refine ⟨((Below.refl _ w).alloc (Nat.le_refl _) _).alloc (by simp) _, _, by rw [HN.out]; rfl, fun t ht => (by rw [HN.out] at ht; cases ht), ⟨_, _, _, _, _, _, _, _, _, _, _, _, _, rfl⟩⟩
end Go.Proofs.YtjlpmfimbgbcmaaDoor
