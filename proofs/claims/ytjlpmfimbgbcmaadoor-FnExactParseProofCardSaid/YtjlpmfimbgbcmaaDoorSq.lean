/-
  strings.SplitSeq at a comma: its iterator's contract.
-/
import Derived.Test.YtjlpmfimbgbcmaaDoorShl
import Derived.Test.YtjlpmfimbgbcmaaDoorRt
import Derived.Shelf.Abstract
import Derived.Shelf.AbstractIn
import Derived.Shelf.RegionOpen
import Derived.OwnWalkIn
import Derived.TacticsInMore
import Derived.LoopNIn
import Derived.LoopIn
namespace Go.Proofs.YtjlpmfimbgbcmaaDoor
open Go.RowKit Go.Shelf
attribute [local go_sem] Oper.semAt_some

/-- How long the text in the cell at block t is. -/
def szAt (t : Nat) (w : World) : Nat := match w.cell? ⟨t, 0, none⟩ with | some (.string r) => r.size | _ => 0
theorem szAt_eq {t : Nat} {w : World} {r : ByteArray} (h : w.cell? ⟨t, 0, none⟩ = some (.string r)) : szAt t w = r.size := by simp [szAt, h]

theorem sq_make (n : Nat) (s : ByteArray) (w : World) :
    CallsIn Fence.wide n Tryd.prog 91 #[.string s, .string ⟨#[44]⟩, .int .i64 0] w fun e w' =>
      e = .returned (.func (.func 110) #[] #[.pointer (some ⟨w.heap.size + 1, 0, none⟩), .pointer (some ⟨w.heap.size, 0, none⟩), .pointer (some ⟨w.heap.size + 2, 0, none⟩)]) ∧
      w' = ((w.alloc (.cells #[.string s] 9)).alloc (.cells #[.string ⟨#[44]⟩] 9)).alloc (.cells #[.int .i64 0] 3) := by
  refine callsIn_wide.2 ?_
  go_enter Tryd.func91, Tryd.ntmps91
  go_wp2
  go_ret
  exact ⟨rfl, rfl⟩
theorem c_SplitSeq (s : ByteArray) (w : World) :
    Calls Tryd.prog 78 #[.string s, .string ⟨#[44]⟩] w (fun e w' =>
      e = .returned (.func (.func 110) #[] #[.pointer (some ⟨w.heap.size + 1, 0, none⟩), .pointer (some ⟨w.heap.size, 0, none⟩), .pointer (some ⟨w.heap.size + 2, 0, none⟩)]) ∧
      w' = ((w.alloc (.cells #[.string s] 9)).alloc (.cells #[.string ⟨#[44]⟩] 9)).alloc (.cells #[.int .i64 0] 3)) := by
  go_enter Tryd.func78, Tryd.ntmps78
  go_wp2_with fail
  refine (callsIn_wide.1 (sq_make 1 s w)).mono ?_
  rintro e w' ⟨rfl, rfl⟩
  go_wp2
  go_ret
  exact ⟨rfl, rfl⟩

set_option maxHeartbeats 2000000 in
set_option maxRecDepth 100000 in
theorem sq_walk {m l t : Nat} (s : ByteArray) (J Jx : List ByteArray → World → Prop) (hJt : ∀ s A v, J s A → J s (A.setCell ⟨t, 0, none⟩ v))
    (hY : ∀ pre x W1, J pre W1 → pre ++ [x] <+: pcs 44 s → YieldAt Fence.wide (m - 1) Tryd.prog l #[.string x] W1 fun e W' =>
      (e = .returned (.bool true) ∧ J (pre ++ [x]) W' ∧ Kt t W1 W') ∨ (e = .returned (.bool false) ∧ Jx (pre ++ [x]) W'))
    (W : World) (hs : s.size < 4294967281) (c0 : W.heap[t]? = some (.cells #[.string s] 9)) (c1 : W.heap[t + 1]? = some (.cells #[.string ⟨#[44]⟩] 9)) (c2 : W.heap[t + 2]? = some (.cells #[.int .i64 0] 3)) (h0 : J [] W) :
    CallsIn Fence.wide m Tryd.prog 110 #[.func (.yield l) #[] #[], .pointer (some ⟨t + 1, 0, none⟩), .pointer (some ⟨t, 0, none⟩), .pointer (some ⟨t + 2, 0, none⟩)] W fun e W' => (∃ v, e = .returned v) ∧ (J (pcs 44 s) W' ∨ ∃ pre, Jx pre W') := by
  refine callsIn_of_wp Tryd.func110 rfl trivial ?_ rfl
  simp only [Tryd.ntmps110, List.size_toArray, List.length_cons, List.length_nil, Nat.reduceAdd, Nat.reduceSub, Array.replicate_succ, Array.replicate_zero, List.push_toArray, List.append_toArray, List.nil_append, List.cons_append]
  have e1 : W.cell? ⟨t + 1, 0, none⟩ = some (.string ⟨#[44]⟩) := by simp [World.cell?, c1]
  gi_wp2
  gi_loopw [7, 8] (fun _ _ wr => ∃ (pre : List ByteArray) (r : ByteArray), wr.heap[t]? = some (.cells #[.string r] 9) ∧ wr.heap[t + 1]? = some (.cells #[.string ⟨#[44]⟩] 9) ∧ wr.heap[t + 2]? = some (.cells #[.int .i64 0] 3) ∧ r.size ≤ s.size ∧ pcs 44 s = pre ++ pcs 44 r ∧ J pre wr)
    (fun _ _ wr => szAt t wr)
  case atStart =>
    exact ⟨[], s, c0, c1, c2, Nat.le_refl _, rfl, h0⟩
  case round =>
    obtain ⟨pre, r, d0, d1, d2, hrs, hx, hJs⟩ := hrel
    have e0 : wr.cell? ⟨t, 0, none⟩ = some (.string r) := by simp [World.cell?, d0]
    have e1 : wr.cell? ⟨t + 1, 0, none⟩ = some (.string ⟨#[44]⟩) := by simp [World.cell?, d1]
    have e2 : wr.cell? ⟨t + 2, 0, none⟩ = some (.int .i64 0) := by simp [World.cell?, d2]
    rcases pcs_cases 44 r with hm | ⟨j, hj, ej, hb⟩
    · obtain ⟨ix, pe⟩ := pcs_miss hm
      rw [pe] at hx
      obtain ⟨fn, tmps, assign, body, hy, hR⟩ := hY pre r wr hJs (by rw [hx]; exact List.prefix_refl _)
      gi_wp2_with (refine ⟨trivial, fun h => (by cases h), ?_⟩; gi_at_call 76; refine (callsIn_wide.2 (c_Index _ _ _)).mono ?_; rintro e w' ⟨rfl, rfl⟩; rw [ix])
      refine ⟨fun h => (by cases h), hR.mono ?_⟩
      rintro e W3 (⟨rfl, hJ3, -⟩ | ⟨rfl, hJx3⟩)
      · gi_wp2
        go_end0
        exact ⟨⟨_, rfl⟩, .inl (by rw [hx]; exact hJ3)⟩
      · gi_wp2
        go_end0
        exact ⟨⟨_, rfl⟩, .inr ⟨_, hJx3⟩⟩
    · obtain ⟨ix, pe⟩ := pcs_hit hj ej hb
      rw [pe] at hx
      obtain ⟨fn, tmps, assign, body, hy, hR⟩ := hY pre (r.extract 0 j) wr hJs (by rw [hx]; exact ⟨_, by rw [List.append_assoc]; rfl⟩)
      have w1 : wrap64 (j : Int) = j := by unfold wrap64; omega
      have w2 : wrap64 ((j : Int) + 1) = ((j + 1 : Nat) : Int) := by unfold wrap64; omega
      gi_wp2_with (refine ⟨trivial, fun h => (by cases h), ?_⟩; gi_at_call 76; refine (callsIn_wide.2 (c_Index _ _ _)).mono ?_; rintro e w' ⟨rfl, rfl⟩; rw [ix])
      refine ⟨fun h => (by cases h), hR.mono ?_⟩
      rintro e W3 (⟨rfl, hJ3, hk3⟩ | ⟨rfl, hJx3⟩)
      · have f0 := hk3 t _ (Nat.le_refl _) (by omega) d0
        have f1 := hk3 (t + 1) _ (by omega) (by omega) d1
        have f2 := hk3 (t + 2) _ (by omega) (by omega) d2
        have g0 : W3.cell? ⟨t, 0, none⟩ = some (.string r) := by simp [World.cell?, f0]
        have g1 : W3.cell? ⟨t + 1, 0, none⟩ = some (.string ⟨#[44]⟩) := by simp [World.cell?, f1]
        have g2 : W3.cell? ⟨t + 2, 0, none⟩ = some (.int .i64 0) := by simp [World.cell?, f2]
        have z0 : W3.frozen? ⟨t, 0, none⟩ = false := by simp [World.frozen?, f0]
        have hz : (r.extract (j + 1) r.size).size = r.size - (j + 1) := by simp
        gi_wp2
        go_roundw
        case rel =>
          exact ⟨pre ++ [r.extract 0 j], r.extract (j + 1) r.size, one_setCell f0, (Below.heap_setCell _ _ _ _ (by simp)).trans f1, (Below.heap_setCell _ _ _ _ (by simp)).trans f2, by omega, by rw [hx, List.append_assoc]; rfl, hJt _ _ _ hJ3⟩
        case measure =>
          rw [szAt_eq e0, szAt_eq (World.cell?_setCell_same' _ _ _ (by rw [g0]; rfl))]
          omega
      · gi_wp2
        refine bodyPost_ret (results_none rfl _ _ _) rfl ?_
        exact ⟨⟨_, rfl⟩, .inr ⟨_, hJx3⟩⟩

theorem sq_seq {m t : Nat} {s : ByteArray} (hs : s.size < 4294967281) {w : World} (c0 : w.heap[t]? = some (.cells #[.string s] 9)) (c1 : w.heap[t + 1]? = some (.cells #[.string ⟨#[44]⟩] 9)) (c2 : w.heap[t + 2]? = some (.cells #[.int .i64 0] 3)) :
    SeqT Fence.wide m Tryd.prog 110 #[.pointer (some ⟨t + 1, 0, none⟩), .pointer (some ⟨t, 0, none⟩), .pointer (some ⟨t + 2, 0, none⟩)] t (pcs 44 s) w := fun l J Jx W hW _ hJt hY h0 =>
  have lt : ∀ {k : Nat} {o : Obj}, w.heap[k]? = some o → k < w.heap.size := fun h => (Array.getElem?_eq_some_iff.1 h).1
  sq_walk s J Jx hJt hY W hs ((hW.block t (lt c0)).trans c0) ((hW.block _ (lt c1)).trans c1) ((hW.block _ (lt c2)).trans c2) h0
end Go.Proofs.YtjlpmfimbgbcmaaDoor
