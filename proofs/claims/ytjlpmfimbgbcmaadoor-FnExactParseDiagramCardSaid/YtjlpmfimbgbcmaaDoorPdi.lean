/-
  ParseDiagram of the program.
-/
import Derived.Test.YtjlpmfimbgbcmaaDoorPdp
namespace Go.Proofs.YtjlpmfimbgbcmaaDoor
open Go.RowKit

/-- What ParseDiagram answers. -/
def PDP (r : List (Int × Int) × Int × Int) (w : World) : Ending → World → Prop := fun e w' => ∃ v, e = .returned (.tuple #[v, .int .i64 r.2.1, .int .i64 r.2.2]) ∧ OwnP 73 w' w.heap.size v r.1 ∧ Below w.heap.size w w'
theorem RI.start (w : World) (T : ByteArray) : RI (w.alloc (.cells #[.string T, .int .i64 0, .int .i64 (-1)] 68)) w.heap.size T 0 (-1) :=
  World.rowIs_alloc w #[.string T, .int .i64 0, .int .i64 (-1)] 68 _ (fun i hi => by
    have : i = 0 ∨ i = 1 ∨ i = 2 := by simp at hi; omega
    rcases this with rfl | rfl | rfl <;> rfl)
set_option maxHeartbeats 1600000 in
theorem i_ParseDiagram {w : World} {T : ByteArray} {E : Value} (hE : ErrIn w E) (hT63 : T.size ≤ 281474976710656) : Calls Tryd.prog 17 #[.string T] w (PDP (pdR T) w) := by
  by_cases hT : T.size ≤ 200
  · have b1 : decide ((200 : Int) < (T.size : Int)) = false := decide_eq_false (by omega)
    have b1' : decide (200 < T.size) = false := decide_eq_false (by omega)
    have B0 := bel_box w (.cells #[.string T, .int .i64 0, .int .i64 (-1)] 68)
    have R0 := RI.start w T
    have hz : (w.alloc (.cells #[.string T, .int .i64 0, .int .i64 (-1)] 68)).heap.size = w.heap.size + 1 := by simp
    have h6 : w.heap.size ≠ 6 := by have := hE.2.1; omega
    have HC := Lib.hid (reads_then (c_atom (b := w.heap.size) (T := T) (E := E) h6 hT (T.size + 1)) (fun k hk => atomP_snd T (T.size + 1) k hk) h6 hT _ 0 (by omega) (Nat.zero_le _) R0 (hE.below B0))
    have hsn := thnP_snd (fun k hk => atomP_snd T (T.size + 1) k hk) 0 (Nat.zero_le T.size)
    have HP := Lib.hid (show pdR T = (if (thnP T (atomP T (T.size + 1)) 0).ok = true ∧ (thnP T (atomP T (T.size + 1)) 0).at_ = T.size then (if (thnP T (atomP T (T.size + 1)) 0).L.length ≤ 40 then ((thnP T (atomP T (T.size + 1)) 0).L, 0, 0) else ([], 0, 3)) else ([], ((thnP T (atomP T (T.size + 1)) 0).at_ : Int), 6)) from if_pos hT)
    obtain ⟨r, hr⟩ : ∃ r, r = thnP T (atomP T (T.size + 1)) 0 := ⟨_, rfl⟩
    rw [← hr] at HP HC hsn
    have hB0 := Lib.hid B0
    have HZ := Lib.hid hz
    clear hr R0 B0 hE
    go_enter Tryd.func17, Tryd.ntmps17
    go_wp2_with fail
    refine HC.out.mono ?_
    rintro e w3 ⟨v, a3, rfl, ov, r3, e3, l3, i3⟩
    have hrs := hsn.2.1
    have hrl := hsn.2.2.1
    have hB3 := Lib.hid (i3.below hB0.out (Nat.le_refl _) (Nat.le_refl _))
    have ov2 := ov.mono (B' := w.heap.size) (by omega)
    obtain ⟨ao, cc, rfl⟩ := ov2.shape
    have HO := Lib.hid ov2
    clear ov ov2 i3
    by_cases hok : r.ok = true
    · rw [e3 hok, if_pos hok] at r3
      obtain ⟨c0, c1, c2, f1, f2⟩ := r3.facts
      have R3 := Lib.hid r3
      by_cases ha : r.at_ = T.size
      · have d1 : decide ((r.at_ : Int) < (T.size : Int)) = false := decide_eq_false (by omega)
        have d1' : decide (r.at_ < T.size) = false := decide_eq_false (by omega)
        by_cases hl : r.L.length ≤ 40
        · have d2 : decide ((40 : Int) < (r.L.length : Int)) = false := decide_eq_false (by omega)
          have d2' : decide (40 < r.L.length) = false := decide_eq_false (by omega)
          have HR := Lib.hid (show pdR T = (r.L, 0, 0) by rw [HP.out, if_pos ⟨hok, ha⟩, if_pos hl])
          clear r3 e3 hok ha hl HC HP
          go_wp2_with fail
          go_ret3
          rw [HR.out]
          exact ⟨_, rfl, HO.out, hB3.out⟩
        · have d2 : decide ((40 : Int) < (r.L.length : Int)) = true := decide_eq_true (by omega)
          have d2' : decide (40 < r.L.length) = true := decide_eq_true (by omega)
          have HR := Lib.hid (show pdR T = ([], 0, 3) by rw [HP.out, if_pos ⟨hok, ha⟩, if_neg hl])
          clear r3 e3 hok ha hl HC HP
          go_wp2_with fail
          go_ret3
          rw [HR.out]
          exact ⟨_, rfl, OwnP.nil, hB3.out⟩
      · have d1 : decide ((r.at_ : Int) < (T.size : Int)) = true := decide_eq_true (by omega)
        have d1' : decide (r.at_ < T.size) = true := decide_eq_true (by omega)
        have HR := Lib.hid (show pdR T = ([], (r.at_ : Int), 6) by rw [HP.out, if_neg (fun q => ha q.2)])
        clear r3 e3 hok ha HC HP
        go_wp2_with fail
        refine (c_fail R3.out r.at_).mono ?_
        rintro e w4 ⟨rfl, r4, i4⟩
        have d3 : decide ((0 : Int) ≤ (r.at_ : Int)) = true := decide_eq_true (by omega)
        rw [if_pos (show (-1 : Int) < 0 by decide)] at r4
        obtain ⟨c0, c1, c2, f1, f2⟩ := r4.facts
        have hB4 := Lib.hid (i4.below hB3.out (Nat.le_refl _) (Nat.le_refl _))
        clear r4 i4
        go_wp2_with fail
        go_quiet (fail)
        go_wp2_with fail
        go_ret3
        rw [HR.out]
        exact ⟨_, rfl, OwnP.nil, bel_next hB4.out (Drawn.below ⟨nq, rfl⟩ _)⟩
    · rw [if_neg hok] at r3
      obtain ⟨c0, c1, c2, f1, f2⟩ := r3.facts
      have d1 : decide ((r.at_ : Int) < 0) = false := decide_eq_false (by omega)
      have d3 : decide ((0 : Int) ≤ (r.at_ : Int)) = true := decide_eq_true (by omega)
      have HR := Lib.hid (show pdR T = ([], (r.at_ : Int), 6) by rw [HP.out, if_neg (fun q => hok q.1)])
      clear r3 e3 hok HC HP
      go_wp2_with fail
      go_quiet (fail)
      go_wp2_with fail
      go_ret3
      rw [HR.out]
      exact ⟨_, rfl, OwnP.nil, bel_next hB3.out (Drawn.below ⟨nq, rfl⟩ _)⟩
  · have b1 : decide ((200 : Int) < (T.size : Int)) = true := decide_eq_true (by omega)
    have b1' : decide (200 < T.size) = true := decide_eq_true (by omega)
    have HR := Lib.hid (show pdR T = ([], 0, 3) from if_neg hT)
    clear hT
    go_enter Tryd.func17, Tryd.ntmps17
    go_wp2_with fail
    go_ret3
    rw [HR.out]
    exact ⟨_, rfl, OwnP.nil, Below.refl _ _⟩
end Go.Proofs.YtjlpmfimbgbcmaaDoor
