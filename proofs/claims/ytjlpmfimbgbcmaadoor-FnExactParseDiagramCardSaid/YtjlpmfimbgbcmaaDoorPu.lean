/-
  ParseDiagram of the reference.
-/
import Derived.Test.YtjlpmfimbgbcmaaDoorPt
namespace Go.Proofs.YtjlpmfimbgbcmaaDoor
open Go.RowKit

theorem RZ.start (w : World) (T : ByteArray) : RZ (w.alloc (.cells #[.string T, .int .i64 0, .bool false] 64)) w.heap.size T 0 false :=
  World.rowIs_alloc w #[.string T, .int .i64 0, .bool false] 64 _ (fun i hi => by
    have : i = 0 ∨ i = 1 ∨ i = 2 := by simp at hi; omega
    rcases this with rfl | rfl | rfl <;> rfl)
set_option maxHeartbeats 1600000 in
theorem s_ParseDiagram {w : World} {T : ByteArray} : Calls Tryd.prog 16 #[.string T] w (PDP (pdR T) w) := by
  by_cases hT : T.size ≤ 200
  · have b1 : decide ((200 : Int) < (T.size : Int)) = false := decide_eq_false (by omega)
    have b1' : decide (200 < T.size) = false := decide_eq_false (by omega)
    have B0 := bel_box w (.cells #[.string T, .int .i64 0, .bool false] 64)
    have R0 := RZ.start w T
    have hz : (w.alloc (.cells #[.string T, .int .i64 0, .bool false] 64)).heap.size = w.heap.size + 1 := by simp
    have HC := Lib.hid (rs_then (c_l35Atom (b := w.heap.size) (T := T) hT (T.size + 1)) (fun k hk => atomP_snd T (T.size + 1) k hk) hT _ 0 (by omega) (Nat.zero_le _) R0)
    have hsn := thnP_snd (fun k hk => atomP_snd T (T.size + 1) k hk) 0 (Nat.zero_le T.size)
    have HP := Lib.hid (show pdR T = (if (thnP T (atomP T (T.size + 1)) 0).ok = true ∧ (thnP T (atomP T (T.size + 1)) 0).at_ = T.size then (if (thnP T (atomP T (T.size + 1)) 0).L.length ≤ 40 then ((thnP T (atomP T (T.size + 1)) 0).L, 0, 0) else ([], 0, 3)) else ([], ((thnP T (atomP T (T.size + 1)) 0).at_ : Int), 6)) from if_pos hT)
    obtain ⟨r, hr⟩ : ∃ r, r = thnP T (atomP T (T.size + 1)) 0 := ⟨_, rfl⟩
    rw [← hr] at HP HC hsn
    have hB0 := Lib.hid B0
    have HZ := Lib.hid hz
    clear hr R0 B0
    go_enter Tryd.func16, Tryd.ntmps16
    go_wp2_with fail
    refine HC.out.mono ?_
    rintro e w3 ⟨v, L, rfl, ov, lL, eL, r3, i3⟩
    have hrs := hsn.2.1
    have hB3 := Lib.hid (i3.below hB0.out (Nat.le_refl _) (Nat.le_refl _))
    have ov2 := ov.mono (B' := w.heap.size) (by omega)
    clear ov i3
    by_cases hok : r.ok = true
    · have eL2 := eL hok
      subst eL2
      rw [hok] at r3
      have r4 : RZ w3 w.heap.size T r.at_ false := r3
      obtain ⟨ao, cc, rfl⟩ := ov2.shape
      have HO := Lib.hid ov2
      obtain ⟨c0, c1, c2, f1, f2⟩ := r4.facts
      by_cases ha : r.at_ = T.size
      · have d1 : decide ((r.at_ : Int) < (T.size : Int)) = false := decide_eq_false (by omega)
        have d1' : decide (r.at_ < T.size) = false := decide_eq_false (by omega)
        by_cases hl : r.L.length ≤ 40
        · have d2 : decide ((40 : Int) < (r.L.length : Int)) = false := decide_eq_false (by omega)
          have d2' : decide (40 < r.L.length) = false := decide_eq_false (by omega)
          have HR := Lib.hid (show pdR T = (r.L, 0, 0) by rw [HP.out, if_pos ⟨hok, ha⟩, if_pos hl])
          clear r3 r4 eL hok ha hl lL ov2 HC HP
          go_wp2_with fail
          go_ret3
          rw [HR.out]
          exact ⟨_, rfl, HO.out, hB3.out⟩
        · have d2 : decide ((40 : Int) < (r.L.length : Int)) = true := decide_eq_true (by omega)
          have d2' : decide (40 < r.L.length) = true := decide_eq_true (by omega)
          have HR := Lib.hid (show pdR T = ([], 0, 3) by rw [HP.out, if_pos ⟨hok, ha⟩, if_neg hl])
          clear r3 r4 eL hok ha hl lL ov2 HC HP
          go_wp2_with fail
          go_ret3
          rw [HR.out]
          exact ⟨_, rfl, OwnP.nil, hB3.out⟩
      · have d1 : decide ((r.at_ : Int) < (T.size : Int)) = true := decide_eq_true (by omega)
        have d1' : decide (r.at_ < T.size) = true := decide_eq_true (by omega)
        have HR := Lib.hid (show pdR T = ([], (r.at_ : Int), 6) by rw [HP.out, if_neg (fun q => ha q.2)])
        clear r3 r4 eL hok ha lL ov2 HC HP
        go_wp2_with fail
        go_quiet (fail)
        go_wp2_with fail
        go_ret3
        rw [HR.out]
        exact ⟨_, rfl, OwnP.nil, bel_next hB3.out (Drawn.below ⟨nq, rfl⟩ _)⟩
    · have HR := Lib.hid (show pdR T = ([], (r.at_ : Int), 6) by rw [HP.out, if_neg (fun q => hok q.1)])
      rw [Bool.not_eq_true] at hok
      rw [hok] at r3
      have r4 : RZ w3 w.heap.size T r.at_ true := r3
      obtain ⟨ao, cc, rfl⟩ := ov2.shape
      obtain ⟨c0, c1, c2, f1, f2⟩ := r4.facts
      clear r3 r4 eL hok lL ov2 HC HP
      go_wp2_with fail
      go_quiet (fail)
      go_wp2_with fail
      go_ret3
      rw [HR.out]
      exact ⟨_, rfl, OwnP.nil, bel_next hB3.out (Drawn.below ⟨nq, rfl⟩ _)⟩
  · have b1 : decide ((200 : Int) < (T.size : Int)) = true := decide_eq_true (by omega)
    have b1' : decide (200 < T.size) = true := decide_eq_true (by omega)
    have HR := Lib.hid (show pdR T = ([], 0, 3) from if_neg hT)
    clear hT
    go_enter Tryd.func16, Tryd.ntmps16
    go_wp2_with fail
    go_ret3
    rw [HR.out]
    exact ⟨_, rfl, OwnP.nil, Below.refl _ _⟩
end Go.Proofs.YtjlpmfimbgbcmaaDoor
