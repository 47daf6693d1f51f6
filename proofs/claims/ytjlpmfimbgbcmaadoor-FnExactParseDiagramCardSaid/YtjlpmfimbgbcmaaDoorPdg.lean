/-
  The value of a text of digits: the program's digits (a range over a string).
-/
import Derived.Test.YtjlpmfimbgbcmaaDoorPdl
namespace Go.Proofs.YtjlpmfimbgbcmaaDoor
open Go.RowKit

def dgB (s : ByteArray) : Bool := decide (s.size ≤ 6) && !(decide (1 < s.size) && decide (bA s 0 = 48))
/-- The memory holds the program's error. -/
def ErrIn (w : World) (E : Value) : Prop := w.cell? ⟨6, 0, none⟩ = some E ∧ 6 < w.heap.size ∧ ∃ t a, E = .iface t (.pointer (some a))
def DGP (s : ByteArray) (E : Value) (w : World) : Ending → World → Prop := fun e w' => e = .returned (.tuple #[.int .i64 (if dgB s = true then (dV s 0 s.size : Int) else 0), if dgB s = true then .nilIface else E]) ∧ Below w.heap.size w w'
theorem dV_lt {s : ByteArray} (hd : ∀ i, i < s.size → 48 ≤ bA s i ∧ bA s i ≤ 57) : ∀ n, n ≤ 6 → n ≤ s.size → dV s 0 n < 10 ^ n
  | 0, _, _ => Nat.one_pos
  | n + 1, h6, hn => by
    have ih := dV_lt hd n (by omega) (by omega)
    have := hd n (by omega)
    rw [dV, Nat.zero_add, Nat.pow_succ]
    omega
set_option maxRecDepth 1000000 in
set_option maxHeartbeats 1600000 in
theorem c_digits {w : World} {s : ByteArray} {E : Value} (hE : ErrIn w E) (hs : 0 < s.size) (hs2 : s.size ≤ 200) (hd : ∀ i, i < s.size → 48 ≤ bA s i ∧ bA s i ≤ 57) :
    Calls Tryd.prog 115 #[.string s] w (DGP s E w) := by
  obtain ⟨hE0, hE1, te, ae, rfl⟩ := hE
  have HD := Lib.hid hd
  clear hd
  have hse : s.toList.isEmpty = false := by
    rw [← decide_eq_emptyBytes]
    refine decide_eq_false (fun e => ?_)
    rw [e] at hs
    exact absurd hs (by decide)
  go_enter Tryd.func115, Tryd.ntmps115
  go_wp2_with fail
  go_loopw [4] (fun v w' => ∃ pos : Nat, w' = w.iter s pos ∧ v = .int .i64 (dV s 0 pos : Int) ∧ pos ≤ s.size ∧ pos ≤ 6 ∧ Hid (0 < pos → ¬ (1 < s.size ∧ bA s 0 = 48))) (fun _ w' => s.size - w'.iterPos w.heap.size)
  case atStart => exact ⟨0, rfl, rfl, by omega, by omega, fun h => absurd h (by decide)⟩
  case round =>
    obtain ⟨pos, rfl, rfl, hle, h6, HZ⟩ := hrel
    by_cases hp : pos < s.size
    · have hda := HD.out pos hp
      have hb : bA s pos = (s[pos]'hp).toNat := by unfold bA; rw [dif_pos hp]
      have hnx : ∀ ty, (Instr.next (.pointer (some ⟨w.heap.size, 0, none⟩)) true ty).run Tryd.prog (w.iter s pos) = _ := fun ty => run_next_ascii w s pos ty hp (by omega)
      rw [← hb] at hnx
      obtain ⟨x, hx⟩ : ∃ x, x = bA s pos := ⟨_, rfl⟩
      rw [← hx] at hnx hda
      have HX := Lib.hid hx
      clear hb hx
      have b1 : decide ((x : Int) < 48) = false := by simp; omega
      have b2 : decide ((57 : Int) < (x : Int)) = false := by simp; omega
      have B1 : Below w.heap.size w (w.iter s (pos + 1)) := bel_alloc (Below.refl _ _) _
      have hE2 : (w.iter s (pos + 1)).cell? ⟨6, 0, none⟩ = some (.iface te (.pointer (some ae))) := by rw [B1.cell (p := ⟨6, 0, none⟩) hE1]; exact hE0
      by_cases hbad : 5 < pos
      · have b3 : decide ((5 : Int) < (pos : Int)) = true := by simp; omega
        have HBAD := Lib.hid (show dgB s = false by unfold dgB; rw [decide_eq_false (by omega), Bool.false_and])
        go_wp2_with fail
        go_quiet (fail)
        go_wp2_with fail
        go_ret2
        refine ⟨by rw [HBAD.out]; rfl, ?_⟩
        first | exact B1 | exact bel_next B1 (Drawn.below ⟨_, rfl⟩ _)
      · have b3 : decide ((5 : Int) < (pos : Int)) = false := by simp; omega
        have hv := dV_lt HD.out pos (by omega) hle
        have hv2 : 10 ^ pos ≤ 10 ^ 5 := Nat.pow_le_pow_right (by decide) (by omega)
        have hw : wrap64 (wrap64 (10 * (dV s 0 pos : Int)) + ((x : Int) - 48)) = ((dV s 0 (pos + 1) : Nat) : Int) := by
          rw [dV, Nat.zero_add, ← HX.out]
          unfold wrap64
          omega
        have hm : s.size - (w.iter s (pos + 1)).iterPos w.heap.size < s.size - (w.iter s pos).iterPos w.heap.size := by
          simp
          omega
        clear hv hv2
        by_cases h0 : pos = 0
        · have b4 : ((pos : Int) == 0) = true := by simp; omega
          by_cases hx8 : x = 48
          · have b5 : ((x : Int) == 48) = true := by simp; omega
            by_cases hsz : 1 < s.size
            · have b6 : decide ((1 : Int) < (s.size : Int)) = true := by simp; omega
              have HBAD := Lib.hid (show dgB s = false by
                have : bA s 0 = 48 := by rw [← h0, ← HX.out]; exact hx8
                unfold dgB
                rw [decide_eq_true hsz, decide_eq_true this]
                simp)
              clear hx8 hsz h0
              go_wp2_with fail
              go_quiet (fail)
              go_wp2_with fail
              go_ret2
              refine ⟨by rw [HBAD.out]; rfl, ?_⟩
              first | exact B1 | exact bel_next B1 (Drawn.below ⟨_, rfl⟩ _)
            · have b6 : decide ((1 : Int) < (s.size : Int)) = false := by simp; omega
              have HZ1 := Lib.hid (show 0 < pos + 1 → ¬ (1 < s.size ∧ bA s 0 = 48) from fun _ q => hsz q.1)
              have HW := Lib.hid hw
              have HM := Lib.hid hm
              clear hx8 hsz h0 hw hm
              go_wp2_with fail
              go_roundw
              case rel => exact ⟨pos + 1, rfl, by rw [HW.out], by omega, by omega, HZ1⟩
              case measure => exact HM.out
          · have b5 : ((x : Int) == 48) = false := by simp; omega
            have HZ1 := Lib.hid (show 0 < pos + 1 → ¬ (1 < s.size ∧ bA s 0 = 48) from fun _ q => hx8 (by rw [HX.out, h0]; exact q.2))
            have HW := Lib.hid hw
            have HM := Lib.hid hm
            clear hx8 h0 hw hm
            go_wp2_with fail
            go_roundw
            case rel => exact ⟨pos + 1, rfl, by rw [HW.out], by omega, by omega, HZ1⟩
            case measure => exact HM.out
        · have b4 : ((pos : Int) == 0) = false := by simp; omega
          have HZ1 := Lib.hid (show 0 < pos + 1 → ¬ (1 < s.size ∧ bA s 0 = 48) from fun _ => HZ.out (by omega))
          have HW := Lib.hid hw
          have HM := Lib.hid hm
          clear h0 hw hm
          go_wp2_with fail
          go_roundw
          case rel => exact ⟨pos + 1, rfl, by rw [HW.out], by omega, by omega, HZ1⟩
          case measure => exact HM.out
    · have hnx : ∀ ty, (Instr.next (.pointer (some ⟨w.heap.size, 0, none⟩)) true ty).run Tryd.prog (w.iter s pos) = _ := fun ty => run_next_end w s pos ty hp
      have HOK := Lib.hid (show dgB s = true ∧ pos = s.size by
        refine ⟨?_, by omega⟩
        have hz := HZ.out (by omega)
        unfold dgB
        rw [decide_eq_true (by omega), Bool.true_and]
        by_cases q : 1 < s.size
        · rw [decide_eq_false (fun e => hz ⟨q, e⟩)]
          simp
        · rw [decide_eq_false q]
          simp)
      have B1 : Below w.heap.size w (w.iter s pos) := bel_alloc (Below.refl _ _) _
      go_wp2_with fail
      go_ret2
      exact ⟨by rw [if_pos HOK.out.1, if_pos HOK.out.1, ← HOK.out.2]; rfl, B1⟩
end Go.Proofs.YtjlpmfimbgbcmaaDoor
