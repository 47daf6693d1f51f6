/-
  The law's helper markNodeS on a slice of nodes of the call's own.
-/
import Derived.Test.YtkgbloldbhhgpaaNodeLaw2
namespace Go.Proofs.Ytkgbloldbhhgpaa
open Go.ChangeShapes Go.WideShapes Go.ChangeAt Go.RowKit Go.Deep

theorem OwnT.apart {E : TypeId} {B T g t : Nat} {w w' : World} {u : Value} {xs : List Int} (h : OwnT E B T w u xs) (hw : Within g t w w') (hk : ∀ k, u.ownBlock = some k → k < g ∨ t ≤ k) : OwnT E B T w' u xs :=
  ⟨⟨ownsRow_within h.own.row hw hk, h.own.wf, h.own.len⟩, h.top⟩
/-- A slice that was marked, of which nothing is said. -/
structure Marked (B T : Nat) (w : World) : Prop where
  top : T ≤ w.heap.size
theorem Marked.kept {B T B' T' : Nat} {w w' : World} (h : Marked B T w) (hb : Within B' T' w w') (_ : T ≤ B' ∨ T' ≤ B) : Marked B T w' := ⟨Nat.le_trans h.top hb.size⟩
set_option maxHeartbeats 1600000 in
theorem c_markNodeS {B T : Nat} {w : World} {v : Value} {d : List Nd} (h : ONS B T w v d) (k : Int) (hk : 0 ≤ k) (hk' : k + (pN d d.length : Int) ≤ 4611686018427387904) :
    Calls Try.prog 16 #[v, .int .i64 k] w (fun e w' => e = .returned (.int .i64 (k + (pN d d.length : Int))) ∧ Marked B T w' ∧ Within B T w w') := by
  obtain ⟨b, c, A, rfl, hB, hT, htop, hr, hA, hD⟩ := h.ex
  have hlen := h.len
  have HD := Lib.hid hD
  have HA0 := Lib.hid hA
  have HR0 := Lib.hid hr
  have HM := Lib.hid (fun i (hi : i ≤ d.length) => pN_mono d hi)
  clear h hD hA hr
  go_enter Try.func16, Try.ntmps16
  go_wp2_with fail
  go_loopw [1, 5] (fun kv iv wr => ∃ (i : Nat) (f : Nat → Value), i ≤ d.length ∧ iv = .int .i64 i ∧ kv = .int .i64 (k + (pN d i : Int)) ∧ Within B T w wr ∧ wr.rowIs b 43 (d.length * 3) f ∧ Hid ((∀ j, j < d.length → f (j * 3 + 2) = A j) ∧ ∀ j, i ≤ j → j < d.length → OwnT 2 (b + 1) T wr (A j) (gn d j).ag)) (fun _ iv _ => d.length - (intOf iv).toNat)
  case atStart => exact ⟨0, _, Nat.zero_le _, rfl, by simp [pN], Within.refl _ _ _, HR0.out, fun j hj => by
      rw [rowN, if_pos (by omega), if_neg (by omega), if_neg (by omega), show (j * 3 + 2) / 3 = j from by omega], fun j _ hj => HA0.out j hj⟩
  case round =>
    obtain ⟨i, f, hi, rfl, rfl, hw, hr, hp⟩ := hrel
    have hpi := HM.out i hi
    by_cases hlt : i < d.length
    · have hst := hr.cell (show i * 3 < d.length * 3 by omega)
      have hst1 := hr.cell (show i * 3 + 1 < d.length * 3 by omega)
      have hst2 := hr.cell (show i * 3 + 2 < d.length * 3 by omega)
      rw [hp.out.1 i hlt] at hst2
      have hfz := hr.frozen (i * 3)
      have hfz1 := hr.frozen (i * 3 + 1)
      have hp1 := HM.out (i + 1) (by omega)
      have hpe : pN d (i + 1) = pN d i + 2 + (gn d i).ag.length := rfl
      have r2 := (hr.set (i * 3) (.int .i64 (k + (pN d i : Int)))).set (i * 3 + 1) (.int .i64 (k + (pN d i : Int) + 1))
      have m2 : Within b (b + 1) wr ((wr.setCell ⟨b, i * 3, none⟩ (.int .i64 (k + (pN d i : Int)))).setCell ⟨b, i * 3 + 1, none⟩ (.int .i64 (k + (pN d i : Int) + 1))) :=
        ((Within.refl _ _ _).setCell (p := ⟨b, i * 3, none⟩) (Nat.le_refl _) (Nat.lt_succ_self _) _).setCell (p := ⟨b, i * 3 + 1, none⟩) (Nat.le_refl _) (Nat.lt_succ_self _) _
      have HA2 : Hid (∀ j, i ≤ j → j < d.length → OwnT 2 (b + 1) T ((wr.setCell ⟨b, i * 3, none⟩ (.int .i64 (k + (pN d i : Int)))).setCell ⟨b, i * 3 + 1, none⟩ (.int .i64 (k + (pN d i : Int) + 1))) (A j) (gn d j).ag) :=
        fun j h1 h2 => (hp.out.2 j h1 h2).kept m2 (.inr (Nat.le_refl _))
      have hw2 := hw.trans (m2.mono hB (by omega))
      have HW2 := Lib.hid hw2
      have HR2 := Lib.hid r2
      have HF := Lib.hid hp.out.1
      rw [hpe] at hp1
      have HPE := Lib.hid hpe
      clear m2 hw2 r2 hr hw hp hpe
      go_wp2_with fail
      obtain ⟨g, t, ot, hgt⟩ := (HA2.out i (Nat.le_refl _) hlt).tight
      have hlx := ot.own.len
      have HGB : Hid ((b + 1 ≤ g ∧ g < T ∧ t = g + 1) ∨ (g = 0 ∧ t = 0)) := by
        rcases hgt with ⟨h1, h2⟩ | ⟨-, h2, h3⟩
        · have := (HA2.out i (Nat.le_refl _) hlt).own.lt g h1
          have := (HA2.out i (Nat.le_refl _) hlt).top g h1
          exact .inl ⟨by omega, by omega, h2⟩
        · exact .inr ⟨h2, h3⟩
      have HKEY : Hid (∀ u : Value, Dj (A i) u → ∀ k, u.ownBlock = some k → k < g ∨ t ≤ k) := fun u hd k hk => by
        rcases hgt with ⟨h1, h2⟩ | ⟨-, h2, h3⟩
        · rcases hd with hd | hd
          · rw [h1] at hd; cases hd
          · rw [h1, hk] at hd
            have : k ≠ g := fun e => hd (by rw [e])
            omega
        · omega
      refine (c_markInt64S ot _ (by omega) (by omega)).mono ?_
      rintro e w5 ⟨rfl, p5, m5⟩
      have HR5 := Lib.hid (HR2.out.of_block (m5.block b (by have := HGB.out; omega) HR2.out.lt))
      have HA5 : Hid (∀ j, i + 1 ≤ j → j < d.length → OwnT 2 (b + 1) T w5 (A j) (gn d j).ag) := fun j h1 h2 =>
        (HA2.out j (by omega) h2).apart m5 (HKEY.out (A j) (HD.out i j hlt h2 (by omega)))
      have HW5 : Hid (Within B T w w5) := by
        rcases HGB.out with ⟨h1, h2, h3⟩ | ⟨h1, h2⟩
        · exact HW2.out.trans (m5.mono (by omega) (by omega))
        · subst h1 h2; exact HW2.out.trans (m5.zero B T)
      clear p5 m5 hgt ot hst hst1 hst2 hfz hfz1
      go_wp2_with fail
      go_roundw
      case rel => exact ⟨i + 1, _, by omega, by go_num, by rw [HPE.out]; congr 1; omega, HW5.out, HR5.out, fun j hj => by
          rw [if_neg (by omega), if_neg (by omega)]; exact HF.out j hj, HA5.out⟩
      case measure => simp [intOf]; omega
    · have hie : i = d.length := by omega
      have HE : Hid ((pN d i : Int) = (pN d d.length : Int)) := by unfold Hid; rw [hie]
      have hlb : decide ((i : Int) < (d.length : Int)) = false := by simp; omega
      clear hie
      go_wp2_with fail
      go_ret
      exact ⟨by rw [← HE.out]; rfl, ⟨Nat.le_trans htop hw.size⟩, hw⟩
end Go.Proofs.Ytkgbloldbhhgpaa
