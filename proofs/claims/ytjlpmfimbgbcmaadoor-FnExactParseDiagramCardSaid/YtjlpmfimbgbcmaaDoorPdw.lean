/-
  The readers of diagrams: one byte, failing. Program and reference.
-/
import Derived.Test.YtjlpmfimbgbcmaaDoorPd
import Derived.Test.YtjlpmfimbgbcmaaDoorSep
namespace Go.Proofs.YtjlpmfimbgbcmaaDoor
open Go.RowKit

/-- The program's reader in block b. -/
def RI (w : World) (b : Nat) (T : ByteArray) (k : Nat) (bad : Int) : Prop := w.rowIs b 68 3 (fun i => if i = 0 then .string T else if i = 1 then .int .i64 (k : Int) else .int .i64 bad)
theorem RI.facts {w : World} {b : Nat} {T : ByteArray} {k : Nat} {bad : Int} (h : RI w b T k bad) : w.cell? ⟨b, 0, none⟩ = some (.string T) ∧ w.cell? ⟨b, 1, none⟩ = some (.int .i64 (k : Int)) ∧ w.cell? ⟨b, 2, none⟩ = some (.int .i64 bad) ∧ w.frozen? ⟨b, 1, none⟩ = false ∧ w.frozen? ⟨b, 2, none⟩ = false :=
  ⟨World.rowIs.cell h (show 0 < 3 by omega), World.rowIs.cell h (show 1 < 3 by omega), World.rowIs.cell h (show 2 < 3 by omega), World.rowIs.frozen h _, World.rowIs.frozen h _⟩
theorem RI.drawn {w : World} {b : Nat} {T : ByteArray} {k : Nat} {bad : Int} (h : RI w b T k bad) (n : Nat) : RI (w.drewN n) b T k bad := World.rowIs.of_block h rfl
theorem bA_lt {T : ByteArray} {k : Nat} (h : k < T.size) : (T[k].toNat : Int) = (bA T k : Int) := by unfold bA; rw [dif_pos h]
theorem RI.below {w w' : World} {b : Nat} {T : ByteArray} {k : Nat} {bad : Int} (h : RI w b T k bad) (hb : Below w.heap.size w w') : RI w' b T k bad := World.rowIs.of_block h (hb.block _ (World.rowIs.lt h))
theorem RI.setAt {w : World} {b : Nat} {T : ByteArray} {k : Nat} {bad : Int} (h : RI w b T k bad) (j : Nat) : RI (w.setCell ⟨b, 1, none⟩ (.int .i64 (j : Int))) b T j bad :=
  (World.rowIs.set h 1 _).congr fun i _ => by by_cases e : i = 1 <;> simp [e]
theorem RI.setBad {w : World} {b : Nat} {T : ByteArray} {k : Nat} {bad : Int} (h : RI w b T k bad) (j : Int) : RI (w.setCell ⟨b, 2, none⟩ (.int .i64 j)) b T k j :=
  (World.rowIs.set h 2 _).congr fun i hi => by
    by_cases e : i = 2
    · simp [e]
    · have : i = 0 ∨ i = 1 := by omega
      rcases this with rfl | rfl <;> simp
theorem in_set (w : World) (b i : Nat) (v : Value) : Within b (b + 1) w (w.setCell ⟨b, i, none⟩ v) := (Within.refl b (b + 1) w).setCell (p := ⟨b, i, none⟩) (Nat.le_refl _) (Nat.lt_succ_self _) v
theorem Drawn.in_ {w w' : World} (h : Drawn w w') (b : Nat) : Within b (b + 1) w w' := (h.within b).mono (Nat.le_refl _) (Nat.le_succ _)
def nxB (T : ByteArray) (k : Nat) (bad : Int) (c : Nat) : Bool := decide (bad < 0 ∧ k < T.size ∧ bA T k = c)
/-- What next answers. -/
def NXP (b : Nat) (T : ByteArray) (k : Nat) (bad : Int) (c : Nat) (w : World) : Ending → World → Prop := fun e w' => e = .returned (.bool (nxB T k bad c)) ∧ RI w' b T (if nxB T k bad c = true then k + 1 else k) bad ∧ Within b (b + 1) w w'
theorem nx_no {b : Nat} {T : ByteArray} {k : Nat} {bad : Int} {c : Nat} {w w' : World} (h : RI w b T k bad) (hn : ¬ (bad < 0 ∧ k < T.size ∧ bA T k = c)) (hd : Drawn w w') : NXP b T k bad c w (.returned (.bool false)) w' := by
  have e : nxB T k bad c = false := decide_eq_false hn
  unfold NXP
  rw [e]
  exact ⟨rfl, h.below (hd.below _), hd.in_ b⟩
theorem nx_yes {b : Nat} {T : ByteArray} {k : Nat} {bad : Int} {c : Nat} {w w' : World} (h : RI w b T k bad) (hn : bad < 0 ∧ k < T.size ∧ bA T k = c) (hd : Drawn w w') : NXP b T k bad c w (.returned (.bool true)) (w'.setCell ⟨b, 1, none⟩ (.int .i64 ((k : Int) + 1))) := by
  have e : nxB T k bad c = true := decide_eq_true hn
  unfold NXP
  rw [e]
  refine ⟨rfl, ?_, (hd.in_ b).trans (in_set _ _ _ _)⟩
  have := (h.below (hd.below _)).setAt (k + 1)
  rwa [show (((k + 1 : Nat) : Int)) = (k : Int) + 1 by omega] at this
set_option maxHeartbeats 1600000 in
theorem c_next {w : World} {b : Nat} {T : ByteArray} {k : Nat} {bad : Int} (h : RI w b T k bad) (hk : k ≤ T.size) (hT : T.size ≤ 200) (c : Nat) :
    Calls Tryd.prog 65 #[.pointer (some ⟨b, 0, none⟩), .int .u8 (c : Int)] w (NXP b T k bad c w) := by
  obtain ⟨c0, c1, c2, f1, f2⟩ := h.facts
  have HR := Lib.hid h
  clear h
  by_cases h1 : bad < 0
  · have b1 : decide (0 ≤ bad) = false := by simp; omega
    by_cases h2 : k < T.size
    · have b2 : ((k : Int) == (T.size : Int)) = false := by simp; omega
      have b2' : (k == T.size) = false := by simp; omega
      have kp : (0 : Int) ≤ (k : Int) := by omega
      have kq : (k : Int) < (T.size : Int) := by omega
      by_cases h3 : bA T k = c
      · have b3 : ((T[k].toNat : Int) != (c : Int)) = false := by rw [bA_lt h2]; simp [h3]
        have b3' : (T[k].toNat != c) = false := by unfold bA at h3; rw [dif_pos h2] at h3; simp [h3]
        have HN := Lib.hid (⟨h1, h2, h3⟩ : bad < 0 ∧ k < T.size ∧ bA T k = c)
        clear h3
        go_enter Tryd.func65, Tryd.ntmps65
        go_wp2_with fail
        go_quiet (fail)
        go_wp2_with fail
        go_ret
        exact nx_yes HR.out HN.out ⟨_, rfl⟩
      · have b3 : ((T[k].toNat : Int) != (c : Int)) = true := by rw [bA_lt h2]; simp; omega
        have b3' : (T[k].toNat != c) = true := by unfold bA at h3; rw [dif_pos h2] at h3; simp [h3]
        have HN := Lib.hid (fun q => h3 q.2.2 : ¬ (bad < 0 ∧ k < T.size ∧ bA T k = c))
        clear h3
        go_enter Tryd.func65, Tryd.ntmps65
        go_wp2_with fail
        go_quiet (fail)
        go_wp2_with fail
        go_ret
        exact nx_no HR.out HN.out ⟨_, rfl⟩
    · have b2 : ((k : Int) == (T.size : Int)) = true := by simp; omega
      have b2' : (k == T.size) = true := by simp; omega
      have HN := Lib.hid (fun q => h2 q.2.1 : ¬ (bad < 0 ∧ k < T.size ∧ bA T k = c))
      go_enter Tryd.func65, Tryd.ntmps65
      go_wp2_with fail
      go_quiet (fail)
      go_wp2_with fail
      go_ret
      exact nx_no HR.out HN.out ⟨_, rfl⟩
  · have b1 : decide (0 ≤ bad) = true := by simp; omega
    have HN := Lib.hid (fun q => h1 q.1 : ¬ (bad < 0 ∧ k < T.size ∧ bA T k = c))
    go_enter Tryd.func65, Tryd.ntmps65
    go_wp2_with fail
    go_quiet (fail)
    go_wp2_with fail
    go_ret
    exact nx_no HR.out HN.out ⟨_, rfl⟩
def FLP (b : Nat) (T : ByteArray) (k : Nat) (bad : Int) (j : Nat) (w : World) : Ending → World → Prop := fun e w' => e = .returned (.slice none 0 0) ∧ RI w' b T k (if bad < 0 then (j : Int) else bad) ∧ Within b (b + 1) w w'
theorem c_fail {w : World} {b : Nat} {T : ByteArray} {k : Nat} {bad : Int} (h : RI w b T k bad) (j : Nat) :
    Calls Tryd.prog 40 #[.pointer (some ⟨b, 0, none⟩), .int .i64 (j : Int)] w (FLP b T k bad j w) := by
  obtain ⟨c0, c1, c2, f1, f2⟩ := h.facts
  have HR := Lib.hid h
  clear h
  by_cases h1 : bad < 0
  · have b1 : decide (bad < 0) = true := by simp; omega
    go_enter Tryd.func40, Tryd.ntmps40
    go_wp2_with fail
    go_ret
    have := HR.out.setBad (j : Int)
    refine ⟨rfl, by rw [if_pos h1]; exact this, in_set _ _ _ _⟩
  · have b1 : decide (bad < 0) = false := by simp; omega
    go_enter Tryd.func40, Tryd.ntmps40
    go_wp2_with fail
    go_ret
    refine ⟨rfl, by rw [if_neg (by omega)]; exact HR.out, Within.refl _ _ _⟩
end Go.Proofs.YtjlpmfimbgbcmaaDoor
