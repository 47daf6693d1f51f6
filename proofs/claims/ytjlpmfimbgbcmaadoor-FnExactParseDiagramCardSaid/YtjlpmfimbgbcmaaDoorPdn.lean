/-
  A number in the text of a diagram: the program's.
-/
import Derived.Test.YtjlpmfimbgbcmaaDoorPdg
import Derived.Deep.RegionHeld3
namespace Go.Proofs.YtjlpmfimbgbcmaaDoor
open Go.RowKit

/-- What a reader of the program answers. -/
def RP (b : Nat) (T : ByteArray) (r : PR) (w : World) : Ending → World → Prop := fun e w' => ∃ v at_, e = .returned v ∧ OwnP 73 w' w.heap.size v r.L ∧ RI w' b T at_ (if r.ok = true then -1 else (r.at_ : Int)) ∧ (r.ok = true → at_ = r.at_) ∧ at_ ≤ T.size ∧ Within b (b + 1) w w'
theorem isD_iff {T : ByteArray} {k : Nat} : isD T k = true ↔ k < T.size ∧ 48 ≤ bA T k ∧ bA T k ≤ 57 := by
  unfold isD
  rw [Bool.and_eq_true, Bool.and_eq_true, decide_eq_true_iff, decide_eq_true_iff, decide_eq_true_iff]
theorem dEnd_eq {T : ByteArray} {j : Nat} (hj : ¬ isD T j = true) : ∀ n k, k ≤ j → j - k ≤ n → (∀ i, k ≤ i → i < j → isD T i = true) → dEnd T n k = j
  | 0, k, h1, h2, _ => by rw [dEnd]; omega
  | n + 1, k, h1, h2, h => by
    by_cases e : k = j
    · subst e
      rw [dEnd, if_neg hj]
    · rw [dEnd, if_pos (h k (Nat.le_refl _) (by omega))]
      exact dEnd_eq hj n (k + 1) (by omega) (by omega) (fun i hi hi2 => h i (by omega) hi2)
theorem dE_eq {T : ByteArray} {j k : Nat} (hj : ¬ isD T j = true) (h1 : k ≤ j) (h2 : j ≤ T.size) (h : ∀ i, k ≤ i → i < j → isD T i = true) : dE T k = j := dEnd_eq hj T.size k h1 (by omega) h
theorem bA_ext {T : ByteArray} {k j i : Nat} (hj : j ≤ T.size) (hi : i < (T.extract k j).size) : bA (T.extract k j) i = bA T (k + i) := by
  have hi2 := hi
  rw [ByteArray.size_extract] at hi2
  unfold bA
  rw [dif_pos hi, dif_pos (by omega)]
  rw [ByteArray.getElem_extract]
theorem dV_ext {T : ByteArray} {k j : Nat} (hj : j ≤ T.size) : ∀ n, n ≤ (T.extract k j).size → dV (T.extract k j) 0 n = dV T k n
  | 0, _ => rfl
  | n + 1, h => by rw [dV, dV, dV_ext hj n (by omega), Nat.zero_add, bA_ext hj (by omega)]
/-- Where the reader stands. -/
def atN (w : World) (b : Nat) : Nat := match w.cell? ⟨b, 1, none⟩ with | some (.int _ x) => x.toNat | _ => 0
theorem RI.atN {w : World} {b : Nat} {T : ByteArray} {k : Nat} {bad : Int} (h : RI w b T k bad) : atN w b = k := by unfold Go.Proofs.YtjlpmfimbgbcmaaDoor.atN; rw [h.facts.2.1]; simp
theorem dV_ge {T : ByteArray} {k : Nat} (h : 49 ≤ bA T k) : ∀ n, 100 ≤ dV T k (n + 3)
  | 0 => by
    simp only [dV, Nat.add_zero]
    omega
  | n + 1 => by
    have := dV_ge h n
    show 100 ≤ 10 * dV T k (n + 3) + _
    omega
theorem numB_eq {T : ByteArray} {k j lim : Nat} (hde : dE T k = j) (hkj : k < j) (hj : j ≤ T.size) (hd : ∀ i, k ≤ i → i < j → isD T i = true) (hl : lim ≤ 100) :
    numB T k lim = (dgB (T.extract k j) && decide (dV T k (j - k) < lim)) := by
  have hz : (T.extract k j).size = j - k := by rw [ByteArray.size_extract]; omega
  have hb0 : bA (T.extract k j) 0 = bA T k := bA_ext hj (by omega)
  have hk := isD_iff.1 (hd k (Nat.le_refl _) hkj)
  unfold numB dgB
  rw [hde, hz, hb0, decide_eq_true hkj, Bool.true_and]
  by_cases h1 : 1 < j - k ∧ bA T k = 48
  · rw [decide_eq_true h1.1, decide_eq_true h1.2]
    simp
  · have e : (decide (1 < j - k) && decide (bA T k = 48)) = false := by
      rw [← Bool.decide_and]
      exact decide_eq_false h1
    rw [e, Bool.not_false, Bool.true_and, Bool.and_true]
    by_cases h2 : j ≤ k + 2
    · rw [decide_eq_true h2, decide_eq_true (show j - k ≤ 6 by omega)]
    · rw [decide_eq_false h2, Bool.false_and]
      have h3 : 100 ≤ dV T k (j - k) := by
        have := dV_ge (T := T) (k := k) (by omega) (j - k - 3)
        rwa [show j - k - 3 + 3 = j - k by omega] at this
      rw [decide_eq_false (show ¬ dV T k (j - k) < lim by omega), Bool.and_false]
theorem bel_in {w w' : World} (h : Below w.heap.size w w') (b : Nat) : Within b (b + 1) w w' := (below_within h b).mono (Nat.le_refl _) (Nat.le_succ _)
theorem ErrIn.below {w w' : World} {E : Value} (h : ErrIn w E) (hb : Below w.heap.size w w') : ErrIn w' E := ⟨by rw [hb.cell (p := ⟨6, 0, none⟩) h.2.1]; exact h.1, Nat.lt_of_lt_of_le h.2.1 hb.size, h.2.2⟩
theorem ErrIn.in_ {w w' : World} {E : Value} {b : Nat} (h : ErrIn w E) (hb : Within b (b + 1) w w') (hb6 : b ≠ 6) : ErrIn w' E := by
  refine ⟨?_, Nat.lt_of_lt_of_le h.2.1 hb.size, h.2.2⟩
  have := hb.block 6 (by omega) h.2.1
  have h1 := h.1
  unfold World.cell? at h1 ⊢
  simp only at h1 ⊢
  rw [this]
  exact h1
theorem ext_dig {T : ByteArray} {k j : Nat} (hj : j ≤ T.size) (hd : ∀ i, k ≤ i → i < j → isD T i = true) : ∀ i, i < (T.extract k j).size → 48 ≤ bA (T.extract k j) i ∧ bA (T.extract k j) i ≤ 57 := fun i hi => by
  have hz : (T.extract k j).size = j - k := by rw [ByteArray.size_extract]; omega
  rw [bA_ext hj hi]
  exact (isD_iff.1 (hd (k + i) (by omega) (by omega))).2
theorem c_dg_ok {W : World} {T : ByteArray} {k j : Nat} {E : Value} (hE : ErrIn W E) (hkj : k < j) (hj : j ≤ T.size) (hT : T.size ≤ 200) (hd : ∀ i, k ≤ i → i < j → isD T i = true) (hg : dgB (T.extract k j) = true) :
    Calls Tryd.prog 115 #[.string (T.extract k j)] W (fun e w' => e = .returned (.tuple #[.int .i64 (dV T k (j - k) : Int), .nilIface]) ∧ Below W.heap.size W w') := by
  have hz : (T.extract k j).size = j - k := by rw [ByteArray.size_extract]; omega
  refine (c_digits hE (by omega) (by omega) (ext_dig hj hd)).mono ?_
  rintro e w' ⟨rfl, hb⟩
  rw [if_pos hg, if_pos hg, dV_ext hj _ (Nat.le_refl _), hz]
  exact ⟨rfl, hb⟩
theorem c_dg_no {W : World} {T : ByteArray} {k j : Nat} {E : Value} (hE : ErrIn W E) (hkj : k < j) (hj : j ≤ T.size) (hT : T.size ≤ 200) (hd : ∀ i, k ≤ i → i < j → isD T i = true) (hg : ¬ dgB (T.extract k j) = true) :
    Calls Tryd.prog 115 #[.string (T.extract k j)] W (fun e w' => e = .returned (.tuple #[.int .i64 0, E]) ∧ Below W.heap.size W w') := by
  have hz : (T.extract k j).size = j - k := by rw [ByteArray.size_extract]; omega
  refine (c_digits hE (by omega) (by omega) (ext_dig hj hd)).mono ?_
  rintro e w' ⟨rfl, hb⟩
  rw [if_neg hg, if_neg hg]
  exact ⟨rfl, hb⟩
theorem numB_no {T : ByteArray} {k lim : Nat} (hde : dE T k = k) : numB T k lim = false := by
  unfold numB
  rw [hde, decide_eq_false (Nat.lt_irrefl k), Bool.false_and]
theorem rp_fail {w w1 : World} {b : Nat} {T : ByteArray} {kind : Int} {lim k j : Nat} (hn : numB T k lim = false) (h : RI w1 b T j (if (-1 : Int) < 0 then (k : Int) else -1)) (hj : j ≤ T.size) (hw : Within b (b + 1) w w1) :
    RP b T (numP T kind lim k) w (.returned (.slice none 0 0)) w1 := by
  unfold numP
  rw [if_neg (by rw [hn]; decide)]
  exact ⟨_, j, rfl, OwnP.nil, h, fun e => (by cases e), hj, hw⟩
theorem rp_num {w w1 : World} {b : Nat} {T : ByteArray} {kind : Int} {lim k j : Nat} {v : Value} (hn : numB T k lim = true) (hde : dE T k = j) (h : RI w1 b T j (-1)) (hj : j ≤ T.size) (hw : Within b (b + 1) w w1) (hv : OwnP 73 w1 w.heap.size v [(kind, (dV T k (j - k) : Int))]) :
    RP b T (numP T kind lim k) w (.returned v) w1 := by
  unfold numP
  rw [if_pos hn, hde]
  exact ⟨_, j, rfl, hv, h, fun _ => rfl, hj, hw⟩
set_option maxRecDepth 1000000 in
set_option maxHeartbeats 1600000 in
theorem c_number {w : World} {b : Nat} {T : ByteArray} {k : Nat} {E : Value} (h : RI w b T k (-1)) (hE : ErrIn w E) (hb6 : b ≠ 6) (hk : k ≤ T.size) (hT : T.size ≤ 200) (kind : Int) (lim : Nat) (hlim : lim ≤ 100) :
    Calls Tryd.prog 95 #[.pointer (some ⟨b, 0, none⟩), .int .i64 kind, .int .i64 (lim : Int)] w (RP b T (numP T kind lim k) w) := by
  obtain ⟨c0, c1, c2, f1, f2⟩ := h.facts
  have HR0 := Lib.hid h
  obtain ⟨hE0, hE1, te, ae, rfl⟩ := hE
  have hE' : ErrIn w (.iface te (.pointer (some ae))) := ⟨hE0, hE1, te, ae, rfl⟩
  have HE : Hid (ErrIn w (.iface te (.pointer (some ae)))) := Lib.hid hE'
  clear h hE0 hE1 hE'
  go_enter Tryd.func95, Tryd.ntmps95
  go_wp2_with fail
  go_loopw [] (fun w' => ∃ j : Nat, Hid (RI w' b T j (-1)) ∧ k ≤ j ∧ j ≤ T.size ∧ Hid (∀ i, k ≤ i → i < j → isD T i = true) ∧ Hid (Within b (b + 1) w w')) (fun w' => T.size - atN w' b)
  case atStart => exact ⟨k, HR0, Nat.le_refl _, hk, fun i _ _ => by omega, Within.refl _ _ _⟩
  case round =>
    obtain ⟨j, HR, hkj, hj, HD, HW⟩ := hrel
    clear c0 c1 c2 f1 f2
    obtain ⟨c0, c1, c2, f1, f2⟩ := HR.out.facts
    have HA := Lib.hid HR.out.atN
    by_cases hd : isD T j = true
    · obtain ⟨h1, h2, h3⟩ := isD_iff.1 hd
      have jp : (0 : Int) ≤ (j : Int) := by omega
      have jq : (j : Int) < (T.size : Int) := by omega
      have b1 : decide ((j : Int) < (T.size : Int)) = true := by simp; omega
      have b1' : decide (j < T.size) = true := by simp; omega
      have b2 : decide ((48 : Int) ≤ (T[j].toNat : Int)) = true := by rw [bA_lt h1]; simp; omega
      have b3 : decide ((T[j].toNat : Int) ≤ (57 : Int)) = true := by rw [bA_lt h1]; simp; omega
      have HD2 := Lib.hid (show ∀ i, k ≤ i → i < j + 1 → isD T i = true from fun i hi hi2 => by
        by_cases e : i = j
        · rw [e]; exact hd
        · exact HD.out i hi (by omega))
      clear h2 h3 hd
      go_wp2_with fail
      go_quiet (fail)
      go_wp2_with fail
      go_roundw
      case rel => exact ⟨j + 1, (HR.out.drawn nq).setAt (j + 1), by omega, by omega, HD2, (HW.out.trans (Drawn.in_ ⟨nq, rfl⟩ b)).trans (in_set _ _ _ _)⟩
      case measure =>
        have e1 := ((HR.out.drawn nq).setAt (j + 1)).atN
        rw [show (((j + 1 : Nat) : Int)) = (j : Int) + 1 by omega] at e1
        rw [e1, HA.out]
        omega
    · have hno : T.size = j ∨ (j < T.size ∧ bA T j < 48) ∨ (j < T.size ∧ 57 < bA T j) := by
        rw [isD_iff] at hd
        omega
      have hde := dE_eq hd hkj hj HD.out
      clear hd
      rcases hno with e | ⟨e, q⟩ | ⟨e, q⟩
      · have b1 : decide ((j : Int) < (T.size : Int)) = false := by simp; omega
        have b1' : decide (j < T.size) = false := by simp; omega
        go_wp2_with fail
        go_quiet (fail)
        by_cases he : j = k
        · have b5 : ((j : Int) == (k : Int)) = true := by simp; omega
          have b5' : (j == k) = true := by simp; omega
          have HN := Lib.hid (numB_no (T := T) (lim := lim) (by rw [hde, he]))
          go_wp2_with fail
          refine (c_fail (HR.out.drawn nq) k).mono ?_
          rintro e w1 ⟨rfl, r1, i1⟩
          go_wp2_with fail
          go_ret
          exact rp_fail HN.out r1 hj ((HW.out.trans (Drawn.in_ ⟨nq, rfl⟩ b)).trans i1)
        · have b5 : ((j : Int) == (k : Int)) = false := by simp; omega
          have b5' : (j == k) = false := by simp; omega
          have HNB := Lib.hid (numB_eq hde (by omega) hj HD.out hlim)
          have HDE := Lib.hid hde
          clear hde
          go_wp2_with fail
          have RA := HR.out.drawn nq
          have WA := HW.out.trans (Drawn.in_ (w' := wr.drewN nq) ⟨nq, rfl⟩ b)
          generalize wr.drewN nq = wa at *
          clear c0 c1 c2 f1 f2
          obtain ⟨c0, c1, c2, f1, f2⟩ := RA.facts
          have kj : (k : Int) ≤ (j : Int) := by omega
          have kp : (0 : Int) ≤ (k : Int) := by omega
          have jT : (j : Int) ≤ (T.size : Int) := by omega
          have HRA := Lib.hid RA
          have HEA := Lib.hid (HE.out.in_ WA hb6)
          have hkj2 : k < j := by omega
          have HWA := Lib.hid WA
          clear RA WA
          by_cases hg : dgB (T.extract k j) = true
          · have HC := Lib.hid (fun W (hW : Below wa.heap.size wa W) => c_dg_ok (HEA.out.below hW) hkj2 hj hT HD.out hg)
            by_cases hv : dV T k (j - k) < lim
            · have HN := Lib.hid (show numB T k lim = true by rw [HNB.out, hg, decide_eq_true hv]; rfl)
              have v1 : decide ((lim : Int) ≤ (dV T k (j - k) : Int)) = false := by simp; omega
              have v1' : decide (lim ≤ dV T k (j - k)) = false := by simp; omega
              clear hg hv
              go_region_held3 (fun w' => Below wa.heap.size wa w' ∧ w'.cell? ⟨b, 0, none⟩ = some (.string T) ∧ w'.cell? ⟨b, 1, none⟩ = some (.int .i64 (j : Int))) (first | exact ⟨(Drawn.one (Drawn.refl _)).bel0, c0, c1⟩ | (refine keep2 ?_ hb7; assumption) | (refine keep2 ?_ (bel_box _ _); assumption)) (first | (go_at_call 115; (with_reducible refine (HC.out _ (And.left (by assumption))).mono ?_); rintro e wq ⟨rfl, hb7⟩))
              go_wp2_with fail
              go_ret
              have hH := (‹Below wa.heap.size wa wq ∧ _› : _ ∧ _).1
              have hw2 := (HWA.out.trans (bel_in hH b)).trans (bel_in (bel_box wq (.cells #[.int .i64 kind, .int .i64 (dV T k (j - k) : Int)] 73)) b)
              exact rp_num HN.out HDE.out ((HRA.out.below hH).below (bel_box _ _)) hj hw2 ((OwnP.lit1 rfl).mono (Nat.le_trans HWA.out.size hH.size))
            · have HN := Lib.hid (show numB T k lim = false by rw [HNB.out, hg, decide_eq_false hv]; rfl)
              have v1 : decide ((lim : Int) ≤ (dV T k (j - k) : Int)) = true := by simp; omega
              have v1' : decide (lim ≤ dV T k (j - k)) = true := by simp; omega
              clear hg hv
              go_region_held3 (fun w' => Below wa.heap.size wa w' ∧ w'.cell? ⟨b, 0, none⟩ = some (.string T) ∧ w'.cell? ⟨b, 1, none⟩ = some (.int .i64 (j : Int))) (first | exact ⟨(Drawn.one (Drawn.refl _)).bel0, c0, c1⟩ | (refine keep2 ?_ hb7; assumption) | (refine keep2 ?_ (bel_box _ _); assumption)) (first | (go_at_call 115; (with_reducible refine (HC.out _ (And.left (by assumption))).mono ?_); rintro e wq ⟨rfl, hb7⟩))
              go_wp2_with fail
              have hH := (‹Below wa.heap.size wa wq ∧ _› : _ ∧ _).1
              refine (c_fail (HRA.out.below hH) k).mono ?_
              rintro e w2 ⟨rfl, r2, i2⟩
              go_wp2_with fail
              go_ret
              exact rp_fail HN.out r2 hj ((HWA.out.trans (bel_in hH b)).trans i2)
          · have HC := Lib.hid (fun W (hW : Below wa.heap.size wa W) => c_dg_no (HEA.out.below hW) hkj2 hj hT HD.out hg)
            have HN := Lib.hid (show numB T k lim = false by rw [HNB.out, show dgB (T.extract k j) = false by simpa using hg]; rfl)
            clear hg
            go_region_held3 (fun w' => Below wa.heap.size wa w' ∧ w'.cell? ⟨b, 0, none⟩ = some (.string T) ∧ w'.cell? ⟨b, 1, none⟩ = some (.int .i64 (j : Int))) (first | exact ⟨(Drawn.one (Drawn.refl _)).bel0, c0, c1⟩ | (refine keep2 ?_ hb7; assumption) | (refine keep2 ?_ (bel_box _ _); assumption)) (first | (go_at_call 115; (with_reducible refine (HC.out _ (And.left (by assumption))).mono ?_); rintro e wq ⟨rfl, hb7⟩))
            go_wp2_with fail
            have hH := (‹Below wa.heap.size wa wq ∧ _› : _ ∧ _).1
            refine (c_fail (HRA.out.below hH) k).mono ?_
            rintro e w2 ⟨rfl, r2, i2⟩
            go_wp2_with fail
            go_ret
            exact rp_fail HN.out r2 hj ((HWA.out.trans (bel_in hH b)).trans i2)
      · have jp : (0 : Int) ≤ (j : Int) := by omega
        have jq : (j : Int) < (T.size : Int) := by omega
        have b1 : decide ((j : Int) < (T.size : Int)) = true := by simp; omega
        have b1' : decide (j < T.size) = true := by simp; omega
        have b2 : decide ((48 : Int) ≤ (T[j].toNat : Int)) = false := by rw [bA_lt e]; simp; omega
        clear q
        go_wp2_with fail
        go_quiet (fail)
        by_cases he : j = k
        · have b5 : ((j : Int) == (k : Int)) = true := by simp; omega
          have b5' : (j == k) = true := by simp; omega
          have HN := Lib.hid (numB_no (T := T) (lim := lim) (by rw [hde, he]))
          go_wp2_with fail
          refine (c_fail (HR.out.drawn nq) k).mono ?_
          rintro e w1 ⟨rfl, r1, i1⟩
          go_wp2_with fail
          go_ret
          exact rp_fail HN.out r1 hj ((HW.out.trans (Drawn.in_ ⟨nq, rfl⟩ b)).trans i1)
        · have b5 : ((j : Int) == (k : Int)) = false := by simp; omega
          have b5' : (j == k) = false := by simp; omega
          have HNB := Lib.hid (numB_eq hde (by omega) hj HD.out hlim)
          have HDE := Lib.hid hde
          clear hde
          go_wp2_with fail
          have RA := HR.out.drawn nq
          have WA := HW.out.trans (Drawn.in_ (w' := wr.drewN nq) ⟨nq, rfl⟩ b)
          generalize wr.drewN nq = wa at *
          clear c0 c1 c2 f1 f2
          obtain ⟨c0, c1, c2, f1, f2⟩ := RA.facts
          have kj : (k : Int) ≤ (j : Int) := by omega
          have kp : (0 : Int) ≤ (k : Int) := by omega
          have jT : (j : Int) ≤ (T.size : Int) := by omega
          have HRA := Lib.hid RA
          have HEA := Lib.hid (HE.out.in_ WA hb6)
          have hkj2 : k < j := by omega
          have HWA := Lib.hid WA
          clear RA WA
          by_cases hg : dgB (T.extract k j) = true
          · have HC := Lib.hid (fun W (hW : Below wa.heap.size wa W) => c_dg_ok (HEA.out.below hW) hkj2 hj hT HD.out hg)
            by_cases hv : dV T k (j - k) < lim
            · have HN := Lib.hid (show numB T k lim = true by rw [HNB.out, hg, decide_eq_true hv]; rfl)
              have v1 : decide ((lim : Int) ≤ (dV T k (j - k) : Int)) = false := by simp; omega
              have v1' : decide (lim ≤ dV T k (j - k)) = false := by simp; omega
              clear hg hv
              go_region_held3 (fun w' => Below wa.heap.size wa w' ∧ w'.cell? ⟨b, 0, none⟩ = some (.string T) ∧ w'.cell? ⟨b, 1, none⟩ = some (.int .i64 (j : Int))) (first | exact ⟨(Drawn.one (Drawn.refl _)).bel0, c0, c1⟩ | (refine keep2 ?_ hb7; assumption) | (refine keep2 ?_ (bel_box _ _); assumption)) (first | (go_at_call 115; (with_reducible refine (HC.out _ (And.left (by assumption))).mono ?_); rintro e wq ⟨rfl, hb7⟩))
              go_wp2_with fail
              go_ret
              have hH := (‹Below wa.heap.size wa wq ∧ _› : _ ∧ _).1
              have hw2 := (HWA.out.trans (bel_in hH b)).trans (bel_in (bel_box wq (.cells #[.int .i64 kind, .int .i64 (dV T k (j - k) : Int)] 73)) b)
              exact rp_num HN.out HDE.out ((HRA.out.below hH).below (bel_box _ _)) hj hw2 ((OwnP.lit1 rfl).mono (Nat.le_trans HWA.out.size hH.size))
            · have HN := Lib.hid (show numB T k lim = false by rw [HNB.out, hg, decide_eq_false hv]; rfl)
              have v1 : decide ((lim : Int) ≤ (dV T k (j - k) : Int)) = true := by simp; omega
              have v1' : decide (lim ≤ dV T k (j - k)) = true := by simp; omega
              clear hg hv
              go_region_held3 (fun w' => Below wa.heap.size wa w' ∧ w'.cell? ⟨b, 0, none⟩ = some (.string T) ∧ w'.cell? ⟨b, 1, none⟩ = some (.int .i64 (j : Int))) (first | exact ⟨(Drawn.one (Drawn.refl _)).bel0, c0, c1⟩ | (refine keep2 ?_ hb7; assumption) | (refine keep2 ?_ (bel_box _ _); assumption)) (first | (go_at_call 115; (with_reducible refine (HC.out _ (And.left (by assumption))).mono ?_); rintro e wq ⟨rfl, hb7⟩))
              go_wp2_with fail
              have hH := (‹Below wa.heap.size wa wq ∧ _› : _ ∧ _).1
              refine (c_fail (HRA.out.below hH) k).mono ?_
              rintro e w2 ⟨rfl, r2, i2⟩
              go_wp2_with fail
              go_ret
              exact rp_fail HN.out r2 hj ((HWA.out.trans (bel_in hH b)).trans i2)
          · have HC := Lib.hid (fun W (hW : Below wa.heap.size wa W) => c_dg_no (HEA.out.below hW) hkj2 hj hT HD.out hg)
            have HN := Lib.hid (show numB T k lim = false by rw [HNB.out, show dgB (T.extract k j) = false by simpa using hg]; rfl)
            clear hg
            go_region_held3 (fun w' => Below wa.heap.size wa w' ∧ w'.cell? ⟨b, 0, none⟩ = some (.string T) ∧ w'.cell? ⟨b, 1, none⟩ = some (.int .i64 (j : Int))) (first | exact ⟨(Drawn.one (Drawn.refl _)).bel0, c0, c1⟩ | (refine keep2 ?_ hb7; assumption) | (refine keep2 ?_ (bel_box _ _); assumption)) (first | (go_at_call 115; (with_reducible refine (HC.out _ (And.left (by assumption))).mono ?_); rintro e wq ⟨rfl, hb7⟩))
            go_wp2_with fail
            have hH := (‹Below wa.heap.size wa wq ∧ _› : _ ∧ _).1
            refine (c_fail (HRA.out.below hH) k).mono ?_
            rintro e w2 ⟨rfl, r2, i2⟩
            go_wp2_with fail
            go_ret
            exact rp_fail HN.out r2 hj ((HWA.out.trans (bel_in hH b)).trans i2)
      · have jp : (0 : Int) ≤ (j : Int) := by omega
        have jq : (j : Int) < (T.size : Int) := by omega
        have b1 : decide ((j : Int) < (T.size : Int)) = true := by simp; omega
        have b1' : decide (j < T.size) = true := by simp; omega
        have b2 : decide ((48 : Int) ≤ (T[j].toNat : Int)) = true := by rw [bA_lt e]; simp; omega
        have b3 : decide ((T[j].toNat : Int) ≤ (57 : Int)) = false := by rw [bA_lt e]; simp; omega
        clear q
        go_wp2_with fail
        go_quiet (fail)
        by_cases he : j = k
        · have b5 : ((j : Int) == (k : Int)) = true := by simp; omega
          have b5' : (j == k) = true := by simp; omega
          have HN := Lib.hid (numB_no (T := T) (lim := lim) (by rw [hde, he]))
          go_wp2_with fail
          refine (c_fail (HR.out.drawn nq) k).mono ?_
          rintro e w1 ⟨rfl, r1, i1⟩
          go_wp2_with fail
          go_ret
          exact rp_fail HN.out r1 hj ((HW.out.trans (Drawn.in_ ⟨nq, rfl⟩ b)).trans i1)
        · have b5 : ((j : Int) == (k : Int)) = false := by simp; omega
          have b5' : (j == k) = false := by simp; omega
          have HNB := Lib.hid (numB_eq hde (by omega) hj HD.out hlim)
          have HDE := Lib.hid hde
          clear hde
          go_wp2_with fail
          have RA := HR.out.drawn nq
          have WA := HW.out.trans (Drawn.in_ (w' := wr.drewN nq) ⟨nq, rfl⟩ b)
          generalize wr.drewN nq = wa at *
          clear c0 c1 c2 f1 f2
          obtain ⟨c0, c1, c2, f1, f2⟩ := RA.facts
          have kj : (k : Int) ≤ (j : Int) := by omega
          have kp : (0 : Int) ≤ (k : Int) := by omega
          have jT : (j : Int) ≤ (T.size : Int) := by omega
          have HRA := Lib.hid RA
          have HEA := Lib.hid (HE.out.in_ WA hb6)
          have hkj2 : k < j := by omega
          have HWA := Lib.hid WA
          clear RA WA
          by_cases hg : dgB (T.extract k j) = true
          · have HC := Lib.hid (fun W (hW : Below wa.heap.size wa W) => c_dg_ok (HEA.out.below hW) hkj2 hj hT HD.out hg)
            by_cases hv : dV T k (j - k) < lim
            · have HN := Lib.hid (show numB T k lim = true by rw [HNB.out, hg, decide_eq_true hv]; rfl)
              have v1 : decide ((lim : Int) ≤ (dV T k (j - k) : Int)) = false := by simp; omega
              have v1' : decide (lim ≤ dV T k (j - k)) = false := by simp; omega
              clear hg hv
              go_region_held3 (fun w' => Below wa.heap.size wa w' ∧ w'.cell? ⟨b, 0, none⟩ = some (.string T) ∧ w'.cell? ⟨b, 1, none⟩ = some (.int .i64 (j : Int))) (first | exact ⟨(Drawn.one (Drawn.refl _)).bel0, c0, c1⟩ | (refine keep2 ?_ hb7; assumption) | (refine keep2 ?_ (bel_box _ _); assumption)) (first | (go_at_call 115; (with_reducible refine (HC.out _ (And.left (by assumption))).mono ?_); rintro e wq ⟨rfl, hb7⟩))
              go_wp2_with fail
              go_ret
              have hH := (‹Below wa.heap.size wa wq ∧ _› : _ ∧ _).1
              have hw2 := (HWA.out.trans (bel_in hH b)).trans (bel_in (bel_box wq (.cells #[.int .i64 kind, .int .i64 (dV T k (j - k) : Int)] 73)) b)
              exact rp_num HN.out HDE.out ((HRA.out.below hH).below (bel_box _ _)) hj hw2 ((OwnP.lit1 rfl).mono (Nat.le_trans HWA.out.size hH.size))
            · have HN := Lib.hid (show numB T k lim = false by rw [HNB.out, hg, decide_eq_false hv]; rfl)
              have v1 : decide ((lim : Int) ≤ (dV T k (j - k) : Int)) = true := by simp; omega
              have v1' : decide (lim ≤ dV T k (j - k)) = true := by simp; omega
              clear hg hv
              go_region_held3 (fun w' => Below wa.heap.size wa w' ∧ w'.cell? ⟨b, 0, none⟩ = some (.string T) ∧ w'.cell? ⟨b, 1, none⟩ = some (.int .i64 (j : Int))) (first | exact ⟨(Drawn.one (Drawn.refl _)).bel0, c0, c1⟩ | (refine keep2 ?_ hb7; assumption) | (refine keep2 ?_ (bel_box _ _); assumption)) (first | (go_at_call 115; (with_reducible refine (HC.out _ (And.left (by assumption))).mono ?_); rintro e wq ⟨rfl, hb7⟩))
              go_wp2_with fail
              have hH := (‹Below wa.heap.size wa wq ∧ _› : _ ∧ _).1
              refine (c_fail (HRA.out.below hH) k).mono ?_
              rintro e w2 ⟨rfl, r2, i2⟩
              go_wp2_with fail
              go_ret
              exact rp_fail HN.out r2 hj ((HWA.out.trans (bel_in hH b)).trans i2)
          · have HC := Lib.hid (fun W (hW : Below wa.heap.size wa W) => c_dg_no (HEA.out.below hW) hkj2 hj hT HD.out hg)
            have HN := Lib.hid (show numB T k lim = false by rw [HNB.out, show dgB (T.extract k j) = false by simpa using hg]; rfl)
            clear hg
            go_region_held3 (fun w' => Below wa.heap.size wa w' ∧ w'.cell? ⟨b, 0, none⟩ = some (.string T) ∧ w'.cell? ⟨b, 1, none⟩ = some (.int .i64 (j : Int))) (first | exact ⟨(Drawn.one (Drawn.refl _)).bel0, c0, c1⟩ | (refine keep2 ?_ hb7; assumption) | (refine keep2 ?_ (bel_box _ _); assumption)) (first | (go_at_call 115; (with_reducible refine (HC.out _ (And.left (by assumption))).mono ?_); rintro e wq ⟨rfl, hb7⟩))
            go_wp2_with fail
            have hH := (‹Below wa.heap.size wa wq ∧ _› : _ ∧ _).1
            refine (c_fail (HRA.out.below hH) k).mono ?_
            rintro e w2 ⟨rfl, r2, i2⟩
            go_wp2_with fail
            go_ret
            exact rp_fail HN.out r2 hj ((HWA.out.trans (bel_in hH b)).trans i2)
end Go.Proofs.YtjlpmfimbgbcmaaDoor
