/-
  PathCategory: the walks of the functions that compare lists.
-/
import Derived.Test.YtllbjckbinolmaaRo
namespace Go.Proofs.Ytllbjckbinolmaa
open Go.RowKit

theorem lessL_step {xs ys : List Int} {k : Nat} (h : k < xs.length) (h' : k < ys.length) : lessL (xs.drop k) (ys.drop k) = if gi xs k = gi ys k then lessL (xs.drop (k + 1)) (ys.drop (k + 1)) else decide (gi xs k < gi ys k) := by
  rw [drop_gi h, drop_gi h']; rfl
theorem lessL_end {xs ys : List Int} {k : Nat} (hk : k ≤ xs.length) (hk' : k ≤ ys.length) (h : ¬ (k < xs.length ∧ k < ys.length)) : lessL (xs.drop k) (ys.drop k) = decide (xs.length < ys.length) := by
  by_cases h1 : k < xs.length
  · have h2 : k = ys.length := by omega
    subst h2
    rw [List.drop_length, drop_gi h1]
    simp [lessL]; omega
  · have h2 : k = xs.length := by omega
    subst h2
    rw [List.drop_length]
    cases hd : ys.drop xs.length with
    | nil =>
      have := congrArg List.length hd
      simp at this
      simp [lessL]; omega
    | cons a l =>
      have := congrArg List.length hd
      simp at this
      simp [lessL]; omega
theorem c_l01Less {w : World} {u v : Value} {xs ys : List Int} (h : IS w u xs) (h' : IS w v ys) : Calls Try.prog 42 #[u, v] w (Ret w (.bool (lessL xs ys))) := by
  obtain ⟨ao, bb, oo, cc, rfl, ha, hc⟩ := h.ex
  obtain ⟨ao2, bb2, oo2, cc2, rfl, ha2, hc2⟩ := h'.ex
  have hl := h.len
  have hl' := h'.len
  have HC := Lib.hid hc
  have HC2 := Lib.hid hc2
  clear h h' hc hc2
  go_enter Try.func42, Try.ntmps42
  go_wp2_with fail
  go_loopw [5] (fun i wr => ∃ k : Nat, k ≤ xs.length ∧ k ≤ ys.length ∧ i = .int .i64 k ∧ Drawn w wr ∧ Hid (lessL xs ys = lessL (xs.drop k) (ys.drop k))) (fun i _ => xs.length - (intOf i).toNat)
  case atStart => exact ⟨0, Nat.zero_le _, Nat.zero_le _, rfl, Drawn.refl _, rfl⟩
  case round =>
    obtain ⟨k, hk, hk', rfl, hd, hp⟩ := hrel
    by_cases hlt : k < xs.length ∧ k < ys.length
    · obtain ⟨h1, h2⟩ := hlt
      obtain rfl := ha (by omega)
      obtain rfl := ha2 (by omega)
      have cx := up_cell hd.bel0 (HC.out k h1)
      have cy := up_cell hd.bel0 (HC2.out k h2)
      have HS := Lib.hid (lessL_step h1 h2)
      by_cases e : gi xs k = gi ys k
      · have eb : (gi xs k != gi ys k) = false := by simp [e]
        have HE := Lib.hid e
        clear e
        go_wp2_with fail
        go_quiet (fail)
        have hd2 := Drawn.step hd nq
        generalize wr.drewN nq = wq at *
        clear cx cy
        go_wp2_with fail
        go_roundw
        case rel => exact ⟨k + 1, by omega, by omega, by go_num, hd2, by unfold Hid; rw [hp.out, HS.out, if_pos HE.out]⟩
        case measure => simp [intOf]; omega
      · have eb : (gi xs k != gi ys k) = true := by simp [e]
        have HE := Lib.hid e
        clear e
        go_wp2_with fail
        go_quiet (fail)
        have hd2 := Drawn.step hd nq
        replace cx := up_cell (Drawn.step (Drawn.refl _) nq).bel0 cx
        replace cy := up_cell (Drawn.step (Drawn.refl _) nq).bel0 cy
        generalize wr.drewN nq = wq at *
        go_wp2_with fail
        go_quiet (fail)
        go_wp2_with fail
        go_ret
        exact ⟨by rw [hp.out, HS.out, if_neg HE.out]; rfl, (Drawn.step hd2 _).bel0⟩
    · have HG := Lib.hid (lessL_end hk hk' hlt)
      by_cases h1 : k < xs.length
      · have h2 : ¬ k < ys.length := fun q => hlt ⟨h1, q⟩
        have h2b : decide ((k : Int) < (ys.length : Int)) = false := by simp; omega
        clear hlt
        go_wp2_with fail
        go_ret
        exact ⟨by rw [hp.out, HG.out]; simp, hd.bel0⟩
      · have h1b : decide ((k : Int) < (xs.length : Int)) = false := by simp; omega
        clear hlt
        go_wp2_with fail
        go_ret
        exact ⟨by rw [hp.out, HG.out]; simp, hd.bel0⟩
theorem cmpL_step {xs ys : List Int} {k : Nat} (h : k < xs.length) (h' : k < ys.length) : cmpL (xs.drop k) (ys.drop k) = if gi xs k = gi ys k then cmpL (xs.drop (k + 1)) (ys.drop (k + 1)) else if gi xs k < gi ys k then -1 else 1 := by
  rw [drop_gi h, drop_gi h']; rfl
theorem c_compare {w : World} {u v : Value} {xs ys : List Int} (h : IS w u xs) (h' : IS w v ys) : Calls Try.prog 37 #[u, v] w (Rd w (.int .i64 (cmpL xs ys))) := by
  obtain ⟨ao, bb, oo, cc, rfl, ha, hc⟩ := h.ex
  obtain ⟨ao2, bb2, oo2, cc2, rfl, ha2, hc2⟩ := h'.ex
  have hl := h.len
  have hl' := h'.len
  have HC := Lib.hid hc
  have HC2 := Lib.hid hc2
  clear h h' hc hc2
  go_enter Try.func37, Try.ntmps37
  go_wp2_with fail
  go_loopw [8] (fun i wr => ∃ k : Nat, k ≤ xs.length ∧ k ≤ ys.length ∧ i = .int .i64 k ∧ Drawn w wr ∧ Hid (cmpL xs ys = cmpL (xs.drop k) (ys.drop k))) (fun i _ => xs.length - (intOf i).toNat)
  case atStart => exact ⟨0, Nat.zero_le _, Nat.zero_le _, rfl, Drawn.refl _, rfl⟩
  case round =>
    obtain ⟨k, hk, hk', rfl, hd, hp⟩ := hrel
    by_cases h1 : k < xs.length
    · have d1 : decide ((k : Int) < (xs.length : Int)) = true := decide_eq_true (by omega)
      by_cases h2 : k < ys.length
      · have d2 : ((k : Int) == (ys.length : Int)) = false := by simp; omega
        obtain rfl := ha (by omega)
        obtain rfl := ha2 (by omega)
        have cx := up_cell hd.bel0 (HC.out k h1)
        have cy := up_cell hd.bel0 (HC2.out k h2)
        have HS := Lib.hid (cmpL_step h1 h2)
        by_cases e : gi xs k = gi ys k
        · have eb : (gi xs k != gi ys k) = false := by simp [e]
          have HE := Lib.hid e
          clear e
          go_wp2_with fail
          go_quiet (fail)
          have hd2 := Drawn.step hd nq
          generalize wr.drewN nq = wq at *
          clear cx cy
          go_wp2_with fail
          go_roundw
          case rel => exact ⟨k + 1, by omega, by omega, by go_num, hd2, by unfold Hid; rw [hp.out, HS.out, if_pos HE.out]⟩
          case measure => simp [intOf]; omega
        · have eb : (gi xs k != gi ys k) = true := by simp [e]
          have HE := Lib.hid e
          clear e
          by_cases l : gi xs k < gi ys k
          · have dl : decide (gi xs k < gi ys k) = true := decide_eq_true l
            have HL := Lib.hid l
            clear l
            go_wp2_with fail
            go_quiet (fail)
            have hd2 := Drawn.step hd nq
            replace cx := up_cell (Drawn.step (Drawn.refl _) nq).bel0 cx
            replace cy := up_cell (Drawn.step (Drawn.refl _) nq).bel0 cy
            generalize wr.drewN nq = wq at *
            go_wp2_with fail
            go_quiet (fail)
            go_wp2_with fail
            go_ret
            exact ⟨by rw [hp.out, HS.out, if_neg HE.out, if_pos HL.out]; rfl, Drawn.step hd2 _⟩
          · have dl : decide (gi xs k < gi ys k) = false := decide_eq_false l
            have HL := Lib.hid l
            clear l
            go_wp2_with fail
            go_quiet (fail)
            have hd2 := Drawn.step hd nq
            replace cx := up_cell (Drawn.step (Drawn.refl _) nq).bel0 cx
            replace cy := up_cell (Drawn.step (Drawn.refl _) nq).bel0 cy
            generalize wr.drewN nq = wq at *
            go_wp2_with fail
            go_quiet (fail)
            go_wp2_with fail
            go_ret
            exact ⟨by rw [hp.out, HS.out, if_neg HE.out, if_neg (Int.not_lt.2 HL.out)]; rfl, Drawn.step hd2 _⟩
      · have d2 : ((k : Int) == (ys.length : Int)) = true := by simp; omega
        have HG : Hid (cmpL (xs.drop k) (ys.drop k) = 1) := by
          have : ys.drop k = [] := List.drop_eq_nil_of_le (by omega)
          rw [this, drop_gi h1]; rfl
        go_wp2_with fail
        go_ret
        exact ⟨by rw [hp.out, HG.out]; rfl, hd⟩
    · have d1 : decide ((k : Int) < (xs.length : Int)) = false := decide_eq_false (by omega)
      have hx : xs.drop k = [] := List.drop_eq_nil_of_le (by omega)
      by_cases h2 : k < ys.length
      · have d2 : decide ((xs.length : Int) < (ys.length : Int)) = true := decide_eq_true (by omega)
        have HG : Hid (cmpL (xs.drop k) (ys.drop k) = -1) := by rw [hx, drop_gi h2]; rfl
        clear hx
        go_wp2_with fail
        go_ret
        exact ⟨by rw [hp.out, HG.out]; rfl, hd⟩
      · have d2 : decide ((xs.length : Int) < (ys.length : Int)) = false := decide_eq_false (by omega)
        have HG : Hid (cmpL (xs.drop k) (ys.drop k) = 0) := by rw [hx, List.drop_eq_nil_of_le (by omega)]; rfl
        clear hx
        go_wp2_with fail
        go_ret
        exact ⟨by rw [hp.out, HG.out]; rfl, hd⟩
theorem c_sameL {w : World} {u v : Value} {xs ys : List Int} (h : IS w u xs) (h' : IS w v ys) : Calls Try.prog 26 #[u, v] w (Ret w (.bool (decide (xs = ys)))) := by
  have hc := c_compare h h'
  obtain ⟨ao, bb, oo, cc, rfl, -⟩ := h.ex
  obtain ⟨ao2, bb2, oo2, cc2, rfl, -⟩ := h'.ex
  clear h h'
  have hz : (cmpL xs ys == 0) = decide (xs = ys) := by
    by_cases e : xs = ys
    · rw [decide_eq_true e, (cmpL_zero xs ys).2 e]; rfl
    · rw [decide_eq_false e]; simp [cmpL_zero, e]
  obtain ⟨c, hcc⟩ : ∃ c, c = cmpL xs ys := ⟨_, rfl⟩
  rw [← hcc] at hc hz
  obtain ⟨d, hd⟩ : ∃ d, d = decide (xs = ys) := ⟨_, rfl⟩
  rw [← hd] at hz ⊢
  have HZ := Lib.hid hz
  have HCC := Lib.hid hc
  clear hcc hd hz hc
  go_enter Try.func26, Try.ntmps26
  go_wp2_with (go_at_call 37; refine HCC.out.mono ?_; rintro e w' ⟨rfl, b⟩)
  rw [HZ.out]
  go_ret
  exact ⟨rfl, Drawn.bel0 b⟩
end Go.Proofs.Ytllbjckbinolmaa
