/-
  l31Fits: the reference's reading of what can be written.
-/
import Derived.Test.YtjlpmfimbgbcmaaDoorIpp
namespace Go.Proofs.YtjlpmfimbgbcmaaDoor
open Go.RowKit

theorem size0_iff (x : ByteArray) : x = ByteArray.empty ↔ x.size = 0 := ⟨fun h => by rw [h]; rfl, fun h => ByteArray.ext (Array.eq_empty_of_size_eq_zero h)⟩
theorem canB_iff (t : St) : canB t = true ↔ (inR t.rule 0 999999999 = true ∧ inR t.var 0 999999999 = true ∧ allIn 1000000000 t.prem = true ∧ allIn 1000000000 t.ctx = true ∧ t.hyp.length ≤ 8 ∧ wordB t.conc = true ∧ wordB t.temp = true) ∧ ∀ (j : Nat) (hj : j < t.hyp.length), t.hyp[j].size ≠ 0 ∧ wordB t.hyp[j] = true := by
  have hc := Lib.containsS_iff t.hyp ByteArray.empty
  have hl : (∀ (j : Nat) (hj : j < t.hyp.length), t.hyp[j].size ≠ 0 ∧ wordB t.hyp[j] = true) ↔ ∀ x ∈ t.hyp, x.size ≠ 0 ∧ wordB x = true := by
    constructor
    · intro h x hx
      obtain ⟨j, hj, rfl⟩ := List.getElem_of_mem hx
      exact h j hj
    · exact fun h j hj => h _ (List.getElem_mem hj)
  have hn : (Lib.containsS t.hyp ByteArray.empty = false) ↔ ∀ x ∈ t.hyp, x.size ≠ 0 := by
    rw [← Bool.not_eq_true, hc]
    constructor
    · intro h x hx e
      exact h ((size0_iff x).2 e ▸ hx)
    · exact fun h hx => h _ hx rfl
  rw [hl, canB]
  simp only [Bool.and_eq_true, Bool.not_eq_true', decide_eq_true_eq, hn]
  simp only [allIn, inR, List.all_append, List.all_cons, List.all_nil, Bool.and_true, Bool.and_eq_true, decide_eq_true_eq, List.all_eq_true]
  constructor
  · rintro ⟨⟨⟨⟨⟨⟨h1, h2⟩, h3⟩, h4⟩, h5⟩, h6⟩, h7, h8, h9⟩
    exact ⟨⟨by omega, by omega, h3, h4, h5, h8, h9⟩, fun x hx => ⟨h6 x hx, h7 x hx⟩⟩
  · rintro ⟨⟨h1, h2, h3, h4, h5, h8, h9⟩, h⟩
    exact ⟨⟨⟨⟨⟨⟨by omega, by omega⟩, h3⟩, h4⟩, h5⟩, fun x hx => (h x hx).1⟩, fun x hx => (h x hx).2, h8, h9⟩

set_option maxHeartbeats 4000000 in
theorem c_l31Fits {w : World} {t : St} {vp vc vh : Value} (hp : IS w vp t.prem) (hc : IS w vc t.ctx) (hh : SL w vh t.hyp) (hz : ∀ x ∈ t.hyp ++ [t.conc, t.temp], x.size < 4294967281) :
    Calls Tryd.prog 55 #[.agg #[.int .i64 t.rule, vp, vc, vh, .string t.conc, .int .i64 t.var, .string t.temp]] w (fun e w' => e = .returned (.bool (canB t)) ∧ Below w.heap.size w w') := by
  obtain ⟨ap, bp, op, cp, rfl, -, -⟩ := hp.ex
  obtain ⟨ac, bc, oc, cc, rfl, -, -⟩ := hc.ex
  obtain ⟨ah, bh, oh, ch, rfl, ha, hcell⟩ := hh.ex
  obtain ⟨b1, hb1⟩ : ∃ b, b = inR t.rule 0 999999999 := ⟨_, rfl⟩
  obtain ⟨b2, hb2⟩ : ∃ b, b = inR t.var 0 999999999 := ⟨_, rfl⟩
  obtain ⟨b3, hb3⟩ : ∃ b, b = allIn 1000000000 t.prem := ⟨_, rfl⟩
  obtain ⟨b4, hb4⟩ : ∃ b, b = allIn 1000000000 t.ctx := ⟨_, rfl⟩
  obtain ⟨b6, hb6⟩ : ∃ b, b = wordB t.conc := ⟨_, rfl⟩
  obtain ⟨b7, hb7⟩ : ∃ b, b = wordB t.temp := ⟨_, rfl⟩
  have HC1 := Lib.hid (fun W => c_l01In t.rule 0 999999999 W)
  have HC2 := Lib.hid (fun W => c_l01In t.var 0 999999999 W)
  have HC3 := Lib.hid (fun W (hd : Drawn (w.alloc (.cells #[.int .i64 t.rule, .slice ap t.prem.length cp, .slice ac t.ctx.length cc, .slice ah t.hyp.length ch, .string t.conc, .int .i64 t.var, .string t.temp] 54)) W) => c_l01Map (hp.kept ((bel_alloc (Below.refl _ w) _).trans (hd.below _))) 1000000000)
  have HC4 := Lib.hid (fun W (hd : Drawn (w.alloc (.cells #[.int .i64 t.rule, .slice ap t.prem.length cp, .slice ac t.ctx.length cc, .slice ah t.hyp.length ch, .string t.conc, .int .i64 t.var, .string t.temp] 54)) W) => c_l01Map (hc.kept ((bel_alloc (Below.refl _ w) _).trans (hd.below _))) 1000000000)
  have HC6 := Lib.hid (fun W => c_l31Word (hz t.conc (by simp)) W)
  have HC7 := Lib.hid (fun W => c_l31Word (hz t.temp (by simp)) W)
  have HWD := Lib.hid (fun (x : ByteArray) (hx : x.size < 4294967281) W => c_l31Word hx W)
  have HZ := Lib.hid (fun (j : Nat) (hj : j < t.hyp.length) => hz t.hyp[j] (List.mem_append_left _ (List.getElem_mem hj)))
  rw [← hb1] at HC1
  rw [← hb2] at HC2
  rw [← hb3] at HC3
  rw [← hb4] at HC4
  rw [← hb6] at HC6
  rw [← hb7] at HC7
  obtain ⟨R, hR⟩ : ∃ R, R = canB t := ⟨_, rfl⟩
  have HR := Lib.hid (show R = true ↔ (b1 = true ∧ b2 = true ∧ b3 = true ∧ b4 = true ∧ t.hyp.length ≤ 8 ∧ b6 = true ∧ b7 = true) ∧ ∀ (j : Nat) (hj : j < t.hyp.length), t.hyp[j].size ≠ 0 ∧ wordB t.hyp[j] = true by rw [hR, hb1, hb2, hb3, hb4, hb6, hb7]; exact canB_iff t)
  rw [← hR]
  have hl8 := hh.len
  have HH := Lib.hid hcell
  have hA := Lib.hid ha
  clear hR hb1 hb2 hb3 hb4 hb6 hb7 hp hc hz hcell ha hh
  have no : ∀ {P : Prop}, (R = true → P) → ¬ P → R = false := fun h n => by
    cases e : R with
    | false => rfl
    | true => exact absurd (h e) n
  have HB0 := Lib.hid (show Below w.heap.size w (w.alloc (.cells #[.int .i64 t.rule, .slice ap t.prem.length cp, .slice ac t.ctx.length cc, .slice ah t.hyp.length ch, .string t.conc, .int .i64 t.var, .string t.temp] 54)) from bel_alloc (Below.refl _ w) _)
  cases b1
  case false =>
    have hF := Lib.hid (no (fun h => (HR.out.1 h).1) (fun h => (by have := h.1; cases this)))
    clear no
    go_enter Tryd.func55, Tryd.ntmps55
    go_wp2_with (first
      | (go_at_call 43; (first | (with_reducible refine (HC1.out _).mono ?_) | (with_reducible refine (HC2.out _).mono ?_)); rintro e wq ⟨rfl, mq, rfl⟩)
      | (go_at_call 67; (first | (with_reducible refine (HC3.out _ (by repeat (first | exact Drawn.refl _ | refine Drawn.step ?_ _ | refine Drawn.one ?_))).mono ?_) | (with_reducible refine (HC4.out _ (by repeat (first | exact Drawn.refl _ | refine Drawn.step ?_ _ | refine Drawn.one ?_))).mono ?_)); rintro e wq ⟨rfl, mq, rfl⟩)
      | (go_at_call 73; (first | (with_reducible refine (HC6.out _).mono ?_) | (with_reducible refine (HC7.out _).mono ?_)); rintro e wq ⟨rfl, rfl⟩))
    go_ret
    exact ⟨by rw [hF.out]; rfl, HB0.out.trans (Drawn.below (by repeat (first | exact Drawn.refl _ | refine Drawn.step ?_ _ | refine Drawn.one ?_)) _)⟩
  cases b2
  case false =>
    have hF := Lib.hid (no (fun h => (HR.out.1 h).1) (fun h => (by have := h.2.1; cases this)))
    clear no
    go_enter Tryd.func55, Tryd.ntmps55
    go_wp2_with (first
      | (go_at_call 43; (first | (with_reducible refine (HC1.out _).mono ?_) | (with_reducible refine (HC2.out _).mono ?_)); rintro e wq ⟨rfl, mq, rfl⟩)
      | (go_at_call 67; (first | (with_reducible refine (HC3.out _ (by repeat (first | exact Drawn.refl _ | refine Drawn.step ?_ _ | refine Drawn.one ?_))).mono ?_) | (with_reducible refine (HC4.out _ (by repeat (first | exact Drawn.refl _ | refine Drawn.step ?_ _ | refine Drawn.one ?_))).mono ?_)); rintro e wq ⟨rfl, mq, rfl⟩)
      | (go_at_call 73; (first | (with_reducible refine (HC6.out _).mono ?_) | (with_reducible refine (HC7.out _).mono ?_)); rintro e wq ⟨rfl, rfl⟩))
    go_ret
    exact ⟨by rw [hF.out]; rfl, HB0.out.trans (Drawn.below (by repeat (first | exact Drawn.refl _ | refine Drawn.step ?_ _ | refine Drawn.one ?_)) _)⟩
  cases b3
  case false =>
    have hF := Lib.hid (no (fun h => (HR.out.1 h).1) (fun h => (by have := h.2.2.1; cases this)))
    clear no
    go_enter Tryd.func55, Tryd.ntmps55
    go_wp2_with (first
      | (go_at_call 43; (first | (with_reducible refine (HC1.out _).mono ?_) | (with_reducible refine (HC2.out _).mono ?_)); rintro e wq ⟨rfl, mq, rfl⟩)
      | (go_at_call 67; (first | (with_reducible refine (HC3.out _ (by repeat (first | exact Drawn.refl _ | refine Drawn.step ?_ _ | refine Drawn.one ?_))).mono ?_) | (with_reducible refine (HC4.out _ (by repeat (first | exact Drawn.refl _ | refine Drawn.step ?_ _ | refine Drawn.one ?_))).mono ?_)); rintro e wq ⟨rfl, mq, rfl⟩)
      | (go_at_call 73; (first | (with_reducible refine (HC6.out _).mono ?_) | (with_reducible refine (HC7.out _).mono ?_)); rintro e wq ⟨rfl, rfl⟩))
    go_ret
    exact ⟨by rw [hF.out]; rfl, HB0.out.trans (Drawn.below (by repeat (first | exact Drawn.refl _ | refine Drawn.step ?_ _ | refine Drawn.one ?_)) _)⟩
  cases b4
  case false =>
    have hF := Lib.hid (no (fun h => (HR.out.1 h).1) (fun h => (by have := h.2.2.2.1; cases this)))
    clear no
    go_enter Tryd.func55, Tryd.ntmps55
    go_wp2_with (first
      | (go_at_call 43; (first | (with_reducible refine (HC1.out _).mono ?_) | (with_reducible refine (HC2.out _).mono ?_)); rintro e wq ⟨rfl, mq, rfl⟩)
      | (go_at_call 67; (first | (with_reducible refine (HC3.out _ (by repeat (first | exact Drawn.refl _ | refine Drawn.step ?_ _ | refine Drawn.one ?_))).mono ?_) | (with_reducible refine (HC4.out _ (by repeat (first | exact Drawn.refl _ | refine Drawn.step ?_ _ | refine Drawn.one ?_))).mono ?_)); rintro e wq ⟨rfl, mq, rfl⟩)
      | (go_at_call 73; (first | (with_reducible refine (HC6.out _).mono ?_) | (with_reducible refine (HC7.out _).mono ?_)); rintro e wq ⟨rfl, rfl⟩))
    go_ret
    exact ⟨by rw [hF.out]; rfl, HB0.out.trans (Drawn.below (by repeat (first | exact Drawn.refl _ | refine Drawn.step ?_ _ | refine Drawn.one ?_)) _)⟩
  by_cases h8 : t.hyp.length ≤ 8
  case neg =>
    have g8 : decide ((t.hyp.length : Int) > 8) = true := decide_eq_true (by omega)
    have hF := Lib.hid (no (fun h => (HR.out.1 h).1) (fun h => h8 h.2.2.2.2.1))
    clear no
    go_enter Tryd.func55, Tryd.ntmps55
    go_wp2_with (first
      | (go_at_call 43; (first | (with_reducible refine (HC1.out _).mono ?_) | (with_reducible refine (HC2.out _).mono ?_)); rintro e wq ⟨rfl, mq, rfl⟩)
      | (go_at_call 67; (first | (with_reducible refine (HC3.out _ (by repeat (first | exact Drawn.refl _ | refine Drawn.step ?_ _ | refine Drawn.one ?_))).mono ?_) | (with_reducible refine (HC4.out _ (by repeat (first | exact Drawn.refl _ | refine Drawn.step ?_ _ | refine Drawn.one ?_))).mono ?_)); rintro e wq ⟨rfl, mq, rfl⟩)
      | (go_at_call 73; (first | (with_reducible refine (HC6.out _).mono ?_) | (with_reducible refine (HC7.out _).mono ?_)); rintro e wq ⟨rfl, rfl⟩))
    go_ret
    exact ⟨by rw [hF.out]; rfl, HB0.out.trans (Drawn.below (by repeat (first | exact Drawn.refl _ | refine Drawn.step ?_ _ | refine Drawn.one ?_)) _)⟩
  have g8 : decide ((t.hyp.length : Int) > 8) = false := decide_eq_false (by omega)
  cases b6
  case false =>
    have hF := Lib.hid (no (fun h => (HR.out.1 h).1) (fun h => (by have := h.2.2.2.2.2.1; cases this)))
    clear no
    go_enter Tryd.func55, Tryd.ntmps55
    go_wp2_with (first
      | (go_at_call 43; (first | (with_reducible refine (HC1.out _).mono ?_) | (with_reducible refine (HC2.out _).mono ?_)); rintro e wq ⟨rfl, mq, rfl⟩)
      | (go_at_call 67; (first | (with_reducible refine (HC3.out _ (by repeat (first | exact Drawn.refl _ | refine Drawn.step ?_ _ | refine Drawn.one ?_))).mono ?_) | (with_reducible refine (HC4.out _ (by repeat (first | exact Drawn.refl _ | refine Drawn.step ?_ _ | refine Drawn.one ?_))).mono ?_)); rintro e wq ⟨rfl, mq, rfl⟩)
      | (go_at_call 73; (first | (with_reducible refine (HC6.out _).mono ?_) | (with_reducible refine (HC7.out _).mono ?_)); rintro e wq ⟨rfl, rfl⟩))
    go_ret
    exact ⟨by rw [hF.out]; rfl, HB0.out.trans (Drawn.below (by repeat (first | exact Drawn.refl _ | refine Drawn.step ?_ _ | refine Drawn.one ?_)) _)⟩
  cases b7
  case false =>
    have hF := Lib.hid (no (fun h => (HR.out.1 h).1) (fun h => (by have := h.2.2.2.2.2.2; cases this)))
    clear no
    go_enter Tryd.func55, Tryd.ntmps55
    go_wp2_with (first
      | (go_at_call 43; (first | (with_reducible refine (HC1.out _).mono ?_) | (with_reducible refine (HC2.out _).mono ?_)); rintro e wq ⟨rfl, mq, rfl⟩)
      | (go_at_call 67; (first | (with_reducible refine (HC3.out _ (by repeat (first | exact Drawn.refl _ | refine Drawn.step ?_ _ | refine Drawn.one ?_))).mono ?_) | (with_reducible refine (HC4.out _ (by repeat (first | exact Drawn.refl _ | refine Drawn.step ?_ _ | refine Drawn.one ?_))).mono ?_)); rintro e wq ⟨rfl, mq, rfl⟩)
      | (go_at_call 73; (first | (with_reducible refine (HC6.out _).mono ?_) | (with_reducible refine (HC7.out _).mono ?_)); rintro e wq ⟨rfl, rfl⟩))
    go_ret
    exact ⟨by rw [hF.out]; rfl, HB0.out.trans (Drawn.below (by repeat (first | exact Drawn.refl _ | refine Drawn.step ?_ _ | refine Drawn.one ?_)) _)⟩
  have HR' := Lib.hid (show R = true ↔ ∀ (j : Nat) (hj : j < t.hyp.length), t.hyp[j].size ≠ 0 ∧ wordB t.hyp[j] = true from HR.out.trans ⟨fun h => h.2, fun h => ⟨⟨rfl, rfl, rfl, rfl, h8, rfl, rfl⟩, h⟩⟩)
  clear HR no
  go_enter Tryd.func55, Tryd.ntmps55
  go_wp2_with (first
    | (go_at_call 43; (first | (with_reducible refine (HC1.out _).mono ?_) | (with_reducible refine (HC2.out _).mono ?_)); rintro e wq ⟨rfl, mq, rfl⟩)
    | (go_at_call 67; (first | (with_reducible refine (HC3.out _ (by repeat (first | exact Drawn.refl _ | refine Drawn.step ?_ _ | refine Drawn.one ?_))).mono ?_) | (with_reducible refine (HC4.out _ (by repeat (first | exact Drawn.refl _ | refine Drawn.step ?_ _ | refine Drawn.one ?_))).mono ?_)); rintro e wq ⟨rfl, mq, rfl⟩)
    | (go_at_call 73; (first | (with_reducible refine (HC6.out _).mono ?_) | (with_reducible refine (HC7.out _).mono ?_)); rintro e wq ⟨rfl, rfl⟩))
  clear HC1 HC2 HC3 HC4 HC6 HC7
  go_loopw [3] (fun i wr => ∃ k : Nat, i = .int .i64 (k : Int) ∧ k ≤ t.hyp.length ∧ Drawn (w.alloc (.cells #[.int .i64 t.rule, .slice ap t.prem.length cp, .slice ac t.ctx.length cc, .slice ah t.hyp.length ch, .string t.conc, .int .i64 t.var, .string t.temp] 54)) wr ∧ Hid (∀ (j : Nat) (hj : j < t.hyp.length), j < k → t.hyp[j].size ≠ 0 ∧ wordB t.hyp[j] = true)) (fun i _ => t.hyp.length - (intOf i).toNat)
  case atStart => exact ⟨0, rfl, Nat.zero_le _, (by repeat (first | exact Drawn.refl _ | refine Drawn.step ?_ _ | refine Drawn.one ?_)), Lib.hid (fun j hj h => by omega)⟩
  case round =>
    obtain ⟨k, rfl, hk, hd, HG⟩ := hrel
    have q3 : wr.cell? ⟨w.heap.size, 3, none⟩ = some (.slice ah t.hyp.length ch) := (hd.below (w.heap.size + 1)).cell (by simp) |>.trans (alloc_cell w _ _ 3)
    by_cases hlt : k < t.hyp.length
    · obtain rfl := hA.out (by omega)
      have c1 : wr.cell? ⟨bh, oh + k, none⟩ = some (.string t.hyp[k]) := upc (HB0.out.trans (hd.below _)) (HH.out k hlt)
      have hzk := HZ.out k hlt
      obtain ⟨x, hx⟩ : ∃ x, x = t.hyp[k] := ⟨_, rfl⟩
      rw [← hx] at c1 hzk
      have HX := Lib.hid hx
      have HD := Lib.hid hd
      have k1 : (k : Int) < (t.hyp.length : Int) := by omega
      clear hd hx
      by_cases hx0 : x.size = 0
      · have hl : x.toList.isEmpty = true := by
          rw [ByteArray.toList_eq, List.isEmpty_iff]
          exact List.length_eq_zero_iff.1 (by rw [Array.length_toList]; exact hx0)
        have hF := Lib.hid (show R = false by
          cases e : R with
          | false => rfl
          | true => exact absurd hx0 (HX.out ▸ (HR'.out.1 e k hlt).1))
        go_wp2_with fail
        go_ret
        exact ⟨by rw [hF.out]; rfl, HB0.out.trans (HD.out.below _)⟩
      · have hl : x.toList.isEmpty = false := by
          rw [ByteArray.toList_eq, List.isEmpty_eq_false_iff]
          exact fun e => hx0 (by have := congrArg List.length e; simpa using this)
        have HWX := Lib.hid (HWD.out x hzk)
        obtain ⟨bw, hbw⟩ : ∃ b, b = wordB x := ⟨_, rfl⟩
        rw [← hbw] at HWX
        have HBW := Lib.hid hbw
        have HX0 := Lib.hid hx0
        clear hbw hx0
        cases bw
        · have hF := Lib.hid (show R = false by
            cases e : R with
            | false => rfl
            | true =>
              have := (HR'.out.1 e k hlt).2
              rw [← HX.out, ← HBW.out] at this
              cases this)
          go_wp2_with (go_at_call 73; refine (HWX.out _).mono ?_; rintro e wq ⟨rfl, rfl⟩)
          go_ret
          exact ⟨by rw [hF.out]; rfl, HB0.out.trans (HD.out.below _)⟩
        · have HG2 := Lib.hid (show ∀ (j : Nat) (hj : j < t.hyp.length), j < k + 1 → t.hyp[j].size ≠ 0 ∧ wordB t.hyp[j] = true from fun j hj h => by
            by_cases e : j = k
            · subst e; rw [← HX.out]; exact ⟨HX0.out, HBW.out.symm⟩
            · exact HG.out j hj (by omega))
          go_wp2_with (go_at_call 73; refine (HWX.out _).mono ?_; rintro e wq ⟨rfl, rfl⟩)
          go_roundw
          case rel => exact ⟨k + 1, by go_num, by omega, HD.out, HG2⟩
          case measure => simp [intOf]; omega
    · have hF := Lib.hid (show R = true from HR'.out.2 (fun j hj => HG.out j hj (by omega)))
      have k1 : ¬ (k : Int) < (t.hyp.length : Int) := by omega
      have HD := Lib.hid hd
      clear hd
      go_wp2_with fail
      go_ret
      exact ⟨by rw [hF.out]; rfl, HB0.out.trans (HD.out.below _)⟩
end Go.Proofs.YtjlpmfimbgbcmaaDoor
