/-
  Preorders: the program's isPreorder and the reference's l03Preorder.
-/
import Derived.Test.YtmigbcadldkmfaaPos
import Derived.Laws.DeepBits32
namespace Go.Proofs.Ytmigbcadldkmfaa
open Go.RowKit

theorem and_even64 (x : Nat) (h : x < 18446744073709551616) : x &&& 18446744073709551614 = 2 * (x / 2) := by
  apply Nat.eq_of_testBit_eq
  intro i
  rw [Nat.testBit_and]
  cases i with
  | zero => simp [Nat.testBit_zero]
  | succ i =>
    rw [Nat.testBit_succ, Nat.testBit_succ, Nat.testBit_succ, show 18446744073709551614 / 2 = 2 ^ 63 - 1 by decide, Nat.testBit_two_pow_sub_one, show 2 * (x / 2) / 2 = x / 2 by omega]
    by_cases hi : i < 63
    · simp [hi]
    · have : (x / 2).testBit i = false := Nat.testBit_lt_two_pow (Nat.lt_of_lt_of_le (show x / 2 < 2 ^ 63 by omega) (Nat.pow_le_pow_right (by omega) (by omega)))
      simp [hi, this]
theorem andNot1 {x : Int} (h : I64 x) : (bits .andNot .i64 x 1 != 0) = !(decide (0 ≤ x ∧ x < 2)) := by
  obtain ⟨h1, h2⟩ := h
  have e : bits .andNot .i64 x 1 = IntKind.i64.wrap ((2 * ((x % 18446744073709551616).toNat / 2) : Nat) : Int) := by
    show IntKind.i64.wrap ((BitVec.ofInt 64 x &&& ~~~BitVec.ofInt 64 1).toNat : Int) = _
    have e1 : (BitVec.ofInt 64 1).toNat = 1 := by decide
    have e2 : (BitVec.ofInt 64 x).toNat = (x % 18446744073709551616).toNat := by rw [BitVec.toNat_ofInt]; rfl
    rw [BitVec.toNat_and, BitVec.toNat_not, e1, e2, show 2 ^ 64 - 1 - 1 = 18446744073709551614 by decide, and_even64 _ (by omega)]
  rw [e, IntKind.wrap_i64]
  by_cases hx : 0 ≤ x ∧ x < 2
  · rw [decide_eq_true hx]
    simp
    omega
  · rw [decide_eq_false hx]
    simp
    omega
set_option maxHeartbeats 3200000 in
theorem c_isPreorder {w : World} {v : Value} {t : List (List Int)} (h : ISS w v t) : Calls Try.prog 34 #[v] w (Rd w (.bool (dB (Pre t)))) := by
  obtain ⟨ao, b, o, c, R, rfl, ha, hc, hr⟩ := h.ex
  have hlen := h.len
  have HR := Lib.hid hr
  clear h hr
  go_enter Try.func34, Try.ntmps34
  go_wp2_with fail
  go_loopw [4, 5, 7, 15] (fun _ _ _ i wr => ∃ k m : Nat, k ≤ t.length ∧ i = .int .i64 k ∧ wr = w.drewN m ∧ Hid (∀ j, j < k → ((gr t j).length = t.length ∧ allIn 2 (gr t j) = true) ∧ ge t j j = 1)) (fun _ _ _ i _ => t.length - (intOf i).toNat)
  case atStart => exact ⟨0, 0, Nat.zero_le _, rfl, rfl, fun j hj => by omega⟩
  case round =>
    obtain ⟨k, m, hk, rfl, rfl, hp⟩ := hrel
    by_cases hlt : k < t.length
    · obtain rfl := ha (by omega)
      have cx := hc k hlt
      obtain ⟨ai, bi, oi, ki, hv, hai, hci⟩ := (HR.out k hlt).ex
      have HWF := Lib.hid (HR.out k hlt).wf
      have hli := (HR.out k hlt).len
      rw [hv] at cx
      clear hc hv
      by_cases hl : (gr t k).length = t.length
      · have hlb : (((gr t k).length : Int) != (t.length : Int)) = false := by simp [hl]
        have HL := Lib.hid hl
        have hkl : k < (gr t k).length := by omega
        clear hl
        go_wp2_with fail
        go_loopw [7, 26] (fun _ i wr => ∃ l m : Nat, l ≤ (gr t k).length ∧ i = .int .i64 l ∧ wr = w.drewN m ∧ Hid (∀ j, j < l → 0 ≤ gi (gr t k) j ∧ gi (gr t k) j < 2)) (fun _ i _ => (gr t k).length - (intOf i).toNat)
        case atStart => exact ⟨0, _, Nat.zero_le _, rfl, rfl, fun j hj => by omega⟩
        case round =>
          obtain ⟨l, m2, hl2, rfl, rfl, hp2⟩ := hrel
          by_cases hll : l < (gr t k).length
          · obtain rfl := hai (by omega)
            have cy := hci l hll
            have hab := andNot1 (HWF.out _ (gi_mem hll))
            clear cx hci
            by_cases hx : 0 ≤ gi (gr t k) l ∧ gi (gr t k) l < 2
            · rw [decide_eq_true hx] at hab
              have HX := Lib.hid hx
              clear hx
              simp only [Bool.not_true] at hab
              go_wp2_with fail
              go_roundw
              case rel => exact ⟨l + 1, _, by omega, by go_num, rfl, fun j hj => by
                by_cases e : j = l
                · subst e; exact HX.out
                · exact hp2.out j (by omega)⟩
              case measure => simp [intOf]; omega
            · rw [decide_eq_false hx] at hab
              have HX := Lib.hid hx
              clear hx
              simp only [Bool.not_false] at hab
              go_wp2_with fail
              go_ret
              exact rd_bool (dB_f fun M => HX.out (allIn_gi (M.sq k hlt).2 hll)) (by repeat (first | exact Drawn.refl _ | refine Drawn.step ?_ _ | refine Drawn.one ?_))
          · have hle : (gr t k).length = l := by omega
            have HP2 : Hid (allIn 2 (gr t k) = true) := allIn_of fun j hj => hp2.out j (by omega)
            have hrow : t.length = l := by have := HL.out; omega
            obtain rfl := hai (by omega)
            have cy := hci k hkl
            clear hp2 cx hci
            by_cases hx : gi (gr t k) k = 1
            · have hxb : (gi (gr t k) k != 1) = false := by simp [hx]
              have HX := Lib.hid hx
              have HRW := Lib.hid hrow
              have HLE := Lib.hid hle
              have hnl : ¬ l < (gr t k).length := hll
              clear hx hrow hle
              go_wp2_with fail
              go_roundw
              case rel => exact ⟨k + 1, _, by omega, by go_num, rfl, fun j hj => by
                by_cases e : j = k
                · subst e; exact ⟨⟨HL.out, HP2.out⟩, HX.out⟩
                · exact hp.out j (by omega)⟩
              case measure => simp [intOf]; omega
            · have hxb : (gi (gr t k) k != 1) = true := by simp [hx]
              have HX := Lib.hid hx
              have HRW := Lib.hid hrow
              have HLE := Lib.hid hle
              have hnl : ¬ l < (gr t k).length := hll
              clear hx hrow hle
              go_wp2_with fail
              go_ret
              exact rd_bool (dB_f fun M => HX.out (M.u k hlt)) (by repeat (first | exact Drawn.refl _ | refine Drawn.step ?_ _ | refine Drawn.one ?_))
      · have hlb : (((gr t k).length : Int) != (t.length : Int)) = true := by simp; omega
        have HL := Lib.hid hl
        clear hl
        go_wp2_with fail
        go_ret
        exact rd_bool (dB_f fun M => HL.out (M.sq k hlt).1) (by repeat (first | exact Drawn.refl _ | refine Drawn.step ?_ _ | refine Drawn.one ?_))
    · have hk' : k = t.length := by omega
      subst hk'
      have hsq : Sq 2 t := fun i hi => (hp.out i hi).1
      have HU := Lib.hid (fun i hi => (hp.out i hi).2)
      obtain ⟨bR, oR, kR, hv⟩ := rows_view HR.out (fun i hi => (hsq i hi).1)
      have HV := Lib.hid hv
      have HS := Lib.hid hsq
      have hc2 : ∀ i, i < t.length → w.cell? ⟨b, o + i, none⟩ = some (.slice (some ⟨bR i, oR i, none⟩) t.length (kR i)) := fun i hi => by rw [hc i hi, (HV.out i hi).1]
      have HC := Lib.hid hc2
      clear hp hv hsq hc hc2
      go_wp2_with fail
      go_loopw [8, 9, 10, 42] (fun _ _ _ i wr => ∃ k m : Nat, k ≤ t.length ∧ i = .int .i64 k ∧ wr = w.drewN m ∧ Hid (∀ x y z, x < k → y < t.length → z < t.length → ge t x y = 1 → ge t y z = 1 → ge t x z = 1)) (fun _ _ _ i _ => t.length - (intOf i).toNat)
      case atStart => exact ⟨0, _, Nat.zero_le _, rfl, rfl, fun x y z hj => by omega⟩
      case round =>
        obtain ⟨x, m2, hx, rfl, rfl, hp⟩ := hrel
        by_cases hltx : x < t.length
        · obtain rfl := ha (by omega)
          go_wp2_with fail
          go_loopw [9, 10, 47] (fun _ _ i wr => ∃ k m : Nat, k ≤ t.length ∧ i = .int .i64 k ∧ wr = w.drewN m ∧ Hid (∀ y z, y < k → z < t.length → ge t x y = 1 → ge t y z = 1 → ge t x z = 1)) (fun _ _ i _ => t.length - (intOf i).toNat)
          case atStart => exact ⟨0, _, Nat.zero_le _, rfl, rfl, fun y z hj => by omega⟩
          case round =>
            obtain ⟨y, m3, hy, rfl, rfl, hp2⟩ := hrel
            by_cases hlty : y < t.length
            · have rx := HC.out x hltx
              have cxy := (HV.out x hltx).2 y hlty
              have bxy := HS.out.ent hltx hlty
              by_cases h0 : ge t x y = 0
              · have h0b : (ge t x y == 0) = true := by simp [h0]
                have H0 := Lib.hid h0
                clear h0
                go_wp2_with fail
                go_roundw
                case rel => exact ⟨y + 1, _, by omega, by go_num, rfl, fun j z hj hz => by
                  by_cases e : j = y
                  · subst e; intro q; rw [H0.out] at q; omega
                  · exact hp2.out j z (by omega) hz⟩
                case measure => simp [intOf]; omega
              · have h0b : (ge t x y == 0) = false := by simp [h0]
                have H1 : Hid (ge t x y = 1) := show ge t x y = 1 by omega
                clear h0
                go_wp2_with fail
                clear cxy rx bxy
                go_loopw [10, 60] (fun _ i wr => ∃ k m : Nat, k ≤ t.length ∧ i = .int .i64 k ∧ wr = w.drewN m ∧ Hid (∀ z, z < k → ge t y z = 1 → ge t x z = 1)) (fun _ i _ => t.length - (intOf i).toNat)
                case atStart => exact ⟨0, _, Nat.zero_le _, rfl, rfl, fun z hj => by omega⟩
                case round =>
                  obtain ⟨z, m4, hz, rfl, rfl, hp3⟩ := hrel
                  by_cases hltz : z < t.length
                  · have rx := HC.out x hltx
                    have ry := HC.out y hlty
                    have cyz := (HV.out y hlty).2 z hltz
                    have cxz := (HV.out x hltx).2 z hltz
                    have byz := HS.out.ent hlty hltz
                    have bxz := HS.out.ent hltx hltz
                    by_cases he : ge t x z < ge t y z
                    · have heb : decide (ge t x z < ge t y z) = true := decide_eq_true he
                      have HE := Lib.hid he
                      clear he
                      have HB1 := Lib.hid byz
                      have HB2 := Lib.hid bxz
                      clear byz bxz
                      go_wp2_with fail
                      go_quiet (fail)
                      go_wp2_with fail
                      go_ret
                      exact rd_bool (dB_f fun M => by have := HE.out; have := HB1.out; have := HB2.out; have := M.a x y z hltx hlty hltz H1.out (by omega); omega) (by repeat (first | exact Drawn.refl _ | refine Drawn.step ?_ _ | refine Drawn.one ?_))
                    · have heb : decide (ge t x z < ge t y z) = false := decide_eq_false he
                      have HE := Lib.hid he
                      clear he
                      have HB1 := Lib.hid byz
                      have HB2 := Lib.hid bxz
                      clear byz bxz
                      go_wp2_with fail
                      go_quiet (fail)
                      go_wp2_with fail
                      go_roundw
                      case rel => exact ⟨z + 1, _, by omega, by go_num, rfl, fun j hj => by
                        by_cases e : j = z
                        · subst e; intro q; have := HE.out; have := HB1.out; have := HB2.out; omega
                        · exact hp3.out j (by omega)⟩
                      case measure => simp [intOf]; omega
                  · have hk' : t.length = z := by omega
                    subst hk'
                    have HZ := Lib.hid (show ∀ z, z < t.length → ge t y z = 1 → ge t x z = 1 from hp3.out)
                    clear hp3
                    go_wp2_with fail
                    go_roundw
                    case rel => exact ⟨y + 1, _, by omega, by go_num, rfl, fun j z hj hz => by
                      by_cases e : j = y
                      · subst e; intro _; exact HZ.out z hz
                      · exact hp2.out j z (by omega) hz⟩
                    case measure => simp [intOf]; omega
            · have hk' : t.length = y := by omega
              subst hk'
              have HY := Lib.hid (show ∀ y z, y < t.length → z < t.length → ge t x y = 1 → ge t y z = 1 → ge t x z = 1 from hp2.out)
              clear hp2
              go_wp2_with fail
              go_roundw
              case rel => exact ⟨x + 1, _, by omega, by go_num, rfl, fun j y z hj hy hz => by
                by_cases e : j = x
                · subst e; exact HY.out y z hy hz
                · exact hp.out j y z (by omega) hy hz⟩
              case measure => simp [intOf]; omega
        · have hk' : t.length = x := by omega
          subst hk'
          go_wp2_with fail
          go_ret
          exact rd_bool (dB_t ⟨HS.out, HU.out, fun i j k hi hj hk => hp.out i j k hi hj hk⟩) (by repeat (first | exact Drawn.refl _ | refine Drawn.step ?_ _ | refine Drawn.one ?_))
set_option maxHeartbeats 3200000 in
theorem c_l03Preorder {w : World} {v : Value} {t : List (List Int)} (h : ISS w v t) : Calls Try.prog 32 #[v] w (Rd w (.bool (dB (Pre t)))) := by
  have HQ := Lib.hid (c_l03Square h 2)
  obtain ⟨ao, b, o, c, R, rfl, ha, hc, hr⟩ := h.ex
  have hlen := h.len
  have HR := Lib.hid hr
  clear h hr
  by_cases hsq : dB (Sq 2 t) = true
  · have HB := Lib.hid hsq
    replace hsq := dB_s hsq
    obtain ⟨bR, oR, kR, hv⟩ := rows_view HR.out (fun i hi => (hsq i hi).1)
    have HV := Lib.hid hv
    have HS := Lib.hid hsq
    have hc2 : ∀ i, i < t.length → w.cell? ⟨b, o + i, none⟩ = some (.slice (some ⟨bR i, oR i, none⟩) t.length (kR i)) := fun i hi => by rw [hc i hi, (HV.out i hi).1]
    have HC := Lib.hid hc2
    clear hv hsq hc hc2
    go_enter Try.func32, Try.ntmps32
    go_wp2_with fail
    refine HQ.out.mono ?_
    rintro e w' ⟨rfl, n1, rfl⟩
    rw [HB.out]
    go_wp2_with fail
    go_loopw [3, 4, 5] (fun i _ _ wr => ∃ k m : Nat, k ≤ t.length ∧ i = .int .i64 k ∧ wr = w.drewN m ∧ Hid ((∀ j, j < k → ge t j j = 1) ∧ ∀ x y z, x < k → y < t.length → z < t.length → ge t x y = 1 → ge t y z = 1 → ge t x z = 1)) (fun i _ _ _ => t.length - (intOf i).toNat)
    case atStart => exact ⟨0, _, Nat.zero_le _, rfl, rfl, fun j hj => by omega, fun x y z hj => by omega⟩
    case round =>
      obtain ⟨x, m2, hx, rfl, rfl, hp⟩ := hrel
      by_cases hltx : x < t.length
      · obtain rfl := ha (by omega)
        have rx := HC.out x hltx
        have cxx := (HV.out x hltx).2 x hltx
        by_cases hu : ge t x x = 1
        · have hub : (ge t x x != 1) = false := by simp [hu]
          have HU := Lib.hid hu
          clear hu
          go_wp2_with fail
          clear rx cxx
          go_loopw [4, 5] (fun i _ wr => ∃ k m : Nat, k ≤ t.length ∧ i = .int .i64 k ∧ wr = w.drewN m ∧ Hid (∀ y z, y < k → z < t.length → ge t x y = 1 → ge t y z = 1 → ge t x z = 1)) (fun i _ _ => t.length - (intOf i).toNat)
          case atStart => exact ⟨0, _, Nat.zero_le _, rfl, rfl, fun y z hj => by omega⟩
          case round =>
            obtain ⟨y, m3, hy, rfl, rfl, hp2⟩ := hrel
            by_cases hlty : y < t.length
            · go_wp2_with fail
              go_loopw [5] (fun i wr => ∃ k m : Nat, k ≤ t.length ∧ i = .int .i64 k ∧ wr = w.drewN m ∧ Hid (∀ z, z < k → ge t x y = 1 → ge t y z = 1 → ge t x z = 1)) (fun i _ => t.length - (intOf i).toNat)
              case atStart => exact ⟨0, _, Nat.zero_le _, rfl, rfl, fun z hj => by omega⟩
              case round =>
                obtain ⟨z, m4, hz, rfl, rfl, hp3⟩ := hrel
                by_cases hltz : z < t.length
                · have rx := HC.out x hltx
                  have ry := HC.out y hlty
                  have cxy := (HV.out x hltx).2 y hlty
                  have cyz := (HV.out y hlty).2 z hltz
                  have cxz := (HV.out x hltx).2 z hltz
                  by_cases h1 : ge t x y = 1
                  · have h1b : (ge t x y == 1) = true := by simp [h1]
                    have H1 := Lib.hid h1
                    clear h1
                    by_cases h2 : ge t y z = 1
                    · have h2b : (ge t y z == 1) = true := by simp [h2]
                      have H2 := Lib.hid h2
                      clear h2
                      by_cases h3 : ge t x z = 1
                      · have h3b : (ge t x z != 1) = false := by simp [h3]
                        have H3 := Lib.hid h3
                        clear h3
                        go_wp2_with fail
                        go_roundw
                        case rel => exact ⟨z + 1, _, by omega, by go_num, rfl, fun j hj => by
                          by_cases e : j = z
                          · subst e; intro _ _; exact H3.out
                          · exact hp3.out j (by omega)⟩
                        case measure => simp [intOf]; omega
                      · have h3b : (ge t x z != 1) = true := by simp [h3]
                        have H3 := Lib.hid h3
                        clear h3
                        go_wp2_with fail
                        go_ret
                        exact rd_bool (dB_f fun M => H3.out (M.a x y z hltx hlty hltz H1.out H2.out)) (by repeat (first | exact Drawn.refl _ | refine Drawn.step ?_ _ | refine Drawn.one ?_))
                    · have h2b : (ge t y z == 1) = false := by simp [h2]
                      have H2 := Lib.hid h2
                      clear h2
                      go_wp2_with fail
                      go_roundw
                      case rel => exact ⟨z + 1, _, by omega, by go_num, rfl, fun j hj => by
                        by_cases e : j = z
                        · subst e; intro _ q; exact absurd q H2.out
                        · exact hp3.out j (by omega)⟩
                      case measure => simp [intOf]; omega
                  · have h1b : (ge t x y == 1) = false := by simp [h1]
                    have H1 := Lib.hid h1
                    clear h1
                    go_wp2_with fail
                    go_roundw
                    case rel => exact ⟨z + 1, _, by omega, by go_num, rfl, fun j hj => by
                      by_cases e : j = z
                      · subst e; intro q; exact absurd q H1.out
                      · exact hp3.out j (by omega)⟩
                    case measure => simp [intOf]; omega
                · have hk' : t.length = z := by omega
                  subst hk'
                  have HZ := Lib.hid (show ∀ z, z < t.length → ge t x y = 1 → ge t y z = 1 → ge t x z = 1 from hp3.out)
                  clear hp3
                  go_wp2_with fail
                  go_roundw
                  case rel => exact ⟨y + 1, _, by omega, by go_num, rfl, fun j z hj hz => by
                    by_cases e : j = y
                    · subst e; exact HZ.out z hz
                    · exact hp2.out j z (by omega) hz⟩
                  case measure => simp [intOf]; omega
            · have hk' : t.length = y := by omega
              subst hk'
              have HY := Lib.hid (show ∀ y z, y < t.length → z < t.length → ge t x y = 1 → ge t y z = 1 → ge t x z = 1 from hp2.out)
              clear hp2
              go_wp2_with fail
              go_roundw
              case rel => exact ⟨x + 1, _, by omega, by go_num, rfl, fun j hj => (by
                  by_cases e : j = x
                  · subst e; exact HU.out
                  · exact hp.out.1 j (by omega)), fun j y z hj hy hz => (by
                  by_cases e : j = x
                  · subst e; exact HY.out y z hy hz
                  · exact hp.out.2 j y z (by omega) hy hz)⟩
              case measure => simp [intOf]; omega
        · have hub : (ge t x x != 1) = true := by simp [hu]
          have HU := Lib.hid hu
          clear hu
          go_wp2_with fail
          go_ret
          exact rd_bool (dB_f fun M => HU.out (M.u x hltx)) (by repeat (first | exact Drawn.refl _ | refine Drawn.step ?_ _ | refine Drawn.one ?_))
      · have hk' : t.length = x := by omega
        subst hk'
        go_wp2_with fail
        go_ret
        exact rd_bool (dB_t ⟨HS.out, hp.out.1, fun i j k hi hj hk => hp.out.2 i j k hi hj hk⟩) (by repeat (first | exact Drawn.refl _ | refine Drawn.step ?_ _ | refine Drawn.one ?_))
  · simp only [Bool.not_eq_true] at hsq
    go_enter Try.func32, Try.ntmps32
    go_wp2_with fail
    refine HQ.out.mono ?_
    rintro e w' ⟨rfl, n1, rfl⟩
    rw [hsq]
    go_wp2_with fail
    go_ret
    exact rd_bool (dB_f fun M => by have := dB_t M.sq; rw [hsq] at this; cases this) (by repeat (first | exact Drawn.refl _ | refine Drawn.step ?_ _ | refine Drawn.one ?_))
end Go.Proofs.Ytmigbcadldkmfaa
