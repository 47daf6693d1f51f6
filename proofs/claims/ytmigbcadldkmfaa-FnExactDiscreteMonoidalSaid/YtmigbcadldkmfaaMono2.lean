/-
  The reference's MonoidCategory, l03Monoid, l03Made, l02Fits, and l35Whole, l35Monoid.
-/
import Derived.Test.YtmigbcadldkmfaaMono
namespace Go.Proofs.Ytmigbcadldkmfaa
open Go.RowKit

def MonRow (t : List (List Int)) (x : Nat) : Prop := ge t x 0 = x ∧ ge t 0 x = x ∧ ∀ y z, y < t.length → z < t.length → ge t (ge t x y).toNat z = ge t x (ge t y z).toNat
theorem mon_iff {t : List (List Int)} : Mon t ↔ 0 < t.length ∧ Sq t.length t ∧ ∀ x, x < t.length → MonRow t x :=
  ⟨fun M => ⟨M.pos, M.sq, fun x hx => ⟨(M.u x hx).1, (M.u x hx).2, fun y z hy hz => M.a x y z hx hy hz⟩⟩, fun h => ⟨h.1, h.2.1, fun x hx => ⟨(h.2.2 x hx).1, (h.2.2 x hx).2.1⟩, fun x y z hx hy hz => (h.2.2 x hx).2.2 y z hy hz⟩⟩
set_option maxHeartbeats 1600000 in
theorem c_l35Whole {w : World} {v : Value} {t : List (List Int)} (h : ISS w v t) (hsq : Sq t.length t) : Calls Try.prog 47 #[v, .int .i64 0] w (Rd w (.bool (dB (∀ x, x < t.length → MonRow t x)))) := by
  obtain ⟨ao, b, o, c, R, rfl, ha, hc, hr⟩ := h.ex
  have hlen := h.len
  obtain ⟨bR, oR, kR, hv⟩ := rows_view hr (fun i hi => (hsq i hi).1)
  obtain ⟨W0, hW0⟩ : ∃ W0 : World, W0 = w := ⟨_, rfl⟩
  subst hW0
  have HV := Lib.hid hv
  have HS := Lib.hid hsq
  have hc2 : ∀ i, i < t.length → W0.cell? ⟨b, o + i, none⟩ = some (.slice (some ⟨bR i, oR i, none⟩) t.length (kR i)) := fun i hi => by rw [hc i hi, (HV.out i hi).1]
  have HC := Lib.hid hc2
  clear h hr hv hsq hc hc2
  go_enter Try.func47, Try.ntmps47
  go_wp2_with fail
  go_loopw [5, 6, 7] (fun i _ _ wr => ∃ k m : Nat, k ≤ t.length ∧ i = .int .i64 k ∧ wr = W0.drewN m ∧ Hid (∀ x, x < k → MonRow t x)) (fun i _ _ _ => t.length - (intOf i).toNat)
  case atStart => first | exact ⟨0, 0, Nat.zero_le _, rfl, rfl, fun j hj => by omega⟩ | exact ⟨0, _, Nat.zero_le _, rfl, rfl, fun j hj => by omega⟩
  case round =>
    obtain ⟨x, m2, hx, rfl, rfl, hp⟩ := hrel
    by_cases hltx : x < t.length
    · obtain rfl := ha (by omega)
      have cr := HC.out x hltx
      have c0 := HC.out 0 (by omega)
      have ck := (HV.out x hltx).2 0 (by omega)
      have ck0 := (HV.out 0 (by omega)).2 x hltx
      simp only [Nat.add_zero] at c0 ck
      have p0 : (0 : Int) < (t.length : Int) := by omega
      have q0 : (0 : Int) ≤ (0 : Int) := by omega
      by_cases h1 : ge t 0 x = x
      · have h1b : (ge t 0 x != (x : Int)) = false := by simp [h1]
        by_cases h2 : ge t x 0 = x
        · have h2b : (ge t x 0 != (x : Int)) = false := by simp [h2]
          have H1 := Lib.hid h1
          have H2 := Lib.hid h2
          clear h1 h2
          go_wp2_with fail
          go_loopw [6, 7] (fun i _ wr => ∃ k m : Nat, k ≤ t.length ∧ i = .int .i64 k ∧ wr = W0.drewN m ∧ Hid (∀ y z, y < k → z < t.length → ge t (ge t x y).toNat z = ge t x (ge t y z).toNat)) (fun i _ _ => t.length - (intOf i).toNat)
          case atStart => exact ⟨0, _, Nat.zero_le _, rfl, rfl, fun y z hj => by omega⟩
          case round =>
            obtain ⟨y, m3, hy, rfl, rfl, hp2⟩ := hrel
            by_cases hlty : y < t.length
            · go_wp2_with fail
              go_loopw [7] (fun i wr => ∃ k m : Nat, k ≤ t.length ∧ i = .int .i64 k ∧ wr = W0.drewN m ∧ Hid (∀ z, z < k → ge t (ge t x y).toNat z = ge t x (ge t y z).toNat)) (fun i _ => t.length - (intOf i).toNat)
              case atStart => exact ⟨0, _, Nat.zero_le _, rfl, rfl, fun z hj => by omega⟩
              case round =>
                obtain ⟨z, m4, hz, rfl, rfl, hp3⟩ := hrel
                by_cases hltz : z < t.length
                · have e1 := HS.out.ent hltx hlty
                  have e2 := HS.out.ent hlty hltz
                  obtain ⟨p, hpe⟩ : ∃ p : Nat, ge t x y = (p : Int) := ⟨(ge t x y).toNat, by omega⟩
                  obtain ⟨q, hqe⟩ : ∃ q : Nat, ge t y z = (q : Int) := ⟨(ge t y z).toNat, by omega⟩
                  have hpl : p < t.length := by omega
                  have hql : q < t.length := by omega
                  have rx := HC.out x hltx
                  have ry := HC.out y hlty
                  have rp := HC.out p hpl
                  have cxy := (HV.out x hltx).2 y hlty
                  have cyz := (HV.out y hlty).2 z hltz
                  have cpz := (HV.out p hpl).2 z hltz
                  have cxq := (HV.out x hltx).2 q hql
                  rw [hpe] at cxy
                  rw [hqe] at cyz
                  have HP := Lib.hid hpe
                  have HQ := Lib.hid hqe
                  clear hpe hqe e1 e2 cr c0 ck ck0
                  by_cases he : ge t p z = ge t x q
                  · have heb : (ge t p z != ge t x q) = false := by simp [he]
                    have HE := Lib.hid he
                    clear he
                    go_wp2_with fail
                    go_quiet (fail)
                    go_wp2_with fail
                    go_roundw
                    case rel => exact ⟨z + 1, _, by omega, by go_num, rfl, fun j hj => by
                      by_cases e : j = z
                      · subst e; rw [HP.out, HQ.out]; simpa using HE.out
                      · exact hp3.out j (by omega)⟩
                    case measure => simp [intOf]; omega
                  · have heb : (ge t p z != ge t x q) = true := by simp [he]
                    have HE := Lib.hid he
                    clear he
                    go_wp2_with fail
                    go_quiet (fail)
                    go_wp2_with fail
                    go_ret
                    exact rd_bool (dB_f fun M => HE.out (by have := (M x hltx).2.2 y z hlty hltz; rw [HP.out, HQ.out] at this; simpa using this)) (by repeat (first | exact Drawn.refl _ | refine Drawn.step ?_ _ | refine Drawn.one ?_))
                · have hk' : t.length = z := by omega
                  subst hk'
                  have HZ := Lib.hid (show ∀ z, z < t.length → ge t (ge t x y).toNat z = ge t x (ge t y z).toNat from hp3.out)
                  clear hp3
                  go_wp2_with fail
                  go_roundw
                  case rel => exact ⟨y + 1, _, by omega, by go_num, rfl, fun j z hj hz => by
                    by_cases e : j = y
                    · subst e; exact HZ.out z hz
                    · exact hp2.out j z (by omega) hz⟩
                  case measure => simp [intOf]; omega
            · have hk' : t.length = y := by omega
              subst hk'
              have HY := Lib.hid (show ∀ y z, y < t.length → z < t.length → ge t (ge t x y).toNat z = ge t x (ge t y z).toNat from hp2.out)
              clear hp2
              go_wp2_with fail
              go_roundw
              case rel => exact ⟨x + 1, _, by omega, by go_num, rfl, fun j hj => by
                by_cases e : j = x
                · subst e; exact ⟨H2.out, H1.out, HY.out⟩
                · exact hp.out j (by omega)⟩
              case measure => simp [intOf]; omega
        · have h2b : (ge t x 0 != (x : Int)) = true := by simp [h2]
          have H2 := Lib.hid h2
          clear h1 h2
          go_wp2_with fail
          go_ret
          exact rd_bool (dB_f fun M => H2.out (M x hltx).1) (by repeat (first | exact Drawn.refl _ | refine Drawn.step ?_ _ | refine Drawn.one ?_))
      · have h1b : (ge t 0 x != (x : Int)) = true := by simp [h1]
        have H1 := Lib.hid h1
        clear h1
        go_wp2_with fail
        go_ret
        exact rd_bool (dB_f fun M => H1.out (M x hltx).2.1) (by repeat (first | exact Drawn.refl _ | refine Drawn.step ?_ _ | refine Drawn.one ?_))
    · have hk' : t.length = x := by omega
      subst hk'
      have HM := Lib.hid (show ∀ x, x < t.length → MonRow t x from hp.out)
      clear hp
      go_wp2_with fail
      go_ret
      exact rd_bool (dB_t HM.out) (by repeat (first | exact Drawn.refl _ | refine Drawn.step ?_ _ | refine Drawn.one ?_))
theorem c_l35Monoid {w : World} {v : Value} {t : List (List Int)} (h : ISS w v t) : Calls Try.prog 38 #[v] w (Rd w (.bool (dB (Mon t)))) := by
  have hlen := h.len
  have HQ := Lib.hid (fun W (hW : Drawn w W) => c_l03Square (h.drawn hW) (t.length : Int))
  have HW := Lib.hid (fun W (hW : Drawn w W) (hsq : Sq t.length t) => c_l35Whole (h.drawn hW) hsq)
  obtain ⟨ao, b, o, c, R, rfl, -⟩ := h.ex
  clear h
  by_cases h0 : 0 < t.length
  · have h0b : decide ((0 : Int) < (t.length : Int)) = true := decide_eq_true (by omega)
    by_cases hs : dB (Sq t.length t) = true
    · have hsq := dB_s hs
      have HH := Lib.hid (fun W (hW : Drawn w W) => HW.out W hW hsq)
      clear HW
      have HSQ := Lib.hid hsq
      have H0 := Lib.hid h0
      clear hsq
      go_enter Try.func38, Try.ntmps38
      go_wp2_with (first | (go_at_call 44; (with_reducible refine (HQ.out _ (by repeat (first | exact Drawn.refl _ | refine Drawn.step ?_ _ | refine Drawn.one ?_))).mono ?_); rintro e w' ⟨rfl, n1, rfl⟩) | (go_at_call 47; (with_reducible refine (HH.out _ (by repeat (first | exact Drawn.refl _ | refine Drawn.step ?_ _ | refine Drawn.one ?_))).mono ?_); rintro e w' ⟨rfl, n1, rfl⟩))
      go_ret
      exact rd_bool (dB_congr ⟨fun M => (mon_iff.1 M).2.2, fun a => mon_iff.2 ⟨H0.out, HSQ.out, a⟩⟩) (by repeat (first | exact Drawn.refl _ | refine Drawn.step ?_ _ | refine Drawn.one ?_))
    · have hs0 : dB (Mon t) = false := dB_f fun M => hs (dB_t M.sq)
      simp only [Bool.not_eq_true] at hs
      clear HW
      go_enter Try.func38, Try.ntmps38
      go_wp2_with (go_at_call 44; (with_reducible refine (HQ.out _ (by repeat (first | exact Drawn.refl _ | refine Drawn.step ?_ _ | refine Drawn.one ?_))).mono ?_); rintro e w' ⟨rfl, n1, rfl⟩)
      go_ret
      exact rd_bool hs0 (by repeat (first | exact Drawn.refl _ | refine Drawn.step ?_ _ | refine Drawn.one ?_))
  · have h0b : decide ((0 : Int) < (t.length : Int)) = false := decide_eq_false (by omega)
    have hs0 : dB (Mon t) = false := dB_f fun M => h0 M.pos
    clear HW HQ
    go_enter Try.func38, Try.ntmps38
    go_wp2_with fail
    go_ret
    exact rd_bool hs0 (by repeat (first | exact Drawn.refl _ | refine Drawn.step ?_ _ | refine Drawn.one ?_))
theorem c_l02Fits {w : World} {n : Int} {a : Option Addr} {k cc : Nat} {vt vi vc : Value} (hk : k ≤ 4294967296) : Calls Try.prog 43 #[.agg #[.int .i64 n, .slice a k cc, vt, vi, vc]] w (Ret w (.bool (decide (n ≤ 8) && decide (k ≤ 40)))) := by
  by_cases hn : n ≤ 8
  · have hnb : decide (n ≤ 8) = true := decide_eq_true hn
    clear hn
    go_enter Try.func43, Try.ntmps43
    go_wp2_with fail
    go_ret
    exact ⟨ret_b (by rw [hnb]; simp <;> omega), (bel_alloc (Below.refl _ _) _)⟩
  · have hnb : decide (n ≤ 8) = false := decide_eq_false hn
    clear hn
    go_enter Try.func43, Try.ntmps43
    go_wp2_with fail
    go_ret
    exact ⟨ret_b (by rw [hnb]; simp <;> omega), (bel_alloc (Below.refl _ _) _)⟩
/-- A category of the call's own made of t's length and rows, if t is not long. -/
def MonP (w w' : World) (u : Value) (t : List (List Int)) : Prop := ∃ aF kF aT nT kT aI nI kI aC nC kC, u = .agg #[.int .i64 1, .slice aF t.length kF, .slice aT nT kT, .slice aI nI kI, .slice aC nC kC] ∧ (t.length ≤ 1048576 ∧ pS (gr t) t.length ≤ 1099511627776 → OwnC w.heap.size w'.heap.size w' u (monC t))
theorem monP_of {w W : World} {t : List (List Int)} {aF aT aI aC : Option Addr} {kF nT kT nI kI nC kC : Nat} (hb : Below w.heap.size w W)
    (h : t.length ≤ 1048576 ∧ pS (gr t) t.length ≤ 1099511627776 → MkC w (monC t, 0) (.returned (.tuple #[.agg #[.int .i64 1, .slice aF t.length kF, .slice aT nT kT, .slice aI nI kI, .slice aC nC kC], .int .i64 0])) W) :
    Mk w (fun w' u => MonP w w' u t) (.returned (.agg #[.int .i64 1, .slice aF t.length kF, .slice aT nT kT, .slice aI nI kI, .slice aC nC kC])) W :=
  ⟨_, rfl, ⟨_, _, _, _, _, _, _, _, _, _, _, rfl, fun hl => (mkC_own (h hl)).1⟩, hb⟩
end Go.Proofs.Ytmigbcadldkmfaa
