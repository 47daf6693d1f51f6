/-
  Square tables of numbers and the tables of monoids: the program's isMonoid and the reference's tests.
-/
import Derived.Test.YtmigbcadldkmfaaSz
import Derived.Test.YtmigbcadldkmfaaSets1
namespace Go.Proofs.Ytmigbcadldkmfaa
open Go.RowKit

/-- A proposition as a Bool. -/
noncomputable def dB (p : Prop) : Bool := @decide p (Classical.propDecidable _)
theorem dB_t {p : Prop} (h : p) : dB p = true := @decide_eq_true _ (Classical.propDecidable _) h
theorem dB_f {p : Prop} (h : ¬ p) : dB p = false := @decide_eq_false _ (Classical.propDecidable _) h
theorem dB_s {p : Prop} (h : dB p = true) : p := @of_decide_eq_true _ (Classical.propDecidable _) h
theorem dB_n {p : Prop} (h : ¬ dB p = true) : ¬ p := fun x => h (dB_t x)
theorem dB_congr {p q : Prop} (h : p ↔ q) : dB p = dB q := by rw [propext h]
/-- Entry i, j of a table. -/
def ge (t : List (List Int)) (i j : Nat) : Int := gi (gr t i) j
/-- The rows of t are as long as t is, and hold numbers below m. -/
def Sq (m : Int) (t : List (List Int)) : Prop := ∀ i, i < t.length → (gr t i).length = t.length ∧ allIn m (gr t i) = true
structure Mon (t : List (List Int)) : Prop where
  pos : 0 < t.length
  sq : Sq t.length t
  u : ∀ i, i < t.length → ge t i 0 = i ∧ ge t 0 i = i
  a : ∀ i j k, i < t.length → j < t.length → k < t.length → ge t (ge t i j).toNat k = ge t i (ge t j k).toNat
theorem allIn_gi {m : Int} {xs : List Int} (h : allIn m xs = true) {j : Nat} (hj : j < xs.length) : 0 ≤ gi xs j ∧ gi xs j < m := by
  have := List.all_eq_true.1 h _ (gi_mem hj)
  simpa using this
theorem Sq.ent {m : Int} {t : List (List Int)} (h : Sq m t) {i j : Nat} (hi : i < t.length) (hj : j < t.length) : 0 ≤ ge t i j ∧ ge t i j < m :=
  allIn_gi (h i hi).2 (by rw [(h i hi).1]; exact hj)
theorem rows_view {w : World} {R : Nat → Value} {t : List (List Int)} (hr : ∀ i, i < t.length → IS w (R i) (gr t i)) (hl : ∀ i, i < t.length → (gr t i).length = t.length) :
    ∃ bR oR kR : Nat → Nat, ∀ i, i < t.length → R i = .slice (some ⟨bR i, oR i, none⟩) t.length (kR i) ∧ ∀ j, j < t.length → w.cell? ⟨bR i, oR i + j, none⟩ = some (.int .i64 (ge t i j)) := by
  have H : ∀ i, ∃ b o k : Nat, i < t.length → (R i = .slice (some ⟨b, o, none⟩) t.length k ∧ ∀ j, j < t.length → w.cell? ⟨b, o + j, none⟩ = some (.int .i64 (ge t i j))) := by
    intro i
    by_cases hi : i < t.length
    · obtain ⟨a, b, o, k, hv, ha, hc⟩ := (hr i hi).ex
      have e := hl i hi
      rw [e] at hv ha hc
      exact ⟨b, o, k, fun _ => ⟨by rw [hv, ha (by omega)], hc⟩⟩
    · exact ⟨0, 0, 0, fun h => absurd h hi⟩
  exact ⟨fun i => (H i).choose, fun i => (H i).choose_spec.choose, fun i => (H i).choose_spec.choose_spec.choose, fun i hi => (H i).choose_spec.choose_spec.choose_spec hi⟩
set_option maxHeartbeats 1600000 in
theorem c_isMonoid {w : World} {v : Value} {t : List (List Int)} (h : ISS w v t) : Calls Try.prog 40 #[v] w (Rd w (.bool (dB (Mon t)))) := by
  obtain ⟨ao, b, o, c, R, rfl, ha, hc, hr⟩ := h.ex
  have hlen := h.len
  have HR := Lib.hid hr
  clear h hr
  go_enter Try.func40, Try.ntmps40
  go_wp2_with fail
  go_loopw [5, 15] (fun _ i wr => ∃ k m : Nat, k ≤ t.length ∧ i = .int .i64 k ∧ wr = w.drewN m ∧ Hid (∀ j, j < k → (gr t j).length = t.length ∧ allIn t.length (gr t j) = true)) (fun _ i _ => t.length - (intOf i).toNat)
  case atStart => exact ⟨0, 0, Nat.zero_le _, rfl, rfl, fun j hj => by omega⟩
  case round =>
    obtain ⟨k, m, hk, rfl, rfl, hp⟩ := hrel
    by_cases hlt : k < t.length
    · obtain rfl := ha (by omega)
      have cx := hc k hlt
      obtain ⟨ai, bi, oi, ki, hv, -⟩ := (HR.out k hlt).ex
      have hq := fun W (hW : Drawn w W) => c_within ((HR.out k hlt).drawn hW) (t.length : Int) (by omega) (by omega)
      rw [hv] at cx hq
      have HW := Lib.hid hq
      clear hc hv hq
      by_cases hl : (gr t k).length = t.length
      · have hlb : (((gr t k).length : Int) != (t.length : Int)) = false := by simp [hl]
        have HL := Lib.hid hl
        clear hl
        by_cases hA : allIn t.length (gr t k) = true
        · go_wp2_with (go_at_call 49; (with_reducible refine (HW.out _ (by repeat (first | exact Drawn.refl _ | refine Drawn.step ?_ _ | refine Drawn.one ?_))).mono ?_); rintro e w' ⟨rfl, n1, rfl⟩)
          go_roundw
          case rel => exact ⟨k + 1, _, by omega, by go_num, rfl, fun j hj => by
            by_cases e : j = k
            · subst e; exact ⟨HL.out, hA⟩
            · exact hp.out j (by omega)⟩
          case measure => simp [intOf]; omega
        · simp only [Bool.not_eq_true] at hA
          go_wp2_with (go_at_call 49; (with_reducible refine (HW.out _ (by repeat (first | exact Drawn.refl _ | refine Drawn.step ?_ _ | refine Drawn.one ?_))).mono ?_); rintro e w' ⟨rfl, n1, rfl⟩)
          go_ret
          exact rd_bool (dB_f fun M => by have := (M.sq k hlt).2; rw [hA] at this; cases this) (by repeat (first | exact Drawn.refl _ | refine Drawn.step ?_ _ | refine Drawn.one ?_))
      · have hlb : (((gr t k).length : Int) != (t.length : Int)) = true := by simp; omega
        have HL := Lib.hid hl
        clear hl
        go_wp2_with fail
        go_ret
        exact rd_bool (dB_f fun M => HL.out (M.sq k hlt).1) (by repeat (first | exact Drawn.refl _ | refine Drawn.step ?_ _ | refine Drawn.one ?_))
    · have hk' : k = t.length := by omega
      subst hk'
      have hsq : Sq t.length t := hp.out
      obtain ⟨bR, oR, kR, hv⟩ := rows_view HR.out (fun i hi => (hsq i hi).1)
      have HV := Lib.hid hv
      have HS := Lib.hid hsq
      have hc2 : ∀ i, i < t.length → w.cell? ⟨b, o + i, none⟩ = some (.slice (some ⟨bR i, oR i, none⟩) t.length (kR i)) := fun i hi => by rw [hc i hi, (HV.out i hi).1]
      have HC := Lib.hid hc2
      clear hp hv hsq hc hc2
      go_wp2_with fail
      go_loopw [6, 7, 32] (fun _ _ i wr => ∃ k m : Nat, k ≤ t.length ∧ i = .int .i64 k ∧ wr = w.drewN m ∧ Hid (∀ j, j < k → ge t j 0 = j ∧ ge t 0 j = j)) (fun _ _ i _ => t.length - (intOf i).toNat)
      case atStart => exact ⟨0, _, Nat.zero_le _, rfl, rfl, fun j hj => by omega⟩
      case round =>
        obtain ⟨k, m', hk, rfl, rfl, hp⟩ := hrel
        by_cases hlt : k < t.length
        · obtain rfl := ha (by omega)
          have cr := HC.out k hlt
          have c0 := HC.out 0 (by omega)
          have ck := (HV.out k hlt).2 0 (by omega)
          have ck0 := (HV.out 0 (by omega)).2 k hlt
          simp only [Nat.add_zero] at c0 ck
          have p0 : (0 : Int) < (t.length : Int) := by omega
          by_cases h1 : ge t k 0 = k
          · have h1b : (ge t k 0 != (k : Int)) = false := by simp [h1]
            by_cases h2 : ge t 0 k = k
            · have h2b : (ge t 0 k != (k : Int)) = false := by simp [h2]
              have H1 := Lib.hid h1
              have H2 := Lib.hid h2
              clear h1 h2
              go_wp2_with fail
              go_roundw
              case rel => exact ⟨k + 1, _, by omega, by go_num, rfl, fun j hj => by
                by_cases e : j = k
                · subst e; exact ⟨H1.out, H2.out⟩
                · exact hp.out j (by omega)⟩
              case measure => simp [intOf]; omega
            · have h2b : (ge t 0 k != (k : Int)) = true := by simp [h2]
              have H2 := Lib.hid h2
              clear h1 h2
              go_wp2_with fail
              go_ret
              exact rd_bool (dB_f fun M => H2.out (M.u k hlt).2) (by repeat (first | exact Drawn.refl _ | refine Drawn.step ?_ _ | refine Drawn.one ?_))
          · have h1b : (ge t k 0 != (k : Int)) = true := by simp [h1]
            have H1 := Lib.hid h1
            clear h1
            go_wp2_with fail
            go_ret
            exact rd_bool (dB_f fun M => H1.out (M.u k hlt).1) (by repeat (first | exact Drawn.refl _ | refine Drawn.step ?_ _ | refine Drawn.one ?_))
        · have hk' : t.length = k := by omega
          subst hk'
          have HU := Lib.hid (show ∀ j, j < t.length → ge t j 0 = j ∧ ge t 0 j = j from hp.out)
          clear hp
          go_wp2_with fail
          go_loopw [8, 9, 10, 55] (fun _ _ _ i wr => ∃ k m : Nat, k ≤ t.length ∧ i = .int .i64 k ∧ wr = w.drewN m ∧ Hid (∀ x y z, x < k → y < t.length → z < t.length → ge t (ge t x y).toNat z = ge t x (ge t y z).toNat)) (fun _ _ _ i _ => t.length - (intOf i).toNat)
          case atStart => exact ⟨0, _, Nat.zero_le _, rfl, rfl, fun x y z hj => by omega⟩
          case round =>
            obtain ⟨x, m2, hx, rfl, rfl, hp⟩ := hrel
            by_cases hltx : x < t.length
            · obtain rfl := ha (by omega)
              go_wp2_with fail
              go_loopw [9, 10, 60] (fun _ _ i wr => ∃ k m : Nat, k ≤ t.length ∧ i = .int .i64 k ∧ wr = w.drewN m ∧ Hid (∀ y z, y < k → z < t.length → ge t (ge t x y).toNat z = ge t x (ge t y z).toNat)) (fun _ _ i _ => t.length - (intOf i).toNat)
              case atStart => exact ⟨0, _, Nat.zero_le _, rfl, rfl, fun y z hj => by omega⟩
              case round =>
                obtain ⟨y, m3, hy, rfl, rfl, hp2⟩ := hrel
                by_cases hlty : y < t.length
                · go_wp2_with fail
                  go_loopw [10, 65] (fun _ i wr => ∃ k m : Nat, k ≤ t.length ∧ i = .int .i64 k ∧ wr = w.drewN m ∧ Hid (∀ z, z < k → ge t (ge t x y).toNat z = ge t x (ge t y z).toNat)) (fun _ i _ => t.length - (intOf i).toNat)
                  case atStart => exact ⟨0, _, Nat.zero_le _, rfl, rfl, fun z hj => by omega⟩
                  case round =>
                    obtain ⟨z, m4, hz, rfl, rfl, hp3⟩ := hrel
                    by_cases hltz : z < t.length
                    · have e1 := HS.out.ent hltx hlty
                      have e2 := HS.out.ent hlty hltz
                      obtain ⟨p, hpe⟩ : ∃ p : Nat, ge t x y = (p : Int) := ⟨(ge t x y).toNat, by omega⟩
                      obtain ⟨q, hqe⟩ : ∃ q : Nat, ge t y z = (q : Int) := ⟨(ge t y z).toNat, by omega⟩
                      have hpl : p < t.length := by omega
                      have hql : q < t.length := by omega
                      have rx := HC.out x hltx
                      have ry := HC.out y hlty
                      have rp := HC.out p hpl
                      have cxy := (HV.out x hltx).2 y hlty
                      have cyz := (HV.out y hlty).2 z hltz
                      have cpz := (HV.out p hpl).2 z hltz
                      have cxq := (HV.out x hltx).2 q hql
                      rw [hpe] at cxy
                      rw [hqe] at cyz
                      have HP := Lib.hid hpe
                      have HQ := Lib.hid hqe
                      clear hpe hqe e1 e2
                      by_cases he : ge t p z = ge t x q
                      · have heb : (ge t p z != ge t x q) = false := by simp [he]
                        have HE := Lib.hid he
                        clear he
                        go_wp2_with fail
                        go_quiet (fail)
                        go_wp2_with fail
                        go_roundw
                        case rel => exact ⟨z + 1, _, by omega, by go_num, rfl, fun j hj => by
                          by_cases e : j = z
                          · subst e; rw [HP.out, HQ.out]; simpa using HE.out
                          · exact hp3.out j (by omega)⟩
                        case measure => simp [intOf]; omega
                      · have heb : (ge t p z != ge t x q) = true := by simp [he]
                        have HE := Lib.hid he
                        clear he
                        go_wp2_with fail
                        go_quiet (fail)
                        go_wp2_with fail
                        go_ret
                        exact rd_bool (dB_f fun M => HE.out (by have := M.a x y z hltx hlty hltz; rw [HP.out, HQ.out] at this; simpa using this)) (by repeat (first | exact Drawn.refl _ | refine Drawn.step ?_ _ | refine Drawn.one ?_))
                    · have hk' : t.length = z := by omega
                      subst hk'
                      have HZ := Lib.hid (show ∀ z, z < t.length → ge t (ge t x y).toNat z = ge t x (ge t y z).toNat from hp3.out)
                      clear hp3
                      go_wp2_with fail
                      go_roundw
                      case rel => exact ⟨y + 1, _, by omega, by go_num, rfl, fun j z hj hz => by
                        by_cases e : j = y
                        · subst e; exact HZ.out z hz
                        · exact hp2.out j z (by omega) hz⟩
                      case measure => simp [intOf]; omega
                · have hk' : t.length = y := by omega
                  subst hk'
                  have HY := Lib.hid (show ∀ y z, y < t.length → z < t.length → ge t (ge t x y).toNat z = ge t x (ge t y z).toNat from hp2.out)
                  clear hp2
                  go_wp2_with fail
                  go_roundw
                  case rel => exact ⟨x + 1, _, by omega, by go_num, rfl, fun j y z hj hy hz => by
                    by_cases e : j = x
                    · subst e; exact HY.out y z hy hz
                    · exact hp.out j y z (by omega) hy hz⟩
                  case measure => simp [intOf]; omega
            · have hk' : t.length = x := by omega
              subst hk'
              by_cases hpos : 0 < t.length
              · have hpb : decide ((0 : Int) < (t.length : Int)) = true := decide_eq_true (by omega)
                go_wp2_with fail
                go_ret
                exact rd_bool (dB_t ⟨hpos, HS.out, HU.out, hp.out⟩) (by repeat (first | exact Drawn.refl _ | refine Drawn.step ?_ _ | refine Drawn.one ?_))
              · have hpb : decide ((0 : Int) < (t.length : Int)) = false := decide_eq_false (by omega)
                go_wp2_with fail
                go_ret
                exact rd_bool (dB_f fun M => hpos M.pos) (by repeat (first | exact Drawn.refl _ | refine Drawn.step ?_ _ | refine Drawn.one ?_))
theorem c_l03Square {w : World} {v : Value} {t : List (List Int)} (h : ISS w v t) (q : Int) : Calls Try.prog 44 #[v, .int .i64 q] w (Rd w (.bool (dB (Sq q t)))) := by
  obtain ⟨ao, b, o, c, R, rfl, ha, hc, hr⟩ := h.ex
  have hlen := h.len
  have HR := Lib.hid hr
  clear h hr
  go_enter Try.func44, Try.ntmps44
  go_wp2_with fail
  go_loopw [5] (fun i wr => ∃ k m : Nat, k ≤ t.length ∧ i = .int .i64 k ∧ wr = w.drewN m ∧ Hid (∀ j, j < k → (gr t j).length = t.length ∧ allIn q (gr t j) = true)) (fun i _ => t.length - (intOf i).toNat)
  case atStart => exact ⟨0, 0, Nat.zero_le _, rfl, rfl, fun j hj => by omega⟩
  case round =>
    obtain ⟨k, m, hk, rfl, rfl, hp⟩ := hrel
    by_cases hlt : k < t.length
    · obtain rfl := ha (by omega)
      have cx := hc k hlt
      obtain ⟨ai, bi, oi, ki, hv, -⟩ := (HR.out k hlt).ex
      have hq := fun W (hW : Drawn w W) => c_l01Map ((HR.out k hlt).drawn hW) q
      rw [hv] at cx hq
      have HW := Lib.hid hq
      clear hc hv hq
      by_cases hl : (gr t k).length = t.length
      · have hlb : (((gr t k).length : Int) != (t.length : Int)) = false := by simp [hl]
        have HL := Lib.hid hl
        clear hl
        by_cases hA : allIn q (gr t k) = true
        · go_wp2_with (go_at_call 53; (with_reducible refine (HW.out _ (by repeat (first | exact Drawn.refl _ | refine Drawn.step ?_ _ | refine Drawn.one ?_))).mono ?_); rintro e w' ⟨rfl, n1, rfl⟩)
          go_roundw
          case rel => exact ⟨k + 1, _, by omega, by go_num, rfl, fun j hj => by
            by_cases e : j = k
            · subst e; exact ⟨HL.out, hA⟩
            · exact hp.out j (by omega)⟩
          case measure => simp [intOf]; omega
        · simp only [Bool.not_eq_true] at hA
          go_wp2_with (go_at_call 53; (with_reducible refine (HW.out _ (by repeat (first | exact Drawn.refl _ | refine Drawn.step ?_ _ | refine Drawn.one ?_))).mono ?_); rintro e w' ⟨rfl, n1, rfl⟩)
          go_ret
          exact rd_bool (dB_f fun M => by have := (M k hlt).2; rw [hA] at this; cases this) (by repeat (first | exact Drawn.refl _ | refine Drawn.step ?_ _ | refine Drawn.one ?_))
      · have hlb : (((gr t k).length : Int) != (t.length : Int)) = true := by simp; omega
        have HL := Lib.hid hl
        clear hl
        go_wp2_with fail
        go_ret
        exact rd_bool (dB_f fun M => HL.out (M k hlt).1) (by repeat (first | exact Drawn.refl _ | refine Drawn.step ?_ _ | refine Drawn.one ?_))
    · have hk' : t.length = k := by omega
      subst hk'
      go_wp2_with fail
      go_ret
      exact rd_bool (dB_t hp.out) (by repeat (first | exact Drawn.refl _ | refine Drawn.step ?_ _ | refine Drawn.one ?_))
end Go.Proofs.Ytmigbcadldkmfaa
