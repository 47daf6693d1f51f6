/-
  Chapter 1: TupleNumber, TupleAt of program and reference.
-/
import Derived.Test.YtocgbhcfnphnhaaSets3
import Derived.Test.YtocgbhcfnphnhaaTuplePlain
namespace Go.Proofs.Ytocgbhcfnphnhaa
open Go.RowKit

theorem c_areSizes {w : World} {v : Value} {xs : List Int} (h : IS w v xs) : Calls Try.prog 41 #[v] w (Rd w (.bool (sizesOk xs))) := by
  obtain ⟨ao, b, o, c, rfl, ha, hc⟩ := h.ex
  have hlen := h.len
  clear h
  go_enter Try.func41, Try.ntmps41
  go_wp2
  go_loopw [4, 7] (fun _ i wr => ∃ k m : Nat, k ≤ xs.length ∧ i = .int .i64 k ∧ wr = w.drewN m ∧ Hid (sizesOk xs = sizesOk (xs.drop k))) (fun _ i _ => xs.length - (intOf i).toNat)
  case atStart => exact ⟨0, 0, Nat.zero_le _, rfl, rfl, rfl⟩
  case round =>
    obtain ⟨k, m, hk, rfl, rfl, hp⟩ := hrel
    by_cases hlt : k < xs.length
    · obtain rfl := ha (by omega)
      have cx := hc k hlt
      clear hc
      have hs := Lib.hid (drop_gi hlt)
      by_cases he : inR (gi xs k) 0 256 = true
      · go_wp2_with (go_at_call 56; (with_reducible refine (c_isSize _ _).mono ?_); rintro e w' ⟨rfl, n1, rfl⟩)
        go_roundw
        case rel => exact ⟨k + 1, _, by omega, by go_num, rfl, by unfold Hid; rw [hp.out, hs.out]; simp only [sizesOk, List.all_cons]; rw [show decide (0 ≤ gi xs k ∧ gi xs k ≤ 256) = true from he]; rfl⟩
        case measure => simp [intOf]; omega
      · go_wp2_with (go_at_call 56; (with_reducible refine (c_isSize _ _).mono ?_); rintro e w' ⟨rfl, n1, rfl⟩)
        go_ret
        exact rd_bool (by rw [hp.out, hs.out]; simp only [sizesOk, List.all_cons]; rw [show decide (0 ≤ gi xs k ∧ gi xs k ≤ 256) = false from by simpa [inR] using he]; rfl) (by repeat (first | exact Drawn.refl _ | refine Drawn.step ?_ _ | refine Drawn.one ?_))
    · have hk' : k = xs.length := by omega
      subst hk'
      go_wp2_with fail
      go_ret
      exact rd_bool (by rw [hp.out, List.drop_length]; rfl) (by repeat (first | exact Drawn.refl _ | refine Drawn.step ?_ _ | refine Drawn.one ?_))
theorem c_l01Sizes {w : World} {v : Value} {xs : List Int} (h : IS w v xs) : Calls Try.prog 44 #[v] w (Rd w (.bool (sizesOk xs))) := by
  obtain ⟨ao, b, o, c, rfl, ha, hc⟩ := h.ex
  have hlen := h.len
  clear h
  go_enter Try.func44, Try.ntmps44
  go_wp2
  go_loopw [3] (fun i wr => ∃ k m : Nat, k ≤ xs.length ∧ i = .int .i64 k ∧ wr = w.drewN m ∧ Hid (sizesOk xs = sizesOk (xs.drop k))) (fun i _ => xs.length - (intOf i).toNat)
  case atStart => exact ⟨0, 0, Nat.zero_le _, rfl, rfl, rfl⟩
  case round =>
    obtain ⟨k, m, hk, rfl, rfl, hp⟩ := hrel
    by_cases hlt : k < xs.length
    · obtain rfl := ha (by omega)
      have cx := hc k hlt
      clear hc
      have hs := Lib.hid (drop_gi hlt)
      by_cases he : inR (gi xs k) 0 256 = true
      · go_wp2_with (go_at_call 67; (with_reducible refine (c_l01Size _ _).mono ?_); rintro e w' ⟨rfl, n1, rfl⟩)
        go_roundw
        case rel => exact ⟨k + 1, _, by omega, by go_num, rfl, by unfold Hid; rw [hp.out, hs.out]; simp only [sizesOk, List.all_cons]; rw [show decide (0 ≤ gi xs k ∧ gi xs k ≤ 256) = true from he]; rfl⟩
        case measure => simp [intOf]; omega
      · go_wp2_with (go_at_call 67; (with_reducible refine (c_l01Size _ _).mono ?_); rintro e w' ⟨rfl, n1, rfl⟩)
        go_ret
        exact rd_bool (by rw [hp.out, hs.out]; simp only [sizesOk, List.all_cons]; rw [show decide (0 ≤ gi xs k ∧ gi xs k ≤ 256) = false from by simpa [inR] using he]; rfl) (by repeat (first | exact Drawn.refl _ | refine Drawn.step ?_ _ | refine Drawn.one ?_))
    · have hk' : k = xs.length := by omega
      subst hk'
      go_wp2_with fail
      go_ret
      exact rd_bool (by rw [hp.out, List.drop_length]; rfl) (by repeat (first | exact Drawn.refl _ | refine Drawn.step ?_ _ | refine Drawn.one ?_))
theorem c_tupleCount {w : World} {v : Value} {xs : List Int} (h : IS w v xs) (hok : sizesOk xs = true) : Calls Try.prog 42 #[v] w (Rd w (.int .i64 (tcF xs 1))) := by
  obtain ⟨ao, b, o, c, rfl, ha, hc⟩ := h.ex
  have hlen := h.len
  have HS := Lib.hid (fun i hi => sizesOk_gi hok (i := i) hi)
  clear h hok
  go_enter Try.func42, Try.ntmps42
  go_wp2
  go_loopw [3, 5, 8] (fun q _ i wr => ∃ (k m : Nat) (cc : Int), k ≤ xs.length ∧ i = .int .i64 k ∧ wr = w.drewN m ∧ q = .int .i64 cc ∧ 0 ≤ cc ∧ cc ≤ 256000000000000 ∧ Hid (tcF xs 1 = tcF (xs.drop k) cc)) (fun _ _ i _ => xs.length - (intOf i).toNat)
  case atStart => exact ⟨0, 0, 1, Nat.zero_le _, rfl, rfl, rfl, by omega, by omega, rfl⟩
  case round =>
    obtain ⟨k, m, cc, hk, rfl, rfl, rfl, hc0, hc1, hp⟩ := hrel
    by_cases hlt : k < xs.length
    · obtain rfl := ha (by omega)
      have cx := hc k hlt
      have hsz := HS.out k hlt
      clear hc
      have hs := Lib.hid (drop_gi hlt)
      by_cases he : gi xs k = 0
      · have heb : (gi xs k == 0) = true := by simp [he]
        have HE := Lib.hid he
        clear he
        go_wp2
        go_ret
        exact rd_int (by rw [hp.out, hs.out, tcF, if_pos HE.out]) (by repeat (first | exact Drawn.refl _ | refine Drawn.step ?_ _ | refine Drawn.one ?_))
      · have heb : (gi xs k == 0) = false := by simp [he]
        have HE := Lib.hid he
        clear he
        by_cases hcc : cc ≤ 1000000000000
        · have hm0 := Int.mul_nonneg hc0 hsz.1
          have hm1 : cc * gi xs k ≤ 1000000000000 * 256 := Int.mul_le_mul hcc hsz.2 hsz.1 (by omega)
          go_wp2
          go_roundw
          case rel => exact ⟨k + 1, _, cc * gi xs k, by omega, by go_num, rfl, rfl, by omega, by omega, by unfold Hid; rw [hp.out, hs.out, tcF, if_neg HE.out, if_pos hcc]⟩
          case measure => simp [intOf]; omega
        · go_wp2
          go_roundw
          case rel => exact ⟨k + 1, _, cc, by omega, by go_num, rfl, rfl, by omega, by omega, by unfold Hid; rw [hp.out, hs.out, tcF, if_neg HE.out, if_neg (by omega)]⟩
          case measure => simp [intOf]; omega
    · have hk' : k = xs.length := by omega
      subst hk'
      by_cases hcc : cc ≤ 1000000000001
      all_goals
        go_wp2_with fail
        go_ret
        exact rd_int (by rw [hp.out, List.drop_length, tcF]; omega) (by repeat (first | exact Drawn.refl _ | refine Drawn.step ?_ _ | refine Drawn.one ?_))
theorem c_l01Total {w : World} {v : Value} {xs : List Int} (h : IS w v xs) (hok : sizesOk xs = true) : Calls Try.prog 38 #[v] w (Rd w (.int .i64 (total xs))) := by
  obtain ⟨ao, b, o, c, rfl, ha, hc⟩ := h.ex
  have hlen := h.len
  have HOK := Lib.hid hok
  have HS := Lib.hid (fun i hi => sizesOk_gi hok (i := i) hi)
  clear h hok
  go_enter Try.func38, Try.ntmps38
  go_wp2
  go_loopw [3] (fun i wr => ∃ (k m : Nat), k ≤ xs.length ∧ i = .int .i64 k ∧ wr = w.drewN m ∧ Hid (hasZero xs = hasZero (xs.drop k))) (fun i _ => xs.length - (intOf i).toNat)
  case atStart => exact ⟨0, 0, Nat.zero_le _, rfl, rfl, rfl⟩
  case round =>
    obtain ⟨k, m, hk, rfl, rfl, hp⟩ := hrel
    by_cases hlt : k < xs.length
    · obtain rfl := ha (by omega)
      have cx := hc k hlt
      have hs := Lib.hid (drop_gi hlt)
      by_cases he : gi xs k = 0
      · have heb : (gi xs k == 0) = true := by simp [he]
        have HE := Lib.hid he
        clear he hc
        go_wp2
        go_ret
        exact rd_int (by rw [total, if_pos (by rw [hp.out, hs.out, hasZero, if_pos HE.out])]) (by repeat (first | exact Drawn.refl _ | refine Drawn.step ?_ _ | refine Drawn.one ?_))
      · have heb : (gi xs k == 0) = false := by simp [he]
        have HE := Lib.hid he
        clear he hc
        go_wp2
        go_roundw
        case rel => exact ⟨k + 1, _, by omega, by go_num, rfl, by unfold Hid; rw [hp.out, hs.out, hasZero, if_neg HE.out]⟩
        case measure => simp [intOf]; omega
    · have hk' : k = xs.length := by omega
      subst hk'
      have hz : hasZero xs = false := by rw [hp.out, List.drop_length]; rfl
      have HZ := Lib.hid hz
      have HP := Lib.hid (noZero_gi HOK.out hz)
      clear hz hp
      obtain ⟨wo, hwo⟩ : ∃ wo, wo = w.drewN m := ⟨_, rfl⟩
      go_wp2
      clear hwo
      go_loopw [4, 5] (fun q i wr => ∃ (k m : Nat) (cc : Int), k ≤ xs.length ∧ i = .int .i64 k ∧ wr = w.drewN m ∧ q = .int .i64 cc ∧ 1 ≤ cc ∧ cc ≤ 1000000000000 ∧ Hid (ttF xs 1 = ttF (xs.drop k) cc)) (fun _ i _ => xs.length - (intOf i).toNat)
      case atStart => exact ⟨0, m, 1, Nat.zero_le _, rfl, rfl, rfl, by omega, by omega, rfl⟩
      case round =>
        obtain ⟨k, m', cc, hk, rfl, rfl, rfl, hc0, hc1, hp⟩ := hrel
        by_cases hlt : k < xs.length
        · obtain rfl := ha (by omega)
          have cx := hc k hlt
          have hsz := HS.out k hlt
          have hpz := HP.out k hlt
          clear hc
          have hs := Lib.hid (drop_gi hlt)
          have hd := div_lt_iff' (s := gi xs k) (n := cc) hpz
          have hq0 : 0 ≤ 1000000000000 / gi xs k := Int.ediv_nonneg (by omega) (by omega)
          have hq1 : 1000000000000 / gi xs k ≤ 1000000000000 := Int.ediv_le_self _ (by omega)
          have HD := Lib.hid hd
          clear hd
          by_cases hbig : 1000000000000 / gi xs k < cc
          · go_wp2
            go_ret
            exact rd_int (by rw [total, if_neg (by rw [HZ.out]; simp), hp.out, hs.out, ttF, if_pos hbig]) (by repeat (first | exact Drawn.refl _ | refine Drawn.step ?_ _ | refine Drawn.one ?_))
          · have hm1 : ¬ 1000000000000 < cc * gi xs k := fun e => hbig (HD.out.2 e)
            have h1' : 1 * 1 ≤ cc * gi xs k := Int.mul_le_mul hc0 hpz (by omega) (by omega)
            go_wp2
            go_roundw
            case rel => exact ⟨k + 1, _, cc * gi xs k, by omega, by go_num, rfl, rfl, by omega, by omega, by unfold Hid; rw [hp.out, hs.out, ttF, if_neg (by omega)]⟩
            case measure => simp [intOf]; omega
        · have hk' : k = xs.length := by omega
          subst hk'
          go_wp2_with fail
          go_ret
          exact rd_int (by rw [total, if_neg (by rw [HZ.out]; simp), hp.out, List.drop_length]; rfl) (by repeat (first | exact Drawn.refl _ | refine Drawn.step ?_ _ | refine Drawn.one ?_))
end Go.Proofs.Ytocgbhcfnphnhaa
