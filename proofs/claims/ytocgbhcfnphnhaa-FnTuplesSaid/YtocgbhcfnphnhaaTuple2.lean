/-
  Chapter 1: TupleNumber, TupleAt of program and reference: the walks.
-/
import Derived.Test.YtocgbhcfnphnhaaTuple1
import Derived.Test.YtocgbhcfnphnhaaNormal
namespace Go.Proofs.Ytocgbhcfnphnhaa
open Go.RowKit
theorem ret2 {w w' : World} {r : Int × Int} {a b : Int} (h : r = (a, b)) (hb : Below w.heap.size w w') : Ret w (.tuple #[.int .i64 r.1, .int .i64 r.2]) (.returned (.tuple #[.int .i64 a, .int .i64 b])) w' := by
  subst h; exact ⟨rfl, hb⟩
theorem below_step {ss xs : List Int} {k : Nat} (h : k < xs.length) (h' : k < ss.length) : below (ss.drop k) (xs.drop k) = if 0 ≤ gi xs k ∧ gi xs k < gi ss k then below (ss.drop (k + 1)) (xs.drop (k + 1)) else false := by
  rw [drop_gi h, drop_gi h']; rfl
theorem numF_step {ss xs : List Int} {k : Nat} {n : Int} (h : k < xs.length) (h' : k < ss.length) : numF (ss.drop k) (xs.drop k) n = numF (ss.drop (k + 1)) (xs.drop (k + 1)) (n * gi ss k + gi xs k) := by
  rw [drop_gi h, drop_gi h']; rfl
theorem numF_end {ss xs : List Int} {n : Int} (h : xs.length = ss.length) : numF (ss.drop xs.length) (xs.drop xs.length) n = n := by
  rw [List.drop_length, h, List.drop_length]; rfl
theorem below_end {ss xs : List Int} (h : xs.length = ss.length) : below (ss.drop xs.length) (xs.drop xs.length) = true := by
  rw [List.drop_length, h, List.drop_length]; rfl
theorem i_TupleNumber {w : World} {u v : Value} {ss xs : List Int} (hs : IS w u ss) (hx : IS w v xs) : Calls Try.prog 12 #[u, v] w (Ret w (.tuple #[.int .i64 (tupleNumberR ss xs).1, .int .i64 (tupleNumberR ss xs).2])) := by
  have HF := Lib.hid hs
  have HX := Lib.hid hx
  obtain ⟨ao, b, o, c, rfl, ha, hc⟩ := hs.ex
  obtain ⟨ao', b', o', c', rfl, ha', hc'⟩ := hx.ex
  have l1 := hs.len
  have l2 := hx.len
  clear hs hx
  by_cases h1 : sizesOk ss = true
  · by_cases h2 : xs.length = ss.length
    · have hlb : ((xs.length : Int) != (ss.length : Int)) = false := by simp [h2]
      have hlb2 : ((ss.length : Int) != (xs.length : Int)) = false := by simp [h2]
      have hle : xs.length ≤ ss.length ∧ ss.length ≤ xs.length := by omega
      have HS := Lib.hid (fun i hi => sizesOk_gi h1 (i := i) hi)
      have H1 := Lib.hid h1
      have H2 := Lib.hid h2
      clear h2
      by_cases h3 : below ss xs = true
      · have HB := Lib.hid (below_pos H2.out h3)
        have HZ := Lib.hid (below_noZero H2.out h3)
        have H3 := Lib.hid h3
        clear h3
        have htt := total_tc h1
        have HT := Lib.hid htt
        clear htt
        by_cases h4 : 1000000000000 < tcF ss 1
        · go_enter Try.func12, Try.ntmps12
          go_wp2_with (go_at_call 41; (with_reducible refine (c_areSizes (HF.out.drawn (by repeat (first | exact Drawn.refl _ | refine Drawn.step ?_ _ | refine Drawn.one ?_)))).mono ?_); rintro e w' ⟨rfl, n1, rfl⟩)
          go_loopw [6, 7, 21] (fun _ _ i wr => ∃ (k m : Nat), k ≤ xs.length ∧ i = .int .i64 k ∧ wr = w.drewN m ∧ Hid (below ss xs = below (ss.drop k) (xs.drop k))) (fun _ _ i _ => xs.length - (intOf i).toNat)
          case atStart => exact ⟨0, _, Nat.zero_le _, rfl, rfl, rfl⟩
          case round =>
            obtain ⟨k, m, hk, rfl, rfl, hp⟩ := hrel
            by_cases hlt : k < xs.length
            · have hlt' : k < ss.length := by omega
              obtain rfl := ha (by omega)
              obtain rfl := ha' (by omega)
              have cx := hc k hlt'
              have cy := hc' k hlt
              have hsz := HS.out k hlt'
              have HN := Lib.hid (below_step hlt hlt')
              clear hc hc'
              have he := HB.out k hlt
              have hb : inR (gi xs k) 0 (gi ss k - 1) = true := by simp [inR]; omega
              go_wp2_with (go_at_call 43; (with_reducible refine (c_inRange _ _ _ _).mono ?_); rintro e w' ⟨rfl, n1, rfl⟩)
              go_roundw
              case rel => exact ⟨k + 1, _, by omega, by go_num, rfl, by unfold Hid; rw [hp.out, HN.out, if_pos he]⟩
              case measure => simp [intOf]; omega
            · have hk : k = xs.length := by omega
              subst hk
              clear hp
              go_wp2_with (go_at_call 42; (with_reducible refine (c_tupleCount (HF.out.drawn (by repeat (first | exact Drawn.refl _ | refine Drawn.step ?_ _ | refine Drawn.one ?_))) H1.out).mono ?_); rintro e w' ⟨rfl, n1, rfl⟩)
              go_ret2
              exact ret2 (by rw [tupleNumberR, if_pos H1.out, if_pos H2.out, if_pos H3.out, if_pos h4]) (Drawn.below (by repeat (first | exact Drawn.refl _ | refine Drawn.step ?_ _ | refine Drawn.one ?_)) _)
        · have hc4 : 0 ≤ ttF ss 1 := by
            rcases tcF_ttF ss 1 (by omega) (by omega) H1.out HZ.out with ⟨_, h⟩ | ⟨h, _, _⟩ <;> omega
          have HC := Lib.hid hc4
          clear hc4
          go_enter Try.func12, Try.ntmps12
          go_wp2_with (go_at_call 41; (with_reducible refine (c_areSizes (HF.out.drawn (by repeat (first | exact Drawn.refl _ | refine Drawn.step ?_ _ | refine Drawn.one ?_)))).mono ?_); rintro e w' ⟨rfl, n1, rfl⟩)
          go_loopw [6, 7, 21] (fun _ _ i wr => ∃ (k m : Nat), k ≤ xs.length ∧ i = .int .i64 k ∧ wr = w.drewN m ∧ Hid (below ss xs = below (ss.drop k) (xs.drop k))) (fun _ _ i _ => xs.length - (intOf i).toNat)
          case atStart => exact ⟨0, _, Nat.zero_le _, rfl, rfl, rfl⟩
          case round =>
            obtain ⟨k, m, hk, rfl, rfl, hp⟩ := hrel
            by_cases hlt : k < xs.length
            · have hlt' : k < ss.length := by omega
              obtain rfl := ha (by omega)
              obtain rfl := ha' (by omega)
              have cx := hc k hlt'
              have cy := hc' k hlt
              have hsz := HS.out k hlt'
              have HN := Lib.hid (below_step hlt hlt')
              clear hc hc'
              have he := HB.out k hlt
              have hb : inR (gi xs k) 0 (gi ss k - 1) = true := by simp [inR]; omega
              go_wp2_with (go_at_call 43; (with_reducible refine (c_inRange _ _ _ _).mono ?_); rintro e w' ⟨rfl, n1, rfl⟩)
              go_roundw
              case rel => exact ⟨k + 1, _, by omega, by go_num, rfl, by unfold Hid; rw [hp.out, HN.out, if_pos he]⟩
              case measure => simp [intOf]; omega
            · have hk : k = xs.length := by omega
              subst hk
              clear hp
              go_wp2_with (go_at_call 42; (with_reducible refine (c_tupleCount (HF.out.drawn (by repeat (first | exact Drawn.refl _ | refine Drawn.step ?_ _ | refine Drawn.one ?_))) H1.out).mono ?_); rintro e w' ⟨rfl, n1, rfl⟩)
              go_loopw [8, 9, 10, 40] (fun qv _ _ i wr => ∃ (k m : Nat) (q0 cc : Int), k ≤ xs.length ∧ i = .int .i64 k ∧ wr = w.drewN m ∧ qv = .int .i64 q0 ∧ 0 ≤ q0 ∧ q0 < cc ∧ cc ≤ 1000000000000 ∧ Hid (ttF ss 1 = ttF (ss.drop k) cc ∧ numF ss xs 0 = numF (ss.drop k) (xs.drop k) q0)) (fun _ _ _ i _ => xs.length - (intOf i).toNat)
              case atStart => exact ⟨0, _, 0, 1, Nat.zero_le _, rfl, rfl, rfl, by omega, by omega, by omega, rfl, rfl⟩
              case round =>
                obtain ⟨k, m, q0, cc, hk, rfl, rfl, rfl, hq0, hq1, hcc, hp⟩ := hrel
                by_cases hlt : k < xs.length
                · have hlt' : k < ss.length := by omega
                  obtain rfl := ha (by omega)
                  obtain rfl := ha' (by omega)
                  have cx := hc k hlt'
                  have cy := hc' k hlt
                  have hsz := HS.out k hlt'
                  have hbz := HB.out k hlt
                  have hst := ttF_step (s := gi ss k) (r := ss.drop (k + 1)) (c := cc) (by omega) (by omega) (by rw [← drop_gi hlt', ← hp.out.1]; exact HC.out)
                  have hns := num_step hq0 hq1 hbz.1 hbz.2
                  have hst2 := hst.2
                  have HST := Lib.hid hst.1
                  have HD := Lib.hid (drop_gi hlt')
                  have HN := Lib.hid (numF_step (n := q0) hlt hlt')
                  clear hc hc' hst
                  clear HB HC
                  go_wp2
                  go_roundw
                  case rel => exact ⟨k + 1, _, q0 * gi ss k + gi xs k, cc * gi ss k, by omega, by go_num, rfl, rfl, by omega, by omega, by omega, by rw [hp.out.1, HD.out, HST.out], by rw [hp.out.2, HN.out]⟩
                  case measure => simp [intOf]; omega
                · have hk : k = xs.length := by omega
                  subst hk
                  go_wp2_with fail
                  go_ret2
                  exact ret2 (by rw [tupleNumberR, if_pos H1.out, if_pos H2.out, if_pos H3.out, if_neg (by omega), hp.out.2, numF_end H2.out]) (Drawn.below (by repeat (first | exact Drawn.refl _ | refine Drawn.step ?_ _ | refine Drawn.one ?_)) _)
      · have H3 := Lib.hid h3
        clear h3
        go_enter Try.func12, Try.ntmps12
        go_wp2_with (go_at_call 41; (with_reducible refine (c_areSizes (HF.out.drawn (by repeat (first | exact Drawn.refl _ | refine Drawn.step ?_ _ | refine Drawn.one ?_)))).mono ?_); rintro e w' ⟨rfl, n1, rfl⟩)
        go_loopw [6, 7, 21] (fun _ _ i wr => ∃ (k m : Nat), k ≤ xs.length ∧ i = .int .i64 k ∧ wr = w.drewN m ∧ Hid (below ss xs = below (ss.drop k) (xs.drop k))) (fun _ _ i _ => xs.length - (intOf i).toNat)
        case atStart => exact ⟨0, _, Nat.zero_le _, rfl, rfl, rfl⟩
        case round =>
          obtain ⟨k, m, hk, rfl, rfl, hp⟩ := hrel
          by_cases hlt : k < xs.length
          · have hlt' : k < ss.length := by omega
            obtain rfl := ha (by omega)
            obtain rfl := ha' (by omega)
            have cx := hc k hlt'
            have cy := hc' k hlt
            have hsz := HS.out k hlt'
            have HN := Lib.hid (below_step hlt hlt')
            clear hc hc'
            by_cases he : 0 ≤ gi xs k ∧ gi xs k < gi ss k
            · skip
              have hb : inR (gi xs k) 0 (gi ss k - 1) = true := by simp [inR]; omega
              go_wp2_with (go_at_call 43; (with_reducible refine (c_inRange _ _ _ _).mono ?_); rintro e w' ⟨rfl, n1, rfl⟩)
              go_roundw
              case rel => exact ⟨k + 1, _, by omega, by go_num, rfl, by unfold Hid; rw [hp.out, HN.out, if_pos he]⟩
              case measure => simp [intOf]; omega
            · have hb : inR (gi xs k) 0 (gi ss k - 1) = false := by simp [inR]; omega
              go_wp2_with (go_at_call 43; (with_reducible refine (c_inRange _ _ _ _).mono ?_); rintro e w' ⟨rfl, n1, rfl⟩)
              go_ret2
              exact ret2 (by rw [tupleNumberR, if_pos H1.out, if_pos H2.out, if_neg H3.out]) (Drawn.below (by repeat (first | exact Drawn.refl _ | refine Drawn.step ?_ _ | refine Drawn.one ?_)) _)
          · have hk : k = xs.length := by omega
            subst hk
            exact absurd (hp.out.trans (below_end H2.out)) H3.out
    · have hlb : ((xs.length : Int) != (ss.length : Int)) = true := by rw [ne_len]; simp [h2]
      have hlb2 : ((ss.length : Int) != (xs.length : Int)) = true := by rw [ne_len]; simp [Ne.symm h2]
      go_enter Try.func12, Try.ntmps12
      go_wp2_with (go_at_call 41; (with_reducible refine (c_areSizes (HF.out.drawn (by repeat (first | exact Drawn.refl _ | refine Drawn.step ?_ _ | refine Drawn.one ?_)))).mono ?_); rintro e w' ⟨rfl, n1, rfl⟩)
      go_ret2
      exact ret2 (by simp [tupleNumberR, h1, h2]) (Drawn.below (by repeat (first | exact Drawn.refl _ | refine Drawn.step ?_ _ | refine Drawn.one ?_)) _)
  · go_enter Try.func12, Try.ntmps12
    go_wp2_with (go_at_call 41; (with_reducible refine (c_areSizes (HF.out.drawn (by repeat (first | exact Drawn.refl _ | refine Drawn.step ?_ _ | refine Drawn.one ?_)))).mono ?_); rintro e w' ⟨rfl, n1, rfl⟩)
    go_ret2
    exact ret2 (by simp [tupleNumberR, h1]) (Drawn.below (by repeat (first | exact Drawn.refl _ | refine Drawn.step ?_ _ | refine Drawn.one ?_)) _)
end Go.Proofs.Ytocgbhcfnphnhaa
