/-
  Chapter 1: TupleAt of program and reference: the walks.
-/
import Derived.Test.YtocgbhcfnphnhaaTuple2
namespace Go.Proofs.Ytocgbhcfnphnhaa
open Go.RowKit
theorem gi_tupleL {ss : List Int} {n : Int} {j T : Nat} (h : T + j + 1 = ss.length) : gi (tupleL ss n) j = leftN ss n T % gi ss j := by
  unfold tupleL
  rw [gi_tab (by omega), show ss.length - 1 - j = T from by omega]
theorem leftN_succ {ss : List Int} {n : Int} {j T : Nat} (h : T + j + 1 = ss.length) : leftN ss n (T + 1) = leftN ss n T / gi ss j := by
  rw [leftN, show ss.length - 1 - T = j from by omega]
theorem tupleL_length (ss : List Int) (n : Int) : (tupleL ss n).length = ss.length := tab_length _ _
theorem tupleL_I64 {ss : List Int} {n : Int} (hs : ∀ i, i < ss.length → 1 ≤ gi ss i ∧ gi ss i ≤ 256) (hn : 0 ≤ n) : AllI64 (tupleL ss n) := tab_I64 fun i hi => by
  have := hs i hi
  have h1 := Int.emod_nonneg (leftN ss n (ss.length - 1 - i)) (show gi ss i ≠ 0 by omega)
  have h2 := Int.emod_lt_of_pos (leftN ss n (ss.length - 1 - i)) (show 0 < gi ss i by omega)
  exact ⟨by show _ ≤ leftN ss n (ss.length - 1 - i) % gi ss i; omega, by show leftN ss n (ss.length - 1 - i) % gi ss i ≤ _; omega⟩
theorem row_down {f : Nat → Value} {z v : Value} {j : Nat} (n : Nat) (hv : v = f j) (i : Nat) (_ : i < n) : (if i = j then v else if j < i then f i else z) = if (j : Int) - 1 < i then f i else z := by
  by_cases e : i = j
  · subst e; rw [if_pos rfl, if_pos (by omega), hv]
  · rw [if_neg e]
    by_cases h : j < i
    · rw [if_pos h, if_pos (by omega)]
    · rw [if_neg h, if_neg (by omega)]
theorem i_TupleAt {w : World} {u : Value} {ss : List Int} (hs : IS w u ss) (n : Int) (_ : I64 n) : Calls Try.prog 9 #[u, .int .i64 n] w (Mk2 2 w (tupleAtR ss n)) := by
  have HF := Lib.hid hs
  obtain ⟨ao, b, o, c, rfl, ha, hc⟩ := hs.ex
  have l1 := hs.len
  clear hs
  by_cases h1 : sizesOk ss = true
  · have H1 := Lib.hid h1
    have HT := Lib.hid (total_tc h1)
    have htc : 0 ≤ tcF ss 1 ∧ tcF ss 1 ≤ 1000000000001 ∧ (0 < tcF ss 1 → hasZero ss = false) := by
      cases hz : hasZero ss with
      | true => rw [tcF_zero ss 1 hz]; omega
      | false =>
        rcases tcF_ttF ss 1 (by omega) (by omega) h1 hz with ⟨_, h⟩ | ⟨h, _, h5⟩
        · exact ⟨by omega, by omega, fun _ => rfl⟩
        · exact ⟨by omega, by omega, fun _ => rfl⟩
    have ht0 := htc.1
    have ht1 := htc.2.1
    have HZ := Lib.hid htc.2.2
    clear htc
    by_cases h2 : 1000000000000 < tcF ss 1
    · go_enter Try.func9, Try.ntmps9
      go_wp2_with (first | (go_at_call 41; (with_reducible refine (c_areSizes (HF.out.drawn (by repeat (first | exact Drawn.refl _ | refine Drawn.step ?_ _ | refine Drawn.one ?_)))).mono ?_); rintro e w' ⟨rfl, n1, rfl⟩) | (go_at_call 42; (with_reducible refine (c_tupleCount (HF.out.drawn (by repeat (first | exact Drawn.refl _ | refine Drawn.step ?_ _ | refine Drawn.one ?_))) H1.out).mono ?_); rintro e w' ⟨rfl, n1, rfl⟩))
      go_ret2
      exact mk2_nil (by rw [tupleAtR, if_pos H1.out, if_pos h2]) (Drawn.below (by repeat (first | exact Drawn.refl _ | refine Drawn.step ?_ _ | refine Drawn.one ?_)) _)
    · by_cases h3 : 0 ≤ n ∧ n < tcF ss 1
      · have hn0 := h3.1
        have hn1 := h3.2
        have HS := Lib.hid (fun i hi => (⟨noZero_gi H1.out (HZ.out (by omega)) i hi, (sizesOk_gi H1.out hi).2⟩ : 1 ≤ gi ss i ∧ gi ss i ≤ 256))
        have H3 := Lib.hid h3
        clear h3
        have hb : inR n 0 (tcF ss 1 - 1) = true := by simp [inR]; omega
        have hmk := run_make_row' (P := Try.prog) 24 2 (.int .i64 0) 8 Try.underlying24 infoInt64 rfl .i64 .i64 ss.length (by omega) (by omega)
        go_enter Try.func9, Try.ntmps9
        go_wp2_with fail
        refine (c_areSizes HF.out).mono ?_
        rintro e w1 ⟨rfl, d1⟩
        go_wp2_with fail
        refine (c_tupleCount (HF.out.drawn d1) H1.out).mono ?_
        rintro e w2 ⟨rfl, d2⟩
        go_wp2_with fail
        refine (c_inRange _ _ _ _).mono ?_
        rintro e w3 ⟨rfl, d3⟩
        have b1 : Below w.heap.size w w3 := ((d1.below _).trans (d2.below _)).trans (d3.below _)
        clear d1 d2 d3
        go_wp2_with fail
        clear hmk
        go_loopw [1, 8] (fun nv i wr => ∃ (T : Nat) (q z : Int), -1 ≤ q ∧ q < ss.length ∧ (T : Int) + q + 1 ≤ ss.length ∧ (ss.length : Int) ≤ T + q + 1 ∧ i = .int .i64 q ∧ nv = .int .i64 z ∧ 0 ≤ z ∧ z ≤ n ∧ Hid (z = leftN ss n T) ∧ Below w.heap.size w wr ∧ w3.heap.size < wr.heap.size ∧
            wr.rowIs w3.heap.size 2 ss.length (fun j => if q < j then .int .i64 (gi (tupleL ss n) j) else .int .i64 0)) (fun _ i _ => (intOf i + 1).toNat)
        case atStart => exact ⟨0, (ss.length : Int) - 1, n, by omega, by omega, by omega, by omega, by go_num, rfl, hn0, Int.le_refl _, rfl, bel_alloc b1 _, by simp, (World.rowIs_made w3 _ _ _).congr (fun i hi => by rw [if_neg (by omega)])⟩
        case round =>
          obtain ⟨T, q, z, hq0, hq1, hT1, hT2, rfl, rfl, hz0, hz1, hzT, hb, hw1, hr⟩ := hrel
          by_cases hlt : 0 ≤ q
          · obtain ⟨j, rfl⟩ := Int.eq_ofNat_of_zero_le hlt
            have hj : j < ss.length := by omega
            obtain rfl := ha (by omega)
            have cx := IS.cellAt hb (hc j hj) rfl
            have hs1 := HS.out j hj
            have hst := hr.cell hj
            have hfz := hr.frozen j
            have hd0 : 0 ≤ z / gi ss j := Int.ediv_nonneg hz0 (by omega)
            have hd1 : z / gi ss j ≤ z := Int.ediv_le_self _ hz0
            have hb1 := b1.size
            have hbl : b < w.heap.size := World.block_lt_of_cell? _ _ (hc j hj)
            have cx2 : ∀ v, (wr.setCell ⟨w3.heap.size, j, none⟩ v).cell? ⟨b, o + j, none⟩ = some (.int .i64 (gi ss j)) := fun v => by rw [World.cell?_setCell_other _ _ _ _ (fun e => by have := congrArg Addr.block e; simp at this; omega)]; exact cx
            have HG := Lib.hid (gi_tupleL (n := n) (show T + j + 1 = ss.length by omega))
            have HL := Lib.hid (leftN_succ (n := n) (show T + j + 1 = ss.length by omega))
            have HR := Lib.hid (hr.set j (.int .i64 (z % gi ss j)))
            clear hc b1 hr
            go_wp2_with fail
            go_roundw
            case rel =>
              refine ⟨T + 1, (j : Int) - 1, z / gi ss j, by omega, by omega, by omega, by omega, by go_num, rfl, hd0, by omega, by unfold Hid; rw [HL.out, hzT.out], hb.setCell hb1 _, by simpa using hw1, ?_⟩
              refine (HR.out.congr fun i hi => ?_).congr (row_down (f := fun j => .int .i64 (gi (tupleL ss n) j)) (z := .int .i64 0) (v := .int .i64 (z % gi ss j)) _ (by rw [HG.out, hzT.out]))
              by_cases e : i = j
              · rw [if_pos e, if_pos e]
              · rw [if_neg e, if_neg e]
                by_cases h : j < i
                · rw [if_pos (by omega), if_pos h]
                · rw [if_neg (by omega), if_neg h]
            case measure => simp [intOf]
          · have hr2 := hr.congr (fun i hi => if_pos (by omega))
            clear hr
            go_wp2_with fail
            go_ret2
            have e := tupleL_length ss n
            have hl : ss.length ≤ 4294967296 := l1
            rw [← e] at hr2 hl ⊢
            exact mk2_own (by rw [tupleAtR, if_pos H1.out, if_neg (by omega), if_pos H3.out]) (Own.of_row hr2 b1.size (fun _ _ => rfl) (tupleL_I64 HS.out hn0) hl) hb
      · have hb : inR n 0 (tcF ss 1 - 1) = false := by simp [inR]; omega
        go_enter Try.func9, Try.ntmps9
        go_wp2_with (first | (go_at_call 41; (with_reducible refine (c_areSizes (HF.out.drawn (by repeat (first | exact Drawn.refl _ | refine Drawn.step ?_ _ | refine Drawn.one ?_)))).mono ?_); rintro e w' ⟨rfl, n1, rfl⟩) | (go_at_call 42; (with_reducible refine (c_tupleCount (HF.out.drawn (by repeat (first | exact Drawn.refl _ | refine Drawn.step ?_ _ | refine Drawn.one ?_))) H1.out).mono ?_); rintro e w' ⟨rfl, n1, rfl⟩) | (go_at_call 43; (with_reducible refine (c_inRange _ _ _ _).mono ?_); rintro e w' ⟨rfl, n1, rfl⟩))
        go_ret2
        exact mk2_nil (by rw [tupleAtR, if_pos H1.out, if_neg (by omega), if_neg h3]) (Drawn.below (by repeat (first | exact Drawn.refl _ | refine Drawn.step ?_ _ | refine Drawn.one ?_)) _)
  · go_enter Try.func9, Try.ntmps9
    go_wp2_with (go_at_call 41; (with_reducible refine (c_areSizes (HF.out.drawn (by repeat (first | exact Drawn.refl _ | refine Drawn.step ?_ _ | refine Drawn.one ?_)))).mono ?_); rintro e w' ⟨rfl, n1, rfl⟩)
    go_ret2
    exact mk2_nil (by rw [tupleAtR, if_neg h1]) (Drawn.below (by repeat (first | exact Drawn.refl _ | refine Drawn.step ?_ _ | refine Drawn.one ?_)) _)
theorem c_l01At {w : World} {u : Value} {ss : List Int} (hs : IS w u ss) (n : Int) (hn0 : 0 ≤ n) (hn1 : n ≤ 1000000000000) (hS : ∀ i, i < ss.length → 1 ≤ gi ss i ∧ gi ss i ≤ 256) :
    Calls Try.prog 45 #[u, .int .i64 n] w (Mk w fun w' r => OwnT 2 w.heap.size w'.heap.size w' r (tupleL ss n)) := by
  obtain ⟨ao, b, o, c, rfl, ha, hc⟩ := hs.ex
  have l1 := hs.len
  have HS := Lib.hid hS
  clear hs hS
  have hmk := run_make_row' (P := Try.prog) 24 2 (.int .i64 0) 8 Try.underlying24 infoInt64 rfl .i64 .i64 ss.length (by omega) (by omega)
  have b1 := Below.refl w.heap.size w
  go_enter Try.func45, Try.ntmps45
  go_wp2_with fail
  clear hmk
  go_loopw [1, 6] (fun nv i wr => ∃ (T : Nat) (q z : Int), -1 ≤ q ∧ q < ss.length ∧ (T : Int) + q + 1 ≤ ss.length ∧ (ss.length : Int) ≤ T + q + 1 ∧ i = .int .i64 q ∧ nv = .int .i64 z ∧ 0 ≤ z ∧ z ≤ n ∧ Hid (z = leftN ss n T) ∧ Below w.heap.size w wr ∧ w.heap.size < wr.heap.size ∧
      wr.rowIs w.heap.size 2 ss.length (fun j => if q < j then .int .i64 (gi (tupleL ss n) j) else .int .i64 0)) (fun _ i _ => (intOf i + 1).toNat)
  case atStart => exact ⟨0, (ss.length : Int) - 1, n, by omega, by omega, by omega, by omega, by go_num, rfl, hn0, Int.le_refl _, rfl, bel_alloc b1 _, by simp, (World.rowIs_made w _ _ _).congr (fun i hi => by rw [if_neg (by omega)])⟩
  case round =>
    obtain ⟨T, q, z, hq0, hq1, hT1, hT2, rfl, rfl, hz0, hz1, hzT, hb, hw1, hr⟩ := hrel
    by_cases hlt : 0 ≤ q
    · obtain ⟨j, rfl⟩ := Int.eq_ofNat_of_zero_le hlt
      have hj : j < ss.length := by omega
      obtain rfl := ha (by omega)
      have cx := IS.cellAt hb (hc j hj) rfl
      have hs1 := HS.out j hj
      have hst := hr.cell hj
      have hfz := hr.frozen j
      have hd0 : 0 ≤ z / gi ss j := Int.ediv_nonneg hz0 (by omega)
      have hd1 : z / gi ss j ≤ z := Int.ediv_le_self _ hz0
      have hb1 := b1.size
      have hbl : b < w.heap.size := World.block_lt_of_cell? _ _ (hc j hj)
      have cx2 : ∀ v, (wr.setCell ⟨w.heap.size, j, none⟩ v).cell? ⟨b, o + j, none⟩ = some (.int .i64 (gi ss j)) := fun v => by rw [World.cell?_setCell_other _ _ _ _ (fun e => by have := congrArg Addr.block e; simp at this; omega)]; exact cx
      have HG := Lib.hid (gi_tupleL (n := n) (show T + j + 1 = ss.length by omega))
      have HL := Lib.hid (leftN_succ (n := n) (show T + j + 1 = ss.length by omega))
      have HR := Lib.hid (hr.set j (.int .i64 (z % gi ss j)))
      clear hc b1 hr
      go_wp2_with fail
      go_roundw
      case rel =>
        refine ⟨T + 1, (j : Int) - 1, z / gi ss j, by omega, by omega, by omega, by omega, by go_num, rfl, hd0, by omega, by unfold Hid; rw [HL.out, hzT.out], hb.setCell hb1 _, by simpa using hw1, ?_⟩
        refine (HR.out.congr fun i hi => ?_).congr (row_down (f := fun j => .int .i64 (gi (tupleL ss n) j)) (z := .int .i64 0) (v := .int .i64 (z % gi ss j)) _ (by rw [HG.out, hzT.out]))
        by_cases e : i = j
        · rw [if_pos e, if_pos e]
        · rw [if_neg e, if_neg e]
          by_cases h : j < i
          · rw [if_pos (by omega), if_pos h]
          · rw [if_neg (by omega), if_neg h]
      case measure => simp [intOf]
    · have hr2 := hr.congr (fun i hi => if_pos (by omega))
      clear hr
      go_wp2_with fail
      go_ret
      have e := tupleL_length ss n
      have hl : ss.length ≤ 4294967296 := l1
      rw [← e] at hr2 hl ⊢
      exact ⟨_, rfl, (Own.of_row hr2 (Nat.le_refl _) (fun _ _ => rfl) (tupleL_I64 HS.out hn0) hl).top, hb⟩
theorem s_TupleAt {w : World} {u : Value} {ss : List Int} (hs : IS w u ss) (n : Int) (_ : I64 n) : Calls Try.prog 10 #[u, .int .i64 n] w (Mk2 2 w (tupleAtR ss n)) := by
  have HF := Lib.hid hs
  obtain ⟨ao, b, o, c, rfl, ha, hc⟩ := hs.ex
  have l1 := hs.len
  clear hs
  by_cases h1 : sizesOk ss = true
  · have H1 := Lib.hid h1
    have HT := Lib.hid (total_tc h1)
    have htc : 0 ≤ tcF ss 1 ∧ tcF ss 1 ≤ 1000000000001 ∧ (0 < tcF ss 1 → hasZero ss = false) := by
      cases hz : hasZero ss with
      | true => rw [tcF_zero ss 1 hz]; omega
      | false =>
        rcases tcF_ttF ss 1 (by omega) (by omega) h1 hz with ⟨_, h⟩ | ⟨h, _, h5⟩
        · exact ⟨by omega, by omega, fun _ => rfl⟩
        · exact ⟨by omega, by omega, fun _ => rfl⟩
    have ht0 := htc.1
    have ht1 := htc.2.1
    have HZ := Lib.hid htc.2.2
    clear htc
    by_cases h2 : 1000000000000 < tcF ss 1
    · have ht : total ss < 0 := by rw [HT.out, if_pos h2]; omega
      go_enter Try.func10, Try.ntmps10
      go_wp2_with (first | (go_at_call 44; (with_reducible refine (c_l01Sizes (HF.out.drawn (by repeat (first | exact Drawn.refl _ | refine Drawn.step ?_ _ | refine Drawn.one ?_)))).mono ?_); rintro e w' ⟨rfl, n1, rfl⟩) | (go_at_call 38; (with_reducible refine (c_l01Total (HF.out.drawn (by repeat (first | exact Drawn.refl _ | refine Drawn.step ?_ _ | refine Drawn.one ?_))) H1.out).mono ?_); rintro e w' ⟨rfl, n1, rfl⟩))
      go_ret2
      exact mk2_nil (by rw [tupleAtR, if_pos H1.out, if_pos h2]) (Drawn.below (by repeat (first | exact Drawn.refl _ | refine Drawn.step ?_ _ | refine Drawn.one ?_)) _)
    · by_cases h3 : 0 ≤ n ∧ n < tcF ss 1
      · have hn0 := h3.1
        have hn1 := h3.2
        have HS := Lib.hid (fun i hi => (⟨noZero_gi H1.out (HZ.out (by omega)) i hi, (sizesOk_gi H1.out hi).2⟩ : 1 ≤ gi ss i ∧ gi ss i ≤ 256))
        have H3 := Lib.hid h3
        clear h3
        have ht : total ss = tcF ss 1 := by rw [HT.out, if_neg h2]
        have ht2 : 0 ≤ total ss ∧ n < total ss := by omega
        have HTT := Lib.hid ht
        clear ht
        go_enter Try.func10, Try.ntmps10
        go_wp2_with (first | (go_at_call 44; (with_reducible refine (c_l01Sizes (HF.out.drawn (by repeat (first | exact Drawn.refl _ | refine Drawn.step ?_ _ | refine Drawn.one ?_)))).mono ?_); rintro e w' ⟨rfl, n1, rfl⟩) | (go_at_call 38; (with_reducible refine (c_l01Total (HF.out.drawn (by repeat (first | exact Drawn.refl _ | refine Drawn.step ?_ _ | refine Drawn.one ?_))) H1.out).mono ?_); rintro e w' ⟨rfl, n1, rfl⟩))
        refine (c_l01At (HF.out.drawn (by repeat (first | exact Drawn.refl _ | refine Drawn.step ?_ _ | refine Drawn.one ?_))) n hn0 (by omega) HS.out).mono ?_
        rintro e w4 ⟨u4, rfl, o4, b4⟩
        go_wp2_with fail
        go_ret2
        exact mk2_own (by rw [tupleAtR, if_pos H1.out, if_neg (by omega), if_pos H3.out]) (o4.own.base (Nat.le_refl _)) ((Drawn.below (by repeat (first | exact Drawn.refl _ | refine Drawn.step ?_ _ | refine Drawn.one ?_)) _).trans b4)
      · have ht : total ss = tcF ss 1 := by rw [HT.out, if_neg h2]
        have ht2 : 0 ≤ total ss ∧ (0 ≤ n → total ss ≤ n) := by omega
        have HTT := Lib.hid ht
        clear ht
        by_cases hn0 : n < 0
        all_goals
          go_enter Try.func10, Try.ntmps10
          go_wp2_with (first | (go_at_call 44; (with_reducible refine (c_l01Sizes (HF.out.drawn (by repeat (first | exact Drawn.refl _ | refine Drawn.step ?_ _ | refine Drawn.one ?_)))).mono ?_); rintro e w' ⟨rfl, n1, rfl⟩) | (go_at_call 38; (with_reducible refine (c_l01Total (HF.out.drawn (by repeat (first | exact Drawn.refl _ | refine Drawn.step ?_ _ | refine Drawn.one ?_))) H1.out).mono ?_); rintro e w' ⟨rfl, n1, rfl⟩))
          go_ret2
          exact mk2_nil (by rw [tupleAtR, if_pos H1.out, if_neg (by omega), if_neg h3]) (Drawn.below (by repeat (first | exact Drawn.refl _ | refine Drawn.step ?_ _ | refine Drawn.one ?_)) _)
  · go_enter Try.func10, Try.ntmps10
    go_wp2_with (go_at_call 44; (with_reducible refine (c_l01Sizes (HF.out.drawn (by repeat (first | exact Drawn.refl _ | refine Drawn.step ?_ _ | refine Drawn.one ?_)))).mono ?_); rintro e w' ⟨rfl, n1, rfl⟩)
    go_ret2
    exact mk2_nil (by rw [tupleAtR, if_neg h1]) (Drawn.below (by repeat (first | exact Drawn.refl _ | refine Drawn.step ?_ _ | refine Drawn.one ?_)) _)
end Go.Proofs.Ytocgbhcfnphnhaa
