/-
  Drawing functions: l01From, l01DrawSizes, l01Total at any sizes, DrawTupleAt.
-/
import Derived.Test.YtocgbhcfnphnhaaSrc2
import Derived.Test.YtocgbhcfnphnhaaTuplePlain
import Derived.StillTailTactics
namespace Go.Proofs.Ytocgbhcfnphnhaa
open Go.RowKit

/-- A slice of bytes that came in. -/
def RawB (w : World) (v : Value) : Prop := ∃ (ao : Option Addr) (len cap b o : Nat) (B : Nat → Int), v = .slice ao len cap ∧ len ≤ 9223372036854775807 ∧ (0 < len → ao = some ⟨b, o, none⟩) ∧ ∀ i, i < len → w.cell? ⟨b, o + i, none⟩ = some (.int .u8 (B i)) ∧ 0 ≤ B i ∧ B i ≤ 255
theorem RawB.kept {w w' : World} {v : Value} (h : RawB w v) (hb : Below w.heap.size w w') : RawB w' v := by
  obtain ⟨ao, len, cap, b, o, B, rfl, hl, ha, hc⟩ := h
  exact ⟨ao, len, cap, b, o, B, rfl, hl, ha, fun i hi => ⟨upc hb (hc i hi).1, (hc i hi).2⟩⟩
set_option maxHeartbeats 800000 in
theorem c_l01From {w : World} {ao : Option Addr} {len cap : Nat} (h : RawB w (.slice ao len cap)) (hl : len ≤ 4096) : Calls Try.prog 36 #[.slice ao len cap] w (fun e w' => ∃ p, e = .returned (.pointer (some ⟨p, 0, none⟩)) ∧ Src w' p ∧ w.heap.size ≤ p ∧ Below w.heap.size w w') := by
  obtain ⟨ao', len', cap', bc, oc, B, hv, -, ha, hc⟩ := h
  injection hv with e1 e2 e3
  subst e1 e2 e3
  have HC := Lib.hid hc
  have hB0 : Below w.heap.size w (w.alloc (.cells #[.slice ao len cap, .int .i64 0, .int .u64 (7019 + (len : Int))] 78)) := bel_alloc (Below.refl _ _) _
  have hr0 := World.rowIs_alloc w #[.slice ao len cap, .int .i64 0, .int .u64 (7019 + (len : Int))] 78 (fun i => #[.slice ao len cap, .int .i64 0, .int .u64 (7019 + (len : Int))].getD i undef) (fun i hi => by simp only [Array.getD, hi, dif_pos]; exact Array.getElem?_eq_getElem hi)
  have hcv : IntKind.u64.wrap (len : Int) = (len : Int) := by rw [IntKind.wrap_u64]; omega
  have hcv2 : IntKind.u64.wrap (7019 + (len : Int)) = 7019 + (len : Int) := by rw [IntKind.wrap_u64]; omega
  clear hc
  go_enter Try.func36, Try.ntmps36
  go_wp2_with fail
  clear hcv hcv2
  go_loopw [4] (fun iv wr => ∃ (i : Nat) (h : Int) (f : Nat → Value), i ≤ len ∧ iv = .int .i64 i ∧ Below w.heap.size w wr ∧ wr.rowIs w.heap.size 78 3 f ∧ Hid (f 0 = .slice ao len cap ∧ f 1 = .int .i64 0) ∧ f 2 = .int .u64 h ∧ Hid (0 ≤ h ∧ h ≤ 18446744073709551615)) (fun iv _ => len - (intOf iv).toNat)
  case atStart => exact ⟨0, 7019 + (len : Int), _, Nat.zero_le _, rfl, hB0, hr0, ⟨rfl, rfl⟩, rfl, ⟨by omega, by omega⟩⟩
  case round =>
    clear hB0 hr0
    obtain ⟨i, h, f, hi, rfl, hb, hr, hf, h2, hh⟩ := hrel
    have c2 := hr.cell (show 2 < 3 by omega)
    rw [h2] at c2
    have f2 := hr.frozen 2
    by_cases hlt : i < len
    · obtain rfl := ha (by omega)
      have b1 : decide ((i : Int) < (len : Int)) = true := decide_eq_true (by omega)
      have b2 : decide ((i : Int) < 4096) = true := decide_eq_true (by omega)
      have cx := upc hb (HC.out i hlt).1
      have hB := (HC.out i hlt).2
      have i0 : (0 : Int) ≤ (i : Int) := by omega
      have i1 : (i : Int) < (len : Int) := by omega
      have hr' := hr
      have hb' := hb
      clear hr hb
      go_wp2_with fail
      go_still_tail 15, (by kernel_rfl)
      change wpList _ _ _ _ _ wr.drew
      have f2' : wr.drew.frozen? ⟨w.heap.size, 2, none⟩ = false := f2
      have c2' : wr.drew.cell? ⟨w.heap.size, 2, none⟩ = some (.int .u64 h) := c2
      have hrd : wr.drew.rowIs w.heap.size 78 3 f := hr'.of_block rfl
      have hbd := bel_next hb' (Drawn.below (Drawn.one (Drawn.refl wr)) wr.heap.size)
      clear c2 f2 cx hr' hb'
      generalize wr.drew = wq at *
      go_wp2_with fail
      go_roundw
      case rel => exact ⟨i + 1, _, _, by omega, by go_num, hbd.setCell (p := ⟨w.heap.size, 2, none⟩) (Nat.le_refl _) _, hrd.set 2 _, ⟨by simpa using hf.out.1, by simpa using hf.out.2⟩, if_pos rfl, u64_bd _⟩
      case measure => simp [intOf]; omega
    · have hie : len = i := by omega
      subst hie
      have b1 : decide ((len : Int) < (len : Int)) = false := by simp
      have hs : Src wr w.heap.size := by
        refine ⟨ao, len, cap, bc, oc, 0, h, f, B, hr, hf.out.1, hf.out.2, h2, hh.out, Nat.zero_le _, hl, fun h0 => ⟨ha h0, World.block_lt_of_cell? w _ (HC.out 0 h0).1⟩, fun i hi => ⟨upc hb (HC.out i hi).1, (HC.out i hi).2⟩⟩
      have HS := Lib.hid hs
      have HB := Lib.hid hb
      clear hs hb hr
      go_wp2_with fail
      go_ret
      exact ⟨_, rfl, HS.out, Nat.le_refl _, HB.out⟩
theorem c_l01TotalAny {w : World} {v : Value} {xs : List Int} (h : IS w v xs) (hok : ∀ i, i < xs.length → -1 ≤ gi xs i ∧ gi xs i ≤ 257) : Calls Try.prog 38 #[v] w (fun e w' => ∃ k, e = .returned (.int .i64 k) ∧ (-1 ≤ k ∧ k ≤ 1000000000000) ∧ Drawn w w') := by
  obtain ⟨ao, b, o, c, rfl, ha, hc⟩ := h.ex
  have hlen := h.len
  have HS := Lib.hid hok
  clear h hok
  go_enter Try.func38, Try.ntmps38
  go_wp2
  go_loopw [3] (fun i wr => ∃ (k m : Nat), k ≤ xs.length ∧ i = .int .i64 k ∧ wr = w.drewN m ∧ Hid (∀ j, j < k → gi xs j ≠ 0)) (fun i _ => xs.length - (intOf i).toNat)
  case atStart => exact ⟨0, 0, Nat.zero_le _, rfl, rfl, fun j hj => by omega⟩
  case round =>
    obtain ⟨k, m, hk, rfl, rfl, hp⟩ := hrel
    by_cases hlt : k < xs.length
    · obtain rfl := ha (by omega)
      have cx := hc k hlt
      by_cases he : gi xs k = 0
      · have heb : (gi xs k == 0) = true := by simp [he]
        clear he hc
        go_wp2
        go_ret
        exact ⟨0, rfl, by omega, (by repeat (first | exact Drawn.refl _ | refine Drawn.step ?_ _ | refine Drawn.one ?_))⟩
      · have heb : (gi xs k == 0) = false := by simp [he]
        have HE := Lib.hid he
        clear he hc
        go_wp2
        go_roundw
        case rel => exact ⟨k + 1, _, by omega, by go_num, rfl, fun j hj => by
          by_cases e : j = k
          · subst e; exact HE.out
          · exact hp.out j (by omega)⟩
        case measure => simp [intOf]; omega
    · have hk' : k = xs.length := by omega
      subst hk'
      have HP := Lib.hid (show ∀ j, j < xs.length → gi xs j ≠ 0 from hp.out)
      clear hp
      obtain ⟨wo, hwo⟩ : ∃ wo, wo = w.drewN m := ⟨_, rfl⟩
      go_wp2
      clear hwo
      go_loopw [4, 5] (fun q i wr => ∃ (k m : Nat) (cc : Int), k ≤ xs.length ∧ i = .int .i64 k ∧ wr = w.drewN m ∧ q = .int .i64 cc ∧ 1 ≤ cc ∧ cc ≤ 1000000000000) (fun _ i _ => xs.length - (intOf i).toNat)
      case atStart => exact ⟨0, m, 1, Nat.zero_le _, rfl, rfl, rfl, by omega, by omega⟩
      case round =>
        obtain ⟨k, m', cc, hk, rfl, rfl, rfl, hc0, hc1⟩ := hrel
        by_cases hlt : k < xs.length
        · obtain rfl := ha (by omega)
          have cx := hc k hlt
          have hsz := HS.out k hlt
          have hnz := HP.out k hlt
          clear hc
          by_cases hneg : gi xs k < 0
          · have hm1 : gi xs k = -1 := by omega
            rw [hm1] at cx
            clear hneg hsz hnz hm1
            have hbg : decide ((-1000000000000 : Int) < cc) = true := decide_eq_true (by omega)
            go_wp2
            go_ret
            exact ⟨-1, rfl, by omega, (by repeat (first | exact Drawn.refl _ | refine Drawn.step ?_ _ | refine Drawn.one ?_))⟩
          · have hpz : 1 ≤ gi xs k := by omega
            have hd := div_lt_iff' (s := gi xs k) (n := cc) hpz
            have hq0 : 0 ≤ 1000000000000 / gi xs k := Int.ediv_nonneg (by omega) (by omega)
            have hq1 : 1000000000000 / gi xs k ≤ 1000000000000 := Int.ediv_le_self _ (by omega)
            have HD := Lib.hid hd
            clear hd hneg hnz
            by_cases hbig : 1000000000000 / gi xs k < cc
            · go_wp2
              go_ret
              exact ⟨-1, rfl, by omega, (by repeat (first | exact Drawn.refl _ | refine Drawn.step ?_ _ | refine Drawn.one ?_))⟩
            · have hm1 : ¬ 1000000000000 < cc * gi xs k := fun e => hbig (HD.out.2 e)
              have h1' : 1 * 1 ≤ cc * gi xs k := Int.mul_le_mul hc0 hpz (by omega) (by omega)
              go_wp2
              go_roundw
              case rel => exact ⟨k + 1, _, cc * gi xs k, by omega, by go_num, rfl, rfl, by omega, by omega⟩
              case measure => simp [intOf]; omega
        · have hk' : k = xs.length := by omega
          subst hk'
          go_wp2_with fail
          go_ret
          exact ⟨cc, rfl, by omega, (by repeat (first | exact Drawn.refl _ | refine Drawn.step ?_ _ | refine Drawn.one ?_))⟩
set_option maxHeartbeats 1600000 in
theorem c_l01DrawSizes {w : World} {p : Nat} (h : Src w p) : Calls Try.prog 37 #[.pointer (some ⟨p, 0, none⟩)] w (Dl 2 w p (fun xs => xs.length ≤ 9 ∧ ∀ x ∈ xs, -1 ≤ x ∧ x ≤ 257)) := by
  have hp := h.lt
  have HS := Lib.hid h
  clear h
  go_enter Try.func37, Try.ntmps37
  go_wp2_with fail
  refine (c_l01Next (HS.out.keptB (bel_alloc (Below.refl _ _) _)) 5 (by constructor <;> omega)).mono ?_
  rintro e w1 ⟨k, rfl, k0, k1, hs1, hw1⟩
  have k2 := k1 (by omega)
  have ho1 := own_within (Own.empty' (E := 2) (w := w) (B := w.heap.size) (Nat.le_refl _) rfl) hw1 hp
  have hwt := ((Within.refl p (p + 1) w).al (.cells #[] 2)).trans hw1
  obtain ⟨q, rfl⟩ := Int.eq_ofNat_of_zero_le k0
  have hq5 : q < 5 := by omega
  clear k0 k1 k2 hw1
  have HS1 := Lib.hid hs1
  have HO1 := Lib.hid ho1
  have HW1 := Lib.hid hwt
  clear hs1 ho1 hwt
  go_wp2_with fail
  go_loopw [3, 4] (fun ov kv wr => ∃ (j : Nat) (xs : List Int), j ≤ q ∧ kv = .int .i64 j ∧ Hid (xs.length + j = q ∧ ∀ x ∈ xs, -1 ≤ x ∧ x ≤ 257) ∧ Own 2 wr w.heap.size ov xs ∧ Src wr p ∧ Within p (p + 1) w wr) (fun _ kv _ => (intOf kv).toNat)
  case atStart => exact ⟨q, [], Nat.le_refl _, rfl, ⟨by simp, fun x hx => by cases hx⟩, HO1.out, HS1.out, HW1.out⟩
  case round =>
    obtain ⟨j, xs, hj, rfl, hx, ho, hs, hw⟩ := hrel
    obtain ⟨ao, co, rfl⟩ := ho.shape
    have hx3 : xs.length < 6 := by have := hx.out.1; omega
    have HO := Lib.hid ho
    have HW := Lib.hid hw
    have HSS := Lib.hid hs
    have hzw := hw.size
    clear ho hw hs
    by_cases hj0 : 0 < j
    · have b1 : decide ((0 : Int) < (j : Int)) = true := decide_eq_true (by omega)
      go_wp2_with fail
      refine (c_l01Next HSS.out 4 (by constructor <;> omega)).mono ?_
      rintro e w2 ⟨y, rfl, y0, y1, hs1, hw1⟩
      have y2 := y1 (by omega)
      have ho1 := own_within HO.out hw1 hp
      have hwt := HW.out.trans hw1
      have HS1 := Lib.hid hs1
      have HWT := Lib.hid hwt
      have hz1 := hwt.size
      clear hs1 hw1 hwt y1
      go_wp2_with (at_builtin; refine hold ?_)
      refine app1 (x := 1 + y) ho1 (by constructor <;> omega) (by omega) hz1 Try.underlying24 infoInt64 (by rfl) _ _ (by rfl) (by rfl) (by rfl) ?_
      intro v' w3 ho2 g2'
      have hs2 := src_grew HS1.out g2' (fun q hq => by have := (ho1.lt q hq).1; omega)
      have hw2 := within_grew HWT.out g2' (fun q hq => (ho1.lt q hq).1)
      obtain ⟨ys, hys⟩ : ∃ ys, ys = xs ++ [1 + y] := ⟨_, rfl⟩
      rw [← hys] at ho2
      have HYS := Lib.hid hys
      clear hys
      obtain ⟨av, cv, rfl⟩ := ho2.shape
      have HO2 := Lib.hid ho2
      have HS2 := Lib.hid hs2
      have HW2 := Lib.hid hw2
      clear ho1 ho2 hs2 hw2 g2'
      go_wp2_with fail
      go_roundw
      case rel => exact ⟨j - 1, ys, by omega, by congr 1; omega, ⟨by rw [HYS.out, List.length_append, List.length_singleton]; have := hx.out.1; omega, fun x hx' => by
          rw [HYS.out] at hx'
          rcases List.mem_append.1 hx' with h | h
          · exact hx.out.2 x h
          · simp at h; omega⟩, HO2.out, HS2.out, HW2.out⟩
      case measure => simp [intOf]; omega
    · have b1 : decide ((0 : Int) < (j : Int)) = false := decide_eq_false (by omega)
      go_wp2_with fail
      refine (c_l01Next HSS.out 24 (by constructor <;> omega)).mono ?_
      rintro e w2 ⟨y, rfl, -, -, hs1, hw1⟩
      have ho1 := own_within HO.out hw1 hp
      have hwt := HW.out.trans hw1
      have HS1 := Lib.hid hs1
      have HWT := Lib.hid hwt
      have hz1 := hwt.size
      clear hs1 hw1 hwt
      by_cases hy0 : y = 0
      · have yb : (y == 0) = true := by simp [hy0]
        clear hy0
        go_wp2_with fail
        refine (c_l01Pick (HS1.out.keptB (bel_alloc (Below.refl _ _) _)) (xs := [0, -1, 257, 256]) (Own.lit (E := 2) (w := w2) (xs := [0, -1, 257, 256]) (all64_iff (by decide)) (by simp)).is (by simp) (lit_apart HS1.out.lt)).mono ?_
        rintro e w3 ⟨x, rfl, hxx, hs2, hw2⟩
        have hxb : -1 ≤ x ∧ x ≤ 257 := by simp at hxx; omega
        have ho2 := own_within (ho1.kept (bel_alloc (Below.refl _ _) _)) hw2 hp
        have HS2 := Lib.hid hs2
        have hwt2 := (HWT.out.al _).trans hw2
        have HWT2 := Lib.hid hwt2
        have hz2 := hwt2.size
        clear hs2 hw2 hwt2 ho1
        go_wp2_with (at_builtin; refine hold ?_)
        refine app1 ho2 (by constructor <;> omega) (by omega) hz2 Try.underlying24 infoInt64 (by rfl) _ _ (by rfl) (by rfl) (by rfl) ?_
        intro v' w4 ho3 g3'
        have hs3 := src_grew HS2.out g3' (fun q hq => by have := (ho2.lt q hq).1; omega)
        have hw3 := within_grew HWT2.out g3' (fun q hq => (ho2.lt q hq).1)
        obtain ⟨ys, hys⟩ : ∃ ys, ys = xs ++ [x] := ⟨_, rfl⟩
        rw [← hys] at ho3
        have HYS := Lib.hid hys
        clear hys
        obtain ⟨av, cv, rfl⟩ := ho3.shape
        have HO3 := Lib.hid ho3
        have HS3 := Lib.hid hs3
        have HW3 := Lib.hid hw3
        clear ho2 ho3 hs3 hw3 g3'
        go_wp2_with fail
        go_ret
        exact ⟨_, ys, rfl, ⟨by rw [HYS.out]; simp; omega, fun z hz => by
          rw [HYS.out] at hz
          rcases List.mem_append.1 hz with h | h
          · exact hx.out.2 z h
          · simp at h; omega⟩, HO3.out.top, HS3.out, HW3.out⟩
      · have yb : (y == 0) = false := by simp [hy0]
        clear hy0
        by_cases hy1 : y = 1
        · have yb1 : (y == 1) = true := by simp [hy1]
          clear hy1
          go_wp2_with (at_builtin; refine hold ?_)
          refine appL (ys := [256, 256, 256, 256, 256]) (ho1.kept (bel_alloc (Below.refl _ _) _)) (Own.lit (E := 2) (w := w2) (xs := [256, 256, 256, 256, 256]) (all64_iff (by decide)) (by simp)).is (by simp; omega) (by simp; omega) Try.underlying24 infoInt64 (by rfl) _ _ (by rfl) (by rfl) (by rfl) ?_
          intro v' w4 ho3 g3'
          have ho1' := ho1.kept (bel_alloc (Below.refl _ _) (.cells #[.int .i64 256, .int .i64 256, .int .i64 256, .int .i64 256, .int .i64 256] 2))
          have hs3 := src_grew (HS1.out.keptB (bel_alloc (Below.refl _ _) _)) g3' (fun q hq => by have := (ho1'.lt q hq).1; omega)
          have hw3 := within_grew (HWT.out.al _) g3' (fun q hq => (ho1'.lt q hq).1)
          obtain ⟨ys, hys⟩ : ∃ ys, ys = xs ++ [256, 256, 256, 256, 256] := ⟨_, rfl⟩
          rw [← hys] at ho3
          have HYS := Lib.hid hys
          clear hys
          obtain ⟨av, cv, rfl⟩ := ho3.shape
          have HO3 := Lib.hid ho3
          have HS3 := Lib.hid hs3
          have HW3 := Lib.hid hw3
          have HX5 : Hid (xs.length < 5) := by
            have := hx.out.1
            unfold Hid; omega
          clear ho1 ho1' ho3 hs3 hw3 g3'
          go_wp2_with fail
          go_ret
          exact ⟨_, ys, rfl, ⟨by rw [HYS.out]; have := HX5.out; simp; omega, fun z hz => by
            rw [HYS.out] at hz
            rcases List.mem_append.1 hz with h | h
            · exact hx.out.2 z h
            · simp at h; omega⟩, HO3.out.top, HS3.out, HW3.out⟩
        · have yb1 : (y == 1) = false := by simp [hy1]
          have HO1 := Lib.hid ho1
          clear hy1 ho1
          go_wp2_with fail
          go_ret
          exact ⟨_, xs, rfl, ⟨by omega, hx.out.2⟩, HO1.out.top, HS1.out, HWT.out⟩
set_option maxHeartbeats 800000 in
theorem c_DrawTupleAt {w : World} {ao : Option Addr} {len cap : Nat} (h : RawB w (.slice ao len cap)) (hl : len ≤ 4096) : Calls Try.prog 8 #[.slice ao len cap] w (fun e w' => ∃ u k xs, e = .returned (.tuple #[u, .int .i64 k]) ∧ I64 k ∧ OwnT 2 w.heap.size w'.heap.size w' u xs ∧ Below w.heap.size w w') := by
  have HF := Lib.hid (c_l01From h hl)
  clear h
  go_enter Try.func8, Try.ntmps8
  go_wp2_with fail
  refine HF.out.mono ?_
  rintro e w1 ⟨p, rfl, hs1, hp, hb1⟩
  have HB1 := Lib.hid hb1
  have hz1 := hb1.size
  have HS1 := Lib.hid hs1
  clear hs1 hb1 HF
  go_wp2_with fail
  refine (c_l01DrawSizes HS1.out).mono ?_
  rintro e w2 ⟨u, xs, rfl, ⟨hx9, hxs⟩, ho, hs2, hw2⟩
  obtain ⟨au, cu, rfl⟩ := ho.own.shape
  have HO := Lib.hid ho
  have HXS := Lib.hid (fun i (hi : i < xs.length) => hxs _ (gi_mem hi))
  have hz2 := hw2.size
  have hb2 : Below w.heap.size w w2 := hw2.below HB1.out hp (by omega)
  have HS2 := Lib.hid hs2
  have HB2 := Lib.hid hb2
  clear ho hxs hs2 hw2 hb2
  go_wp2_with fail
  refine (c_l01TotalAny HO.out.is HXS.out).mono ?_
  rintro e w3 ⟨t, rfl, ⟨t0, t1⟩, n3, rfl⟩
  have ho3 := HO.out.keptB (Drawn.below (w' := w2.drewN n3) ⟨_, rfl⟩ _)
  have hs3 := HS2.out.keptB (Drawn.below (w' := w2.drewN n3) ⟨_, rfl⟩ _)
  have hb3 := bel_next HB2.out (Drawn.below (w' := w2.drewN n3) ⟨_, rfl⟩ _)
  have hz3 : w2.heap.size = (w2.drewN n3).heap.size := rfl
  have hp1 : p < w1.heap.size := HS1.out.lt
  generalize w2.drewN n3 = w3 at *
  have PICK : ∀ W, Src W p → Below w.heap.size w W → w2.heap.size ≤ W.heap.size → OwnT 2 w1.heap.size w2.heap.size W (.slice au xs.length cu) xs → Calls Try.prog 40 #[.pointer (some ⟨p, 0, none⟩), .slice (some ⟨W.heap.size, 0, none⟩) 4 4] (W.alloc (.cells #[.int .i64 (-1), .int .i64 t, .int .i64 0, .int .i64 9223372036854775807] 2))
      (fun e w' => ∃ k, e = .returned (.int .i64 k) ∧ I64 k ∧ OwnT 2 w.heap.size w'.heap.size w' (.slice au xs.length cu) xs ∧ Below w.heap.size w w') := by
    intro W hs hb hz ho
    have hwf : AllI64 [-1, t, 0, 9223372036854775807] := by
      intro x hx
      simp at hx
      rcases hx with rfl | rfl | rfl | rfl <;> constructor <;> omega
    refine (c_l01Pick (hs.keptB (bel_alloc (Below.refl _ _) _)) (xs := [-1, t, 0, 9223372036854775807]) (Own.lit (E := 2) (w := W) hwf (by simp)).is (by simp) (lit_apart hs.lt)).mono ?_
    rintro e w4 ⟨x, rfl, hx, hs4, hw4⟩
    have hz4 := hw4.size
    simp only [World.size_alloc] at hz4
    refine ⟨x, rfl, hwf x hx, ((ho.keptB (bel_alloc (Below.refl _ _) _)).kept hw4 (.inr (by omega))).mono (by omega) (by omega), hw4.below (bel_alloc hb _) hp (by omega)⟩
  have HPICK := Lib.hid PICK
  have HO3 := Lib.hid ho3
  have HS3 := Lib.hid hs3
  have HB3 := Lib.hid hb3
  clear PICK ho3 hs3 hb3
  by_cases ht : t < 1
  · have tb : decide (t < 1) = true := decide_eq_true ht
    go_wp2_with fail
    refine (HPICK.out _ HS3.out HB3.out (by omega) HO3.out).mono ?_
    rintro e w4 ⟨k, rfl, hk, ho4, hb4⟩
    have HO4 := Lib.hid ho4
    have HB4 := Lib.hid hb4
    clear ho4 hb4
    go_wp2_with fail
    go_ret2
    exact ⟨_, k, xs, rfl, hk, HO4.out, HB4.out⟩
  · have tb : decide (t < 1) = false := decide_eq_false ht
    go_wp2_with fail
    refine (c_l01Next HS3.out 16 (by constructor <;> omega)).mono ?_
    rintro e w4 ⟨y, rfl, -, -, hs4, hw4⟩
    have hz4 := hw4.size
    have ho4 := HO3.out.kept hw4 (.inr (by omega))
    have hb4 : Below w.heap.size w w4 := hw4.below HB3.out hp (by omega)
    have HO4 := Lib.hid ho4
    have HS4 := Lib.hid hs4
    have HB4 := Lib.hid hb4
    clear ho4 hs4 hb4 hw4
    by_cases hy : y = 0
    · have yb : (y == 0) = true := by simp [hy]
      clear hy
      go_wp2_with fail
      refine (HPICK.out _ HS4.out HB4.out (by omega) HO4.out).mono ?_
      rintro e w5 ⟨k, rfl, hk, ho5, hb5⟩
      have HO5 := Lib.hid ho5
      have HB5 := Lib.hid hb5
      clear ho5 hb5
      go_wp2_with fail
      go_ret2
      exact ⟨_, k, xs, rfl, hk, HO5.out, HB5.out⟩
    · have yb : (y == 0) = false := by simp [hy]
      clear hy
      go_wp2_with fail
      refine (c_l01Next HS4.out t (by constructor <;> omega)).mono ?_
      rintro e w5 ⟨k, rfl, k0, k1, -, hw5⟩
      have k2 := k1 (by omega)
      have hz5 := hw5.size
      have HO5 := Lib.hid (HO4.out.kept hw5 (.inr (by omega)))
      have HB5 : Hid (Below w.heap.size w w5) := hw5.below HB4.out hp (by omega)
      clear hw5 k1
      go_wp2_with fail
      go_ret2
      exact ⟨_, k, xs, rfl, by constructor <;> omega, HO5.out.mono (by omega) (by omega), HB5.out⟩
end Go.Proofs.Ytocgbhcfnphnhaa
