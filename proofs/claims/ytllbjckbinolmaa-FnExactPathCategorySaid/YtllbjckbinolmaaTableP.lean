/-
  (*Category).table with the path category's function value.
-/
import Derived.Test.YtllbjckbinolmaaTable
namespace Go.Proofs.Ytllbjckbinolmaa
open Go.RowKit

set_option maxHeartbeats 3200000 in
theorem c_tablePath {w : World} {b : Nat} {R : Nat → Value} {F T : List Int} {m : Nat} {V : Nat → Nat → Int} {p : Nat} (hR : w.rowIs b 25 5 R) (HF : ∀ W, Within b (b + 1) w W → IS W (R 1) F) (HT : ∀ W, Within b (b + 1) w W → IS W (R 2) T)
    (hF : F.length = m) (hT : T.length = m) (hm : m ≤ 72) (hV : ∀ f g, f < m → g < m → gi T f = gi F g → I64 (V f g))
    (HC : ∀ (W : World) (f g : Nat), f < m → g < m → gi T f = gi F g → Within b (b + 1) w W → W.cell? ⟨b, 1, none⟩ = some (R 1) → W.cell? ⟨b, 2, none⟩ = some (R 2) → Calls Try.prog 22 #[.int .i64 (f : Int), .int .i64 (g : Int), .pointer (some ⟨p, 0, none⟩)] W (Ret W (.int .i64 (V f g)))) :
    Calls Try.prog 21 #[.pointer (some ⟨b, 0, none⟩), .func (.func 22) #[] #[.pointer (some ⟨p, 0, none⟩)]] w (fun e w' => e = .returned (.tuple #[]) ∧ Within b (b + 1) w w' ∧ ∃ vc, w'.rowIs b 25 5 (fun i => if i = 4 then vc else R i) ∧
      OF 2 22 w.heap.size w'.heap.size w' vc m (fun f => tab (fun g => if gi T f = gi F g then V f g else -1) m)) := by
  obtain ⟨aF, bF, oF, kF, hvF, haF, hcF⟩ := (HF w (Within.refl _ _ _)).ex
  obtain ⟨aT, bT, oT, kT, hvT, haT, hcT⟩ := (HT w (Within.refl _ _ _)).ex
  have hwfT := Lib.hid (HT w (Within.refl _ _ _)).wf
  have hwfF := Lib.hid (HF w (Within.refl _ _ _)).wf
  rw [hF] at hvF haF
  rw [hT] at hvT haT
  have hmk := run_make_row' (P := Try.prog) 22 2 (.int .i64 0) 8 Try.underlying22 infoInt64 rfl .i64 .i64 m (by omega) (by omega)
  have hmk2 := run_make_row' (P := Try.prog) 23 22 (.slice none 0 0) 24 Try.underlying23 infoInts rfl .i64 .i64 m (by omega) (by omega)
  have HMK := Lib.hid hmk
  have HVF := Lib.hid hvF
  have HVT := Lib.hid hvT
  have c1 := hR.cell (show 1 < 5 by omega)
  have c4 := hR.cell (show 4 < 5 by omega)
  rw [hvF] at c1
  have HFL := Lib.hid hF
  have HTL := Lib.hid hT
  have HHF := Lib.hid HF
  have HHT := Lib.hid HT
  have HHC := Lib.hid HC
  have hbl := hR.lt
  have HV := Lib.hid hV
  have HROW := Lib.hid hR
  clear hcF hcT hvF hvT hF hT HF HT HC hR hmk hV
  go_enter Try.func21, Try.ntmps21
  go_wp2_with fail
  refine (c_arrowsL c1).mono ?_
  rintro e w0 ⟨rfl, b0⟩
  have r0 := rowIs_bel HROW.out b0
  have wi0 := within_bel (Within.refl b (b + 1) w) b0
  have hz0 := b0.size
  have hbl0 : b < w0.heap.size := by omega
  replace c4 := upc b0 c4
  have f4 := r0.frozen 4
  have hr0 := Lib.hid r0
  clear b0 c1 r0
  go_wp2_with fail
  have es : (w0.setCell ⟨b, 4, none⟩ (.slice (some ⟨w0.heap.size, 0, none⟩) m m)).heap.size = w0.heap.size := by simp [World.setCell]
  have wi1 := within_bel (wi0.setCell (p := ⟨b, 4, none⟩) (Nat.le_refl _) (Nat.lt_succ_self _) (.slice (some ⟨w0.heap.size, 0, none⟩) m m)) (bel_box _ (.cells (madeCells #[.slice none 0 0] m) 22))
  have r1b := rowIs_bel (hr0.out.set 4 (.slice (some ⟨w0.heap.size, 0, none⟩) m m)) (bel_box _ (.cells (madeCells #[.slice none 0 0] m) 22))
  have r1c := World.rowIs_made (w0.setCell ⟨b, 4, none⟩ (.slice (some ⟨w0.heap.size, 0, none⟩) m m)) (.slice none 0 0) m 22
  rw [es] at r1c
  have z1 : ((w0.setCell ⟨b, 4, none⟩ (.slice (some ⟨w0.heap.size, 0, none⟩) m m)).alloc (.cells (madeCells #[.slice none 0 0] m) 22)).heap.size = w0.heap.size + 1 := by simp [World.setCell]
  clear es
  generalize (w0.setCell ⟨b, 4, none⟩ (.slice (some ⟨w0.heap.size, 0, none⟩) m m)).alloc (.cells (madeCells #[.slice none 0 0] m) 22) = W1 at *
  generalize hCC : w0.heap.size = C at *
  have WI1 := Lib.hid wi1
  have R1B := Lib.hid r1b
  have R1C := Lib.hid r1c
  have Z1 := Lib.hid z1
  clear wi1 r1b r1c z1 hCC wi0 hr0 f4 c4 hmk2
  go_loopw [5, 6, 19] (fun _ _ iv wr => ∃ (k : Nat) (V0 : Nat → Value), k ≤ m ∧ iv = .int .i64 k ∧ Within b (b + 1) w wr ∧ C < wr.heap.size ∧ wr.rowIs b 25 5 (fun i => if i = 4 then .slice (some ⟨C, 0, none⟩) m m else R i) ∧ wr.rowIs C 22 m (fun j => if j < k then V0 j else .slice none 0 0) ∧
      Hid ((∀ j, j < k → OwnT 2 (C + 1) wr.heap.size wr (V0 j) (tab (fun g => if gi T j = gi F g then V j g else -1) m)) ∧ ∀ i j, i < k → j < k → i ≠ j → Dj (V0 i) (V0 j))) (fun _ _ iv _ => m - (intOf iv).toNat)
  case atStart => exact ⟨0, fun _ => undef, Nat.zero_le _, rfl, WI1.out, by rw [Z1.out]; omega, R1B.out, R1C.out.congr (fun i _ => by simp), (fun j hj => by omega), fun i j hi => by omega⟩
  case round =>
    obtain ⟨k, V0, hk, rfl, hw, hC, hrb, hrc, hV0⟩ := hrel
    by_cases hlt : k < m
    · have cb := hrb.cell (show 4 < 5 by omega)
      have cc := hrc.cell hlt
      have fc := hrc.frozen k
      simp only [if_true] at cb
      simp only [Nat.lt_irrefl, if_false] at cc
      have hmk := HMK.out
      have hbl2 : b < wr.heap.size := by omega
      have kp : (0 : Int) ≤ (k : Int) := by omega
      have kq : (k : Int) < (m : Int) := by omega
      go_wp2_with fail
      go_region
      have es : (wr.setCell ⟨C, k, none⟩ (.slice (some ⟨wr.heap.size, 0, none⟩) m m)).heap.size = wr.heap.size := by simp [World.setCell]
      have wic : Within C (C + 1) wr (((wr.setCell ⟨C, k, none⟩ (.slice (some ⟨wr.heap.size, 0, none⟩) m m)).alloc (.cells (madeCells #[.int .i64 0] m) 2)).drew) := (within_bel ((Within.refl C (C + 1) wr).setCell (p := ⟨C, k, none⟩) (Nat.le_refl _) (Nat.lt_succ_self _) _) (bel_box _ _)).trans ⟨rfl, rfl, rfl, Nat.le_refl _, fun _ _ _ => rfl⟩
      have wi5 : Within b (b + 1) w (((wr.setCell ⟨C, k, none⟩ (.slice (some ⟨wr.heap.size, 0, none⟩) m m)).alloc (.cells (madeCells #[.int .i64 0] m) 2)).drew) := (within_bel (within_high hw (p := ⟨C, k, none⟩) hz0 _) (bel_box _ _)).trans ⟨rfl, rfl, rfl, Nat.le_refl _, fun _ _ _ => rfl⟩
      have r5b := rowIs_within hrb wic (by omega)
      have r5c : (((wr.setCell ⟨C, k, none⟩ (.slice (some ⟨wr.heap.size, 0, none⟩) m m)).alloc (.cells (madeCells #[.int .i64 0] m) 2)).drew).rowIs C 22 m _ := (rowIs_bel (hrc.set k (.slice (some ⟨wr.heap.size, 0, none⟩) m m)) (bel_box _ (.cells (madeCells #[.int .i64 0] m) 2))).of_block rfl
      have r5r := World.rowIs_made (wr.setCell ⟨C, k, none⟩ (.slice (some ⟨wr.heap.size, 0, none⟩) m m)) (.int .i64 0) m 2
      rw [es] at r5r
      replace r5r : (((wr.setCell ⟨C, k, none⟩ (.slice (some ⟨wr.heap.size, 0, none⟩) m m)).alloc (.cells (madeCells #[.int .i64 0] m) 2)).drew).rowIs wr.heap.size 2 m _ := r5r.of_block rfl
      have z5 : (((wr.setCell ⟨C, k, none⟩ (.slice (some ⟨wr.heap.size, 0, none⟩) m m)).alloc (.cells (madeCells #[.int .i64 0] m) 2)).drew).heap.size = wr.heap.size + 1 := by simp [World.setCell]
      have HV5 : Hid ((∀ j, j < k → OwnT 2 (C + 1) wr.heap.size (((wr.setCell ⟨C, k, none⟩ (.slice (some ⟨wr.heap.size, 0, none⟩) m m)).alloc (.cells (madeCells #[.int .i64 0] m) 2)).drew) (V0 j) (tab (fun g => if gi T j = gi F g then V j g else -1) m)) ∧ ∀ i j, i < k → j < k → i ≠ j → Dj (V0 i) (V0 j)) :=
        ⟨fun j hj => (hV0.out.1 j hj).kept wic (.inr (Nat.le_refl _)), hV0.out.2⟩
      clear es wic hrb hrc hV0 cb cc fc hmk hw hbl2
      generalize ((wr.setCell ⟨C, k, none⟩ (.slice (some ⟨wr.heap.size, 0, none⟩) m m)).alloc (.cells (madeCells #[.int .i64 0] m) 2)).drew = W5 at *
      generalize hrr : wr.heap.size = r at *
      have hrC : C ≠ r := by omega
      have hrB : b ≠ r := by omega
      have hrw : w.heap.size ≤ r := by omega
      have cb := r5b.cell (show 4 < 5 by omega)
      have cc := r5c.cell hlt
      simp only [if_true] at cb cc
      have cb1 := r5b.cell (show 1 < 5 by omega)
      have cb2 := r5b.cell (show 2 < 5 by omega)
      simp only [show ¬ (1 = 4) by omega, show ¬ (2 = 4) by omega, if_false] at cb1 cb2
      have HW5 := Lib.hid (And.intro cb (And.intro cc (And.intro cb1 cb2)))
      have R5B := Lib.hid r5b
      have R5C := Lib.hid r5c
      have R5R := Lib.hid r5r
      have WI5 := Lib.hid wi5
      have hC5 : C < W5.heap.size := by omega
      have hb5 : b < W5.heap.size := by omega
      clear r5b r5c r5r wi5 hrr wr cb1 cb2
      go_wp2_with fail
      clear cb cc
      go_loopw [6, 38] (fun _ lv wr => ∃ l : Nat, l ≤ m ∧ lv = .int .i64 l ∧ Within r (r + 1) W5 wr ∧ wr.rowIs r 2 m (fun j => if j < l then .int .i64 (if gi T k = gi F j then V k j else -1) else .int .i64 0)) (fun _ lv _ => m - (intOf lv).toNat)
      case atStart => exact ⟨0, Nat.zero_le _, rfl, Within.refl _ _ _, R5R.out.congr (fun j _ => by simp)⟩
      case round =>
        obtain ⟨l, hl, rfl, hw6, hr6⟩ := hrel
        have hw6s := hw6.size
        have cb := within_cell hw6 HW5.out.1 (by omega)
        have cc := within_cell hw6 HW5.out.2.1 (by omega)
        by_cases hll : l < m
        · have cl := hr6.cell hll
          simp only [Nat.lt_irrefl, if_false] at cl
          have fl := hr6.frozen l
          have lp : (0 : Int) ≤ (l : Int) := by omega
          have lq : (l : Int) < (m : Int) := by omega
          go_wp2_with fail
          have hw7 := hw6.setCell (p := ⟨r, l, none⟩) (Nat.le_refl _) (Nat.lt_succ_self _) (.int .i64 (-1))
          have hr7 := hr6.set l (.int .i64 (-1))
          clear hw6 hr6 cl fl cb cc hw6s
          generalize wr.setCell ⟨r, l, none⟩ (.int .i64 (-1)) = W7 at *
          have hs7 := hw7.size
          have cb := within_cell hw7 HW5.out.1 (by omega)
          have cc := within_cell hw7 HW5.out.2.1 (by omega)
          have cb1 := within_cell hw7 HW5.out.2.2.1 (by omega)
          have cb2 := within_cell hw7 HW5.out.2.2.2 (by omega)
          rw [HVF.out] at cb1
          rw [HVT.out] at cb2
          obtain rfl := haF (by omega)
          obtain rfl := haT (by omega)
          have wi7 := within_new WI5.out hw7 hrw
          obtain ⟨cF, cT⟩ : W7.cell? ⟨bF, oF + l, none⟩ = some (.int .i64 (gi F l)) ∧ W7.cell? ⟨bT, oT + k, none⟩ = some (.int .i64 (gi T k)) := by
            have i1 := (HHF.out _ wi7).ex
            have i2 := (HHT.out _ wi7).ex
            rw [HVF.out, HFL.out] at i1
            rw [HVT.out, HTL.out] at i2
            obtain ⟨a1, b1, o1, k1, e1, e2, e3⟩ := i1
            obtain ⟨a2, b2, o2, k2, f1, f2, f3⟩ := i2
            injection e1 with e1 _ _
            injection f1 with f1 _ _
            rw [e2 (by omega)] at e1
            rw [f2 (by omega)] at f1
            injection e1 with e1
            injection f1 with f1
            injection e1 with g1 g2
            injection f1 with g3 g4
            rw [g1, g2, g3, g4]
            exact ⟨e3 l hll, f3 k hlt⟩
          have WI7 := Lib.hid wi7
          have HW7 := Lib.hid hw7
          have HR7 := Lib.hid hr7
          have hC7 : C < W7.heap.size := by omega
          have hb7 : b < W7.heap.size := by omega
          clear wi7 hw7 hr7
          by_cases he : gi T k = gi F l
          · have heb : (gi T k == gi F l) = true := by simp [he]
            have HE := Lib.hid he
            clear he
            go_wp2_with fail
            go_quiet (fail)
            clear cF cT cb1 cb2
            have dq : Below W7.heap.size W7 (W7.drewN nq) := Drawn.below ⟨_, rfl⟩ _
            replace cb := upc dq cb
            replace cc := upc dq cc
            have HR8 := Lib.hid (rowIs_bel HR7.out dq)
            have HW8 : Hid (Within r (r + 1) W5 (W7.drewN nq)) := HW7.out.trans ⟨rfl, rfl, rfl, Nat.le_refl _, fun _ _ _ => rfl⟩
            have hs8 : W7.heap.size = (W7.drewN nq).heap.size := by simp
            rw [hs8] at hC7 hb7
            clear dq hs8 HW7 HR7 WI7 hs7
            generalize W7.drewN nq = W8 at *
            have kt : KT W8 b C r k m l (fun j => if j = l then .int .i64 (-1) else if j < l then .int .i64 (if gi T k = gi F j then V k j else -1) else .int .i64 0) W8 := KT.start cb cc HR8.out (fun j _ _ => rfl) ⟨hrB, hrC, hll⟩
            have HI := Lib.hid (HV.out k l hlt hll HE.out)
            have HK := Lib.hid (fun W (hW : Within r (r + 1) W8 W) => HHC.out W k l hlt hll HE.out (within_new WI5.out (HW8.out.trans hW) hrw) (within_cell (HW8.out.trans hW) HW5.out.2.2.1 (by omega)) (within_cell (HW8.out.trans hW) HW5.out.2.2.2 (by omega)))
            have ktd := kt.drew
            have ktall := ktd.all
            go_wp2_with fail
            go_region_held3 (fun w' => KT W8 b C r k m l (fun j => if j = l then .int .i64 (-1) else if j < l then .int .i64 (if gi T k = gi F j then V k j else -1) else .int .i64 0) w' ∧ w'.cell? ⟨b, 4, none⟩ = some (.slice (some ⟨C, 0, none⟩) m m) ∧ w'.cell? ⟨C, k, none⟩ = some (.slice (some ⟨r, 0, none⟩) m m) ∧ w'.cell? ⟨r, l, none⟩ = some (cv w' r l) ∧ w'.frozen? ⟨r, l, none⟩ = false)
              (first | with_reducible exact ktall | (with_reducible refine (KT.call ?_ b9).all; with_reducible exact And.left (by assumption)) | (with_reducible refine (KT.drew (KT.call ?_ b9)).all; with_reducible exact KT.un (And.left (by assumption))) | (with_reducible refine (KT.set ?_ _).all; with_reducible exact And.left (by assumption)) | (with_reducible refine (KT.drew (KT.set ?_ _)).all; with_reducible exact KT.un (And.left (by assumption))))
              (first | (go_at_call 22; (with_reducible refine (HK.out _ (KT.wi (And.left (by assumption)))).mono ?_); rintro e w9 ⟨rfl, b9⟩))
            have kt9 := KT.call ktd b9
            have WI9 := Lib.hid (HW8.out.trans (kt9.wi.setCell (p := ⟨r, l, none⟩) (Nat.le_refl _) (Nat.lt_succ_self _) (.int .i64 (V k l))))
            have RR9 := Lib.hid (kt9.row (.int .i64 (V k l)))
            clear kt9 kt ktd ktall cb cc HR8
            go_wp2_with fail
            go_roundw
            case rel =>
              refine ⟨l + 1, by omega, by go_num, WI9.out, RR9.out.congr fun j _ => ?_⟩
              by_cases e : j = l
              · subst e; rw [if_pos rfl, if_pos (by omega), if_pos HE.out]
              · rw [if_neg e, if_neg e]
                by_cases h : j < l
                · rw [if_pos h, if_pos (show j < l + 1 by omega)]
                · rw [if_neg h, if_neg (show ¬ j < l + 1 by omega)]
            case measure => simp [intOf]; omega
          · have heb : (gi T k == gi F l) = false := by simp [he]
            have HE := Lib.hid he
            clear he
            go_wp2_with fail
            go_quiet (fail)
            clear cF cT cb1 cb2 cb cc
            go_wp2_with fail
            go_roundw
            case rel =>
              refine ⟨l + 1, by omega, by go_num, HW7.out.trans ⟨rfl, rfl, rfl, Nat.le_refl _, fun _ _ _ => rfl⟩, (HR7.out.congr fun j _ => ?_).of_block rfl⟩
              by_cases e : j = l
              · subst e; rw [if_pos rfl, if_pos (by omega), if_neg HE.out]
              · rw [if_neg e]
                by_cases h : j < l
                · rw [if_pos h, if_pos (show j < l + 1 by omega)]
                · rw [if_neg h, if_neg (show ¬ j < l + 1 by omega)]
            case measure => simp [intOf]; omega
        · have hlm : m = l := by omega
          have HWI := Lib.hid (within_new WI5.out hw6 hrw)
          have HRB := Lib.hid (rowIs_within R5B.out hw6 hrB)
          have HRC := Lib.hid (rowIs_within R5C.out hw6 hrC)
          have HOW := Lib.hid (fun j hj => ((HV5.out.1 j hj).kept hw6 (.inl (Nat.le_refl _))))
          have hrow : wr.rowIs r 2 (tab (fun g => if gi T k = gi F g then V k g else -1) m).length (fun j => if j < l then .int .i64 (if gi T k = gi F j then V k j else -1) else .int .i64 0) := by rw [tab_length]; exact hr6
          have hown : OwnT 2 (C + 1) wr.heap.size wr (.slice (some ⟨r, 0, none⟩) m m) (tab (fun g => if gi T k = gi F g then V k g else -1) m) := by
            have h := Own.of_row (B := C + 1) hrow (by omega) (fun i hi => by
              rw [tab_length] at hi
              rw [if_pos (by omega), gi_tab hi]) (tab_I64 fun i hi => by
                by_cases e : gi T k = gi F i
                · rw [if_pos e]; exact HV.out k i hlt hi e
                · rw [if_neg e]; constructor <;> omega) (by rw [tab_length]; omega)
            rw [tab_length] at h
            exact ⟨h, fun q hq => (h.lt q hq).2⟩
          have HNEW := Lib.hid hown
          clear hr6 hw6 hrow hown cb cc
          subst hlm
          go_wp2_with fail
          go_roundw
          case rel =>
            refine ⟨k + 1, fun j => if j = k then .slice (some ⟨r, 0, none⟩) m m else V0 j, by omega, by go_num, HWI.out, by omega, HRB.out, HRC.out.congr (fun j _ => ?_), fun j hj => ?_, fun i j hi hj hij => ?_⟩ <;> (try dsimp only)
            · by_cases e : j = k
              · subst e; simp
              · rw [if_neg e]
                by_cases h : j < k
                · rw [if_pos h, if_pos (by omega), if_neg e]
                · rw [if_neg h, if_neg (by omega)]
            · by_cases e : j = k
              · subst e; rw [if_pos rfl]; exact HNEW.out
              · rw [if_neg e]; exact (HOW.out j (by omega)).mono (Nat.le_refl _) (by omega)
            · have hlo : ∀ q, q < k → ∀ z, (V0 q).ownBlock = some z → z < r := fun q hq z hz => (HV5.out.1 q hq).top z hz
              have hhi : ∀ z, (Value.slice (some ⟨r, 0, none⟩) m m).ownBlock = some z → r ≤ z := fun z hz => by
                have hz' : some r = some z := hz
                injection hz' with hz'; omega
              by_cases e : i = k <;> by_cases e' : j = k
              · omega
              · rw [if_pos e, if_neg e']; exact (Dj.of_lt (hlo j (by omega)) hhi).symm
              · rw [if_neg e, if_pos e']; exact Dj.of_lt (hlo i (by omega)) hhi
              · rw [if_neg e, if_neg e']; exact HV5.out.2 i j (by omega) (by omega) hij
          case measure => simp [intOf]; omega
    · have hkm : m = k := by omega
      subst hkm
      have HRC := Lib.hid (hrc.congr (fun i hi => if_pos hi))
      have HRB := Lib.hid hrb
      have HW := Lib.hid hw
      clear hrc hrb hw
      go_wp2_with fail
      go_end0
      refine ⟨rfl, HW.out, _, HRB.out, V0, ownsRow_of_row HRC.out hz0 (by omega), fun q hq => ?_, fun i hi => (hV0.out.1 i hi).mono (by omega) (Nat.le_refl _), hV0.out.2, fun i hi => ?_⟩
      · have hq' : some C = some q := hq
        injection hq' with hq'; omega
      · exact (Dj.of_lt (N := C + 1) (fun q hq => by
          have hq' : some C = some q := hq
          injection hq' with hq'; omega) (fun q hq => ((hV0.out.1 i hi).lt q hq).1)).symm
end Go.Proofs.Ytllbjckbinolmaa
