/-
  Chapter 3: ChainCategory of program and reference.
-/
import Derived.Test.YtmigbcadldkmfaaPos2
namespace Go.Proofs.Ytmigbcadldkmfaa
open Go.RowKit

noncomputable def chR (n : Int) : Cat × Int := if inR n 0 8 = true then (posC (chT n.toNat), 0) else (nilC, 2)
theorem chR_0 {m : Nat} (h : inR (m : Int) 0 8 = true) : chR (m : Int) = (posC (chT m), 0) := by unfold chR; rw [if_pos h]; rfl
theorem chR_2 {n : Int} (h : inR n 0 8 = false) : chR n = (nilC, 2) := by unfold chR; rw [h]; rfl
theorem inR8 {n : Int} (h : inR n 0 8 = true) : ∃ m : Nat, n = (m : Int) ∧ m ≤ 8 := by
  unfold inR at h
  have := of_decide_eq_true h
  exact ⟨n.toNat, by omega, by omega⟩
theorem mkO_put {w W : World} {b B T' : Nat} {T : TypeId} (hR : RS w b T W) {c : Cat} {x0 x1 x2 x3 x4 : Value} (ho : OwnC B T' W (.agg #[x0, x1, x2, x3, x4]) c) (hb : b < B) :
    OwnC w.heap.size (set5 W b x0 x1 x2 x3 x4).heap.size (set5 W b x0 x1 x2 x3 x4) (.agg #[x0, x1, x2, x3, x4]) c := by
  have hs := set5_size W b x0 x1 x2 x3 x4
  have hb2 := hR.2.1
  exact (ho.kept (set5_within W b x0 x1 x2 x3 x4) (.inr (by omega))).mono (by omega) (by have := ho.top; omega) (Nat.le_refl _)
theorem gr_rows {xs : List (List Int)} {i : Nat} : gr xs i = gr xs i := rfl
set_option maxHeartbeats 3200000 in
theorem c_chain {w : World} {m : Nat} (hm : m ≤ 8) : Calls Try.prog 26 #[.int .i64 (m : Int)] w (Mk w fun w' u => OwnC w.heap.size w'.heap.size w' u (posC (chT m))) := by
  have hmk := run_make_row' (P := Try.prog) 22 2 (.int .i64 0) 8 Try.underlying22 infoInt64 rfl .i64 .i64 m (by omega) (by omega)
  have hmk2 := run_make_row' (P := Try.prog) 23 22 (.slice none 0 0) 24 Try.underlying23 infoInts rfl .i64 .i64 m (by omega) (by omega)
  have HMK := Lib.hid hmk
  clear hmk
  go_enter Try.func26, Try.ntmps26
  go_wp2_with fail
  have B0 : RS w w.heap.size 25 (w.alloc (.cells #[.int .i64 0, .slice none 0 0, .slice none 0 0, .slice none 0 0, .slice none 0 0] 25)) := RS.start (x0 := .int .i64 0) (x1 := .slice none 0 0) (x2 := .slice none 0 0) (x3 := .slice none 0 0) (x4 := .slice none 0 0) 0
  have z0 : (w.alloc (.cells #[.int .i64 0, .slice none 0 0, .slice none 0 0, .slice none 0 0, .slice none 0 0] 25)).heap.size = w.heap.size + 1 := by simp
  have r0 := World.rowIs_made (w.alloc (.cells #[.int .i64 0, .slice none 0 0, .slice none 0 0, .slice none 0 0, .slice none 0 0] 25)) (.slice none 0 0) m 22
  have B1 := B0.alloc (.cells (madeCells #[.slice none 0 0] m) 22)
  have z1 : ((w.alloc (.cells #[.int .i64 0, .slice none 0 0, .slice none 0 0, .slice none 0 0, .slice none 0 0] 25)).alloc (.cells (madeCells #[.slice none 0 0] m) 22)).heap.size = w.heap.size + 1 + 1 := by simp
  rw [z0] at r0
  clear B0 z0 hmk2
  generalize (w.alloc (.cells #[.int .i64 0, .slice none 0 0, .slice none 0 0, .slice none 0 0, .slice none 0 0] 25)).alloc (.cells (madeCells #[.slice none 0 0] m) 22) = W1 at *
  generalize hCC : w.heap.size + 1 = C at *
  have HB1 := Lib.hid B1
  have HR0 := Lib.hid r0
  have HZ1 := Lib.hid z1
  have hCq : w.heap.size < C := by omega
  clear B1 r0 z1 hCC
  go_loopw [4, 5, 12] (fun _ _ iv wr => ∃ (k : Nat) (V0 : Nat → Value), k ≤ m ∧ iv = .int .i64 k ∧ RS w w.heap.size 25 wr ∧ C < wr.heap.size ∧ wr.rowIs C 22 m (fun j => if j < k then V0 j else .slice none 0 0) ∧
      Hid ((∀ j, j < k → OwnT 2 (C + 1) wr.heap.size wr (V0 j) (gr (chT m) j)) ∧ ∀ i j, i < k → j < k → i ≠ j → Dj (V0 i) (V0 j))) (fun _ _ iv _ => m - (intOf iv).toNat)
  case atStart => exact ⟨0, fun _ => undef, Nat.zero_le _, rfl, HB1.out, by rw [HZ1.out]; omega, HR0.out.congr (fun i _ => by simp), (fun j hj => by omega), fun i j hi => by omega⟩
  case round =>
    obtain ⟨k, V0, hk, rfl, hR, hC, hrc, hV0⟩ := hrel
    by_cases hlt : k < m
    · have cc := hrc.cell hlt
      have fc := hrc.frozen k
      simp only [Nat.lt_irrefl, if_false] at cc
      have hmk := HMK.out
      have kp : (0 : Int) ≤ (k : Int) := by omega
      have kq : (k : Int) < (m : Int) := by omega
      go_wp2_with fail
      have es : (wr.setCell ⟨C, k, none⟩ (.slice (some ⟨wr.heap.size, 0, none⟩) m m)).heap.size = wr.heap.size := by simp [World.setCell]
      have wic : Within C (C + 1) wr (((wr.setCell ⟨C, k, none⟩ (.slice (some ⟨wr.heap.size, 0, none⟩) m m)).alloc (.cells (madeCells #[.int .i64 0] m) 2))) := (within_bel ((Within.refl C (C + 1) wr).setCell (p := ⟨C, k, none⟩) (Nat.le_refl _) (Nat.lt_succ_self _) _) (bel_box _ _)).trans ⟨rfl, rfl, rfl, Nat.le_refl _, fun _ _ _ => rfl⟩
      have hR5 : RS w w.heap.size 25 (((wr.setCell ⟨C, k, none⟩ (.slice (some ⟨wr.heap.size, 0, none⟩) m m)).alloc (.cells (madeCells #[.int .i64 0] m) 2))) := ((hR.grow (grew_set (k := C) (i := k) _) (Dj.lit (by omega)) (fun z hz => by have e : some C = some z := hz; injection e with e; omega)).alloc _)
      have r5c : (((wr.setCell ⟨C, k, none⟩ (.slice (some ⟨wr.heap.size, 0, none⟩) m m)).alloc (.cells (madeCells #[.int .i64 0] m) 2))).rowIs C 22 m _ := (rowIs_bel (hrc.set k (.slice (some ⟨wr.heap.size, 0, none⟩) m m)) (bel_box _ (.cells (madeCells #[.int .i64 0] m) 2))).of_block rfl
      have r5r := World.rowIs_made (wr.setCell ⟨C, k, none⟩ (.slice (some ⟨wr.heap.size, 0, none⟩) m m)) (.int .i64 0) m 2
      rw [es] at r5r
      replace r5r : (((wr.setCell ⟨C, k, none⟩ (.slice (some ⟨wr.heap.size, 0, none⟩) m m)).alloc (.cells (madeCells #[.int .i64 0] m) 2))).rowIs wr.heap.size 2 m _ := r5r.of_block rfl
      have z5 : (((wr.setCell ⟨C, k, none⟩ (.slice (some ⟨wr.heap.size, 0, none⟩) m m)).alloc (.cells (madeCells #[.int .i64 0] m) 2))).heap.size = wr.heap.size + 1 := by simp [World.setCell]
      have HV5 : Hid ((∀ j, j < k → OwnT 2 (C + 1) wr.heap.size (((wr.setCell ⟨C, k, none⟩ (.slice (some ⟨wr.heap.size, 0, none⟩) m m)).alloc (.cells (madeCells #[.int .i64 0] m) 2))) (V0 j) (gr (chT m) j)) ∧ ∀ i j, i < k → j < k → i ≠ j → Dj (V0 i) (V0 j)) :=
        ⟨fun j hj => (hV0.out.1 j hj).kept wic (.inr (Nat.le_refl _)), hV0.out.2⟩
      clear es wic hrc hV0 cc fc hmk hR
      generalize (((wr.setCell ⟨C, k, none⟩ (.slice (some ⟨wr.heap.size, 0, none⟩) m m)).alloc (.cells (madeCells #[.int .i64 0] m) 2))) = W5 at *
      generalize hrr : wr.heap.size = r at *
      have hrC : C ≠ r := by omega
      have cc := r5c.cell hlt
      simp only [if_true] at cc
      have HW5 := Lib.hid cc
      have R5C := Lib.hid r5c
      have R5R := Lib.hid r5r
      have HR5 := Lib.hid hR5
      have hC5 : C < W5.heap.size := by omega
      clear r5c r5r hR5 hrr wr cc
      go_wp2_with fail
      go_loopw [5] (fun lv wr => ∃ l : Nat, k ≤ l ∧ l ≤ m ∧ lv = .int .i64 l ∧ Within r (r + 1) W5 wr ∧ wr.rowIs r 2 m (fun j => if j < k then .int .i64 0 else if j < l then .int .i64 1 else .int .i64 0)) (fun lv _ => m - (intOf lv).toNat)
      case atStart => exact ⟨k, Nat.le_refl _, by omega, rfl, Within.refl _ _ _, R5R.out.congr (fun j _ => by (repeat' split) <;> first | rfl | omega)⟩
      case round =>
        obtain ⟨l, hkl, hl, rfl, hw6, hr6⟩ := hrel
        have hw6s := hw6.size
        have cc := within_cell hw6 HW5.out (by omega)
        by_cases hll : l < m
        · have cl := hr6.cell hll
          simp only [show ¬ (l < k) by omega, Nat.lt_irrefl, if_false] at cl
          have fl := hr6.frozen l
          have lp : (0 : Int) ≤ (l : Int) := by omega
          have lq : (l : Int) < (m : Int) := by omega
          have HW7 := Lib.hid (hw6.setCell (p := ⟨r, l, none⟩) (Nat.le_refl _) (Nat.lt_succ_self _) (.int .i64 1))
          have HR7 := Lib.hid (hr6.set l (.int .i64 1))
          clear hw6 hr6
          go_wp2_with fail
          go_roundw
          case rel =>
            refine ⟨l + 1, by omega, by omega, by go_num, HW7.out, HR7.out.congr fun j _ => ?_⟩
            by_cases e : j = l
            · subst e; rw [if_pos rfl, if_neg (show ¬ j < k by omega), if_pos (show j < j + 1 by omega)]
            · rw [if_neg e]
              by_cases h1 : j < k
              · rw [if_pos h1, if_pos h1]
              · rw [if_neg h1, if_neg h1]
                by_cases h : j < l
                · rw [if_pos h, if_pos (show j < l + 1 by omega)]
                · rw [if_neg h, if_neg (show ¬ j < l + 1 by omega)]
          case measure => simp [intOf]; omega
        · have hlm : m = l := by omega
          have HRS : Hid (RS w w.heap.size 25 wr) := (by
            obtain ⟨q1, q2, f, q3⟩ := HR5.out
            have q1s := q1.size
            exact ⟨⟨hw6.os.trans q1.os, hw6.tape.trans q1.tape, hw6.output.trans q1.output, Nat.le_trans q1.size hw6.size, fun z hz => (hw6.block z (.inl (by omega)) (by omega)).trans (q1.block z hz)⟩, q2, f, rowIs_within q3 hw6 (by omega)⟩ : RS w w.heap.size 25 wr)
          have HRC := Lib.hid (rowIs_within R5C.out hw6 hrC)
          have HOW := Lib.hid (fun j hj => ((HV5.out.1 j hj).kept hw6 (.inl (Nat.le_refl _))))
          have hrow : wr.rowIs r 2 (tab (fun j => if j < k then 0 else 1) m).length (fun j => if j < k then .int .i64 0 else if j < l then .int .i64 1 else .int .i64 0) := by rw [tab_length]; exact hr6
          have hown : OwnT 2 (C + 1) wr.heap.size wr (.slice (some ⟨r, 0, none⟩) m m) (gr (chT m) k) := by
            have h := Own.of_row (B := C + 1) hrow (by omega) (fun i hi => by
              rw [tab_length] at hi
              rw [gi_tab hi]
              by_cases h1 : i < k
              · rw [if_pos h1, if_pos h1]
              · rw [if_neg h1, if_neg h1, if_pos (by omega)]) (tab_I64 fun i hi => by split <;> constructor <;> omega) (by rw [tab_length]; omega)
            rw [tab_length] at h
            rw [gr_chT hlt]
            exact ⟨h, fun q hq => (h.lt q hq).2⟩
          have HNEW := Lib.hid hown
          clear hr6 hw6 hrow hown cc
          subst hlm
          go_wp2_with fail
          go_roundw
          case rel =>
            refine ⟨k + 1, fun j => if j = k then .slice (some ⟨r, 0, none⟩) m m else V0 j, by omega, by go_num, HRS.out, by omega, HRC.out.congr (fun j _ => ?_), fun j hj => ?_, fun i j hi hj hij => ?_⟩ <;> (try dsimp only)
            · by_cases e : j = k
              · subst e; simp
              · rw [if_neg e]
                by_cases h : j < k
                · rw [if_pos h, if_pos (by omega), if_neg e]
                · rw [if_neg h, if_neg (by omega)]
            · by_cases e : j = k
              · subst e; rw [if_pos rfl]; exact HNEW.out
              · rw [if_neg e]; exact (HOW.out j (by omega)).mono (Nat.le_refl _) (by omega)
            · have hlo : ∀ q, q < k → ∀ z, (V0 q).ownBlock = some z → z < r := fun q hq z hz => (HV5.out.1 q hq).top z hz
              have hhi : ∀ z, (Value.slice (some ⟨r, 0, none⟩) m m).ownBlock = some z → r ≤ z := fun z hz => by
                have hz' : some r = some z := hz
                injection hz' with hz'; omega
              by_cases e : i = k <;> by_cases e' : j = k
              · omega
              · rw [if_pos e, if_neg e']; exact (Dj.of_lt (hlo j (by omega)) hhi).symm
              · rw [if_neg e, if_pos e']; exact Dj.of_lt (hlo i (by omega)) hhi
              · rw [if_neg e, if_neg e']; exact HV5.out.2 i j (by omega) (by omega) hij
          case measure => simp [intOf]; omega
    · have hkm : m = k := by omega
      subst hkm
      have hrc2 := hrc.congr (fun i hi => if_pos hi)
      have hof : OF 2 22 w.heap.size wr.heap.size wr (.slice (some ⟨C, 0, none⟩) m m) m (gr (chT m)) := by
        refine ⟨V0, ownsRow_of_row hrc2 (by omega) (by omega), fun q hq => ?_, fun i hi => (hV0.out.1 i hi).mono (by omega) (Nat.le_refl _), hV0.out.2, fun i hi => ?_⟩
        · have hq' : some C = some q := hq
          injection hq' with hq'; omega
        · exact (Dj.of_lt (N := C + 1) (fun q hq => by
            have hq' : some C = some q := hq
            injection hq' with hq'; omega) (fun q hq => ((hV0.out.1 i hi).lt q hq).1)).symm
      have hcl := chT_len m
      have hof2 : OF 2 22 w.heap.size wr.heap.size wr (.slice (some ⟨C, 0, none⟩) m m) (chT m).length (gr (chT m)) := by rw [hcl]; exact hof
      have HI := Lib.hid (i_PreorderCategory (hof2.iss (by omega)))
      rw [preR_chT hm] at HI
      have HR := Lib.hid hR
      clear hrc hrc2 hof hof2 hcl hR
      go_wp2_with fail
      refine HI.out.mono ?_
      rintro e w2 ⟨u, rfl, ho, b2⟩
      have R2 := HR.out.call b2
      obtain ⟨n1, aF, lF, kF, aT, lT, kT, aI, lI, kI, aC, lC, kC, rfl⟩ := ho.shape5
      have R3 := R2.alloc (.cells #[.int .i64 n1, .slice aF lF kF, .slice aT lT kT, .slice aI lI kI, .slice aC lC kC] 25)
      have ho3 := ho.keptB (bel_box w2 (.cells #[.int .i64 n1, .slice aF lF kF, .slice aT lT kT, .slice aI lI kI, .slice aC lC kC] 25))
      obtain ⟨-, x0, x1, x2, x3, x4, f0, f1, f2, f3, f4⟩ := R3.all
      clear b2 R2 ho
      go_wp2_with fail
      refine bodyPost_ret (results_cell_row rfl _ _ w.heap.size 25 #[_, _, _, _, _] (0, 0) _ (by rfl) (RS.five (w := w) R3 _ _ _ _ _) Try.underlying25 rfl (by kernel_rfl)) rfl ?_
      exact ⟨_, rfl, mkO_put R3 ho3 (by omega), R3.five_bel _ _ _ _ _⟩
theorem i_ChainCategory (n : Int) (_ : I64 n) {w : World} : Calls Try.prog 7 #[.int .i64 n] w (MkC w (chR n)) := by
  have B0 : RS w w.heap.size 25 (w.alloc (.cells #[.int .i64 0, .slice none 0 0, .slice none 0 0, .slice none 0 0, .slice none 0 0] 25)) := RS.start (x0 := .int .i64 0) (x1 := .slice none 0 0) (x2 := .slice none 0 0) (x3 := .slice none 0 0) (x4 := .slice none 0 0) 0
  have HB0 := Lib.hid B0
  clear B0
  cases hn : inR n 0 8 with
  | true =>
    obtain ⟨m, rfl, hm⟩ := inR8 hn
    have hr := chR_0 hn
    have HN := Lib.hid hn
    clear hn
    go_enter Try.func7, Try.ntmps7
    go_wp2_with fail
    refine (c_inRange (m : Int) 0 8 _).mono ?_
    rintro e w' ⟨rfl, n1, rfl⟩
    rw [HN.out]
    have B1 := HB0.out.drawn (w'' := (w.alloc (.cells #[.int .i64 0, .slice none 0 0, .slice none 0 0, .slice none 0 0, .slice none 0 0] 25)).drewN n1) ⟨_, rfl⟩
    have z1 : ((w.alloc (.cells #[.int .i64 0, .slice none 0 0, .slice none 0 0, .slice none 0 0, .slice none 0 0] 25)).drewN n1).heap.size = w.heap.size + 1 := by simp
    generalize (w.alloc (.cells #[.int .i64 0, .slice none 0 0, .slice none 0 0, .slice none 0 0, .slice none 0 0] 25)).drewN n1 = W0 at *
    go_wp2_with fail
    refine (c_chain hm).mono ?_
    rintro e w2 ⟨u, rfl, ho, b2⟩
    have R2 := B1.call b2
    obtain ⟨n1, aF, lF, kF, aT, lT, kT, aI, lI, kI, aC, lC, kC, rfl⟩ := ho.shape5
    obtain ⟨-, x0, x1, x2, x3, x4, f0, f1, f2, f3, f4⟩ := R2.all
    clear b2
    go_wp2_with fail
    refine bodyPost_ret (results_cell_row2 rfl _ _ w.heap.size 25 #[_, _, _, _, _] (0, 0) _ (by rfl) (RS.five (w := w) R2 _ _ _ _ _) Try.underlying25 rfl (by kernel_rfl)) rfl ?_
    rw [hr]
    exact mkC_put R2 0 ho (by omega)
  | false =>
    have hr := chR_2 hn
    go_enter Try.func7, Try.ntmps7
    go_wp2_with fail
    refine (c_inRange n 0 8 _).mono ?_
    rintro e w' ⟨rfl, n1, rfl⟩
    rw [hn]
    have B1 := HB0.out.drawn (w'' := (w.alloc (.cells #[.int .i64 0, .slice none 0 0, .slice none 0 0, .slice none 0 0, .slice none 0 0] 25)).drewN n1) ⟨_, rfl⟩
    generalize (w.alloc (.cells #[.int .i64 0, .slice none 0 0, .slice none 0 0, .slice none 0 0, .slice none 0 0] 25)).drewN n1 = W0 at *
    obtain ⟨-, x0, x1, x2, x3, x4, f0, f1, f2, f3, f4⟩ := B1.all
    go_wp2_with fail
    refine bodyPost_ret (results_cell_row2 rfl _ _ w.heap.size 25 #[_, _, _, _, _] (0, 0) _ (by rfl) (RS.five (w := w) B1 _ _ _ _ _) Try.underlying25 rfl (by kernel_rfl)) rfl ?_
    exact mkC_nil5 B1 hr
set_option maxHeartbeats 3200000 in
theorem s_ChainCategory (n : Int) (_ : I64 n) {w : World} : Calls Try.prog 6 #[.int .i64 n] w (MkV w (chR n)) := by
  have B0 : RS w w.heap.size 25 (w.alloc (.cells #[.int .i64 0, .slice none 0 0, .slice none 0 0, .slice none 0 0, .slice none 0 0] 25)) := RS.start (x0 := .int .i64 0) (x1 := .slice none 0 0) (x2 := .slice none 0 0) (x3 := .slice none 0 0) (x4 := .slice none 0 0) 0
  have HB0 := Lib.hid B0
  clear B0
  cases hn : inR n 0 8 with
  | true =>
    obtain ⟨m, rfl, hm⟩ := inR8 hn
    have hr := chR_0 hn
    have HN := Lib.hid hn
    have HR := Lib.hid hr
    have hmk := run_make_row' (P := Try.prog) 22 2 (.int .i64 0) 8 Try.underlying22 infoInt64 rfl .i64 .i64 m (by omega) (by omega)
    have HMK := Lib.hid hmk
    clear hn hr hmk
    go_enter Try.func6, Try.ntmps6
    go_wp2_with fail
    refine (c_l01In (m : Int) 0 8 _).mono ?_
    rintro e w' ⟨rfl, n1, rfl⟩
    rw [HN.out]
    have B1 := HB0.out.drawn (w'' := (w.alloc (.cells #[.int .i64 0, .slice none 0 0, .slice none 0 0, .slice none 0 0, .slice none 0 0] 25)).drewN n1) ⟨_, rfl⟩
    have z1 : ((w.alloc (.cells #[.int .i64 0, .slice none 0 0, .slice none 0 0, .slice none 0 0, .slice none 0 0] 25)).drewN n1).heap.size = w.heap.size + 1 := by simp
    generalize (w.alloc (.cells #[.int .i64 0, .slice none 0 0, .slice none 0 0, .slice none 0 0, .slice none 0 0] 25)).drewN n1 = W0 at *
    have HB1 := Lib.hid B1
    have HZ1 := Lib.hid z1
    clear B1 z1
    go_wp2_with fail
    go_loopw [4, 5, 6, 7] (fun rv iv _ _ wr => ∃ i : Nat, i ≤ m ∧ iv = .int .i64 i ∧ RS w w.heap.size 25 wr ∧ OF 2 22 (w.heap.size + 1) wr.heap.size wr rv i (gr (chT m))) (fun _ iv _ _ _ => m - (intOf iv).toNat)
    case atStart => exact ⟨0, Nat.zero_le _, rfl, HB1.out.alloc _, by rw [World.size_alloc]; exact OF.empty (by rw [HZ1.out]; omega) rfl⟩
    case round =>
      obtain ⟨i, hi, rfl, hR, ho⟩ := hrel
      by_cases hlt : i < m
      · have hmk := HMK.out
        have hqs := hR.lt
        have hR2 := hR.alloc (.cells (madeCells #[.int .i64 0] m) 2)
        have ho2 := ho.keptB (bel_box wr (.cells (madeCells #[.int .i64 0] m) 2))
        have rr := World.rowIs_made wr (.int .i64 0) m 2
        have zr : (wr.alloc (.cells (madeCells #[.int .i64 0] m) 2)).heap.size = wr.heap.size + 1 := by simp
        go_wp2_with fail
        generalize wr.alloc (.cells (madeCells #[.int .i64 0] m) 2) = W2 at *
        generalize wr.heap.size = r at *
        have HR2 := Lib.hid hR2
        have HO2 := Lib.hid ho2
        have HRR := Lib.hid rr
        clear hR ho hR2 ho2 rr hmk
        go_loopw [7] (fun lv wr => ∃ l : Nat, i ≤ l ∧ l ≤ m ∧ lv = .int .i64 l ∧ Within r (r + 1) W2 wr ∧ wr.rowIs r 2 m (fun j => if j < i then .int .i64 0 else if j < l then .int .i64 1 else .int .i64 0)) (fun lv _ => m - (intOf lv).toNat)
        case atStart => exact ⟨i, Nat.le_refl _, by omega, rfl, Within.refl _ _ _, HRR.out.congr (fun j _ => by (repeat' split) <;> first | rfl | omega)⟩
        case round =>
          obtain ⟨l, hil, hl, rfl, hw6, hr6⟩ := hrel
          by_cases hll : l < m
          · have cl := hr6.cell hll
            simp only [show ¬ (l < i) by omega, Nat.lt_irrefl, if_false] at cl
            have fl := hr6.frozen l
            have lp : (0 : Int) ≤ (l : Int) := by omega
            have lq : (l : Int) < (m : Int) := by omega
            have HW7 := Lib.hid (hw6.setCell (p := ⟨r, l, none⟩) (Nat.le_refl _) (Nat.lt_succ_self _) (.int .i64 1))
            have HR7 := Lib.hid (hr6.set l (.int .i64 1))
            clear hw6 hr6
            go_wp2_with fail
            go_roundw
            case rel =>
              refine ⟨l + 1, by omega, by omega, by go_num, HW7.out, HR7.out.congr fun j _ => ?_⟩
              by_cases e : j = l
              · subst e; rw [if_pos rfl, if_neg (show ¬ j < i by omega), if_pos (show j < j + 1 by omega)]
              · rw [if_neg e]
                by_cases h1 : j < i
                · rw [if_pos h1, if_pos h1]
                · rw [if_neg h1, if_neg h1]
                  by_cases h : j < l
                  · rw [if_pos h, if_pos (show j < l + 1 by omega)]
                  · rw [if_neg h, if_neg (show ¬ j < l + 1 by omega)]
            case measure => simp [intOf]; omega
          · have hlm : m = l := by omega
            have hw6s := hw6.size
            have HRS : Hid (RS w w.heap.size 25 wr) := (by
              obtain ⟨q1, q2, f, q3⟩ := HR2.out
              have q1s := q1.size
              exact ⟨⟨hw6.os.trans q1.os, hw6.tape.trans q1.tape, hw6.output.trans q1.output, Nat.le_trans q1.size hw6.size, fun z hz => (hw6.block z (.inl (by omega)) (by omega)).trans (q1.block z hz)⟩, q2, f, rowIs_within q3 hw6 (by omega)⟩ : RS w w.heap.size 25 wr)
            have hof := HO2.out.kept hw6 (.inl (Nat.le_refl _))
            have hrow : wr.rowIs r 2 (tab (fun j => if j < i then 0 else 1) m).length (fun j => if j < i then .int .i64 0 else if j < l then .int .i64 1 else .int .i64 0) := by rw [tab_length]; exact hr6
            have hown : OwnT 2 r wr.heap.size wr (.slice (some ⟨r, 0, none⟩) m m) (gr (chT m) i) := by
              have h := Own.of_row (B := r) hrow (Nat.le_refl _) (fun j hj => by
                rw [tab_length] at hj
                rw [gi_tab hj]
                by_cases h1 : j < i
                · rw [if_pos h1, if_pos h1]
                · rw [if_neg h1, if_neg h1, if_pos (by omega)]) (tab_I64 fun i hi => by split <;> constructor <;> omega) (by rw [tab_length]; omega)
              rw [tab_length] at h
              rw [gr_chT hlt]
              exact ⟨h, fun q hq => (h.lt q hq).2⟩
            obtain ⟨ao9, c9, rfl⟩ := hof.opened'
            clear hr6 hrow
            subst hlm
            go_wp2_with (at_builtin; refine hold ?_)
            refine appSS (by decide) hof hown (by omega) (by omega) (by omega) Try.underlying23 infoInts (by rfl) _ _ (by rfl) (by rfl) (by rfl) (by first | rfl | simp) ?_
            intro v' w4 ho4 g4
            have HO4 := Lib.hid ho4
            have HR4 := Lib.hid (HRS.out.grow g4 (Dj.of_lt (N := w.heap.size + 1) (fun z hz => by have e : some w.heap.size = some z := hz; injection e with e; omega) (fun z hz => (hof.lt z hz).1)) (fun z hz => by have := (hof.lt z hz).1; omega))
            clear ho4 g4 hof hown hw6
            go_wp2_with fail
            go_roundw
            case rel => exact ⟨i + 1, by omega, by go_num, HR4.out, HO4.out.congr fun j hj => by
              by_cases e : j < i
              · rw [if_pos e]
              · rw [if_neg e]
                obtain rfl : j = i := by omega
                rfl⟩
            case measure => simp [intOf]; omega
      · have him : m = i := by omega
        subst him
        have hcl := chT_len m
        have ho2 : OF 2 22 (w.heap.size + 1) wr.heap.size wr u4 (chT m).length (gr (chT m)) := by rw [hcl]; exact ho
        have HQ := Lib.hid (c_l03Poset (ho2.iss (by omega)) (pre_chT m).sq (by omega))
        have hqs := hR.lt
        clear ho ho2
        go_wp2_with fail
        refine HQ.out.mono ?_
        rintro e w2 ⟨u, rfl, ⟨aF, kF, aT, nT, kT, aI, nI, kI, aC, nC, kC, rfl, hV⟩, b2⟩
        have B2 := hR.call b2
        have h40 := chT_40 hm
        have hff : fitsB ((chT m).length : Int) (prs (chT m)).length = true := by rw [fits_pos (by omega)]; simpa using h40
        have hp32 : (prs (chT m)).length ≤ 4294967296 := by omega
        generalize (prs (chT m)).length = p at *
        generalize hcl2 : ((chT m).length : Int) = cl at *
        clear b2 hcl hcl2
        go_wp2_with fail
        refine (c_l03Made_yes hp32 hff).mono ?_
        rintro e w3 ⟨rfl, b3⟩
        have B3 := B2.call b3
        have hV3 := hV.keptB b3
        obtain ⟨-, x0, x1, x2, x3, x4, f0, f1, f2, f3, f4⟩ := B3.all
        clear b3 hV
        go_wp2_with fail
        refine bodyPost_ret (results_cell_row2 rfl _ _ w.heap.size 25 #[_, _, _, _, _] (0, 0) _ (by rfl) (RS.five (w := w) B3 _ _ _ _ _) Try.underlying25 rfl (by kernel_rfl)) rfl ?_
        rw [HR.out]
        exact mkV_put B3 0 hV3 (by omega)
  | false =>
    have hr := chR_2 hn
    go_enter Try.func6, Try.ntmps6
    go_wp2_with fail
    refine (c_l01In n 0 8 _).mono ?_
    rintro e w' ⟨rfl, n1, rfl⟩
    rw [hn]
    have B1 := HB0.out.drawn (w'' := (w.alloc (.cells #[.int .i64 0, .slice none 0 0, .slice none 0 0, .slice none 0 0, .slice none 0 0] 25)).drewN n1) ⟨_, rfl⟩
    generalize (w.alloc (.cells #[.int .i64 0, .slice none 0 0, .slice none 0 0, .slice none 0 0, .slice none 0 0] 25)).drewN n1 = W0 at *
    obtain ⟨-, x0, x1, x2, x3, x4, f0, f1, f2, f3, f4⟩ := B1.all
    go_wp2_with fail
    refine bodyPost_ret (results_cell_row2 rfl _ _ w.heap.size 25 #[_, _, _, _, _] (0, 0) _ (by rfl) (RS.five (w := w) B1 _ _ _ _ _) Try.underlying25 rfl (by kernel_rfl)) rfl ?_
    exact mkV_nil5 B1 hr
end Go.Proofs.Ytmigbcadldkmfaa
