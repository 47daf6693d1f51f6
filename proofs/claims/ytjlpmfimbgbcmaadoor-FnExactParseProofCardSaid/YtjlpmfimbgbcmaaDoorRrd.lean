/-
  l31Read: the reference's reading of a line.
-/
import Derived.Test.YtjlpmfimbgbcmaaDoorFit
import Derived.Deep.CutRange
import Derived.Deep.RegionHeld3
namespace Go.Proofs.YtjlpmfimbgbcmaaDoor
open Go.RowKit

/-- The result's block and the step's block. -/
structure U5 (w X : World) (bt : Nat) (a0 a1 a2 a3 a4 a5 a6 : Value) : Prop where
  b : Below w.heap.size w X
  r : X.heap[w.heap.size]? = some (.cells #[.int .i64 0, .slice none 0 0, .slice none 0 0, .slice none 0 0, .string ⟨#[]⟩, .int .i64 0, .string ⟨#[]⟩] 54)
  t : X.heap[bt]? = some (.cells #[a0, a1, a2, a3, a4, a5, a6] 54)
theorem U5.call {w X X' : World} {bt : Nat} {a0 a1 a2 a3 a4 a5 a6 : Value} (h : U5 w X bt a0 a1 a2 a3 a4 a5 a6) (hb : Below X.heap.size X X') : U5 w X' bt a0 a1 a2 a3 a4 a5 a6 := by
  have h1 := (Array.getElem?_eq_some_iff.1 h.r).1
  have h2 := (Array.getElem?_eq_some_iff.1 h.t).1
  exact ⟨bel_next h.b hb, (hb.block _ h1).trans h.r, (hb.block _ h2).trans h.t⟩
theorem U5.all {w X : World} {bt : Nat} {a0 a1 a2 a3 a4 a5 a6 : Value} (h : U5 w X bt a0 a1 a2 a3 a4 a5 a6) : U5 w X bt a0 a1 a2 a3 a4 a5 a6 ∧ X.cell? ⟨bt, 0, none⟩ = some a0 ∧ X.cell? ⟨bt, 1, none⟩ = some a1 ∧ X.cell? ⟨bt, 2, none⟩ = some a2 ∧ X.cell? ⟨bt, 3, none⟩ = some a3 ∧ X.cell? ⟨bt, 4, none⟩ = some a4 ∧ X.cell? ⟨bt, 5, none⟩ = some a5 ∧ X.cell? ⟨bt, 6, none⟩ = some a6 ∧ X.cell? ⟨w.heap.size, 0, none⟩ = some (.int .i64 0) ∧ X.cell? ⟨w.heap.size, 1, none⟩ = some (.slice none 0 0) ∧ X.cell? ⟨w.heap.size, 2, none⟩ = some (.slice none 0 0) ∧ X.cell? ⟨w.heap.size, 3, none⟩ = some (.slice none 0 0) ∧ X.cell? ⟨w.heap.size, 4, none⟩ = some (.string ⟨#[]⟩) ∧ X.cell? ⟨w.heap.size, 5, none⟩ = some (.int .i64 0) ∧ X.cell? ⟨w.heap.size, 6, none⟩ = some (.string ⟨#[]⟩) ∧ X.frozen? ⟨w.heap.size, 0, none⟩ = false ∧ X.frozen? ⟨w.heap.size, 1, none⟩ = false ∧ X.frozen? ⟨w.heap.size, 2, none⟩ = false ∧ X.frozen? ⟨w.heap.size, 3, none⟩ = false ∧ X.frozen? ⟨w.heap.size, 4, none⟩ = false ∧ X.frozen? ⟨w.heap.size, 5, none⟩ = false ∧ X.frozen? ⟨w.heap.size, 6, none⟩ = false :=
  ⟨h, by simp only [World.cell?, h.t]; rfl, by simp only [World.cell?, h.t]; rfl, by simp only [World.cell?, h.t]; rfl, by simp only [World.cell?, h.t]; rfl, by simp only [World.cell?, h.t]; rfl, by simp only [World.cell?, h.t]; rfl, by simp only [World.cell?, h.t]; rfl, by simp only [World.cell?, h.r]; rfl, by simp only [World.cell?, h.r]; rfl, by simp only [World.cell?, h.r]; rfl, by simp only [World.cell?, h.r]; rfl, by simp only [World.cell?, h.r]; rfl, by simp only [World.cell?, h.r]; rfl, by simp only [World.cell?, h.r]; rfl, by simp only [World.frozen?, h.r]; rfl, by simp only [World.frozen?, h.r]; rfl, by simp only [World.frozen?, h.r]; rfl, by simp only [World.frozen?, h.r]; rfl, by simp only [World.frozen?, h.r]; rfl, by simp only [World.frozen?, h.r]; rfl, by simp only [World.frozen?, h.r]; rfl⟩
theorem U5.put3 {w X : World} {bt : Nat} {a0 a1 a2 a3 a4 a5 a6 : Value} (h : U5 w X bt a0 a1 a2 a3 a4 a5 a6) (v : Value) (hb : w.heap.size < bt) : U5 w (X.setCell ⟨bt, 3, none⟩ v) bt a0 a1 a2 v a4 a5 a6 := by
  refine ⟨h.b.setCell (by simp; omega) v, (Below.heap_setCell _ _ _ _ (by simp; omega)).trans h.r, ?_⟩
  have hr : X.rowIs bt 54 7 (fun i => #[a0, a1, a2, a3, a4, a5, a6].getD i undef) := ⟨_, h.t, rfl, fun i hi => by
    have : i = 0 ∨ i = 1 ∨ i = 2 ∨ i = 3 ∨ i = 4 ∨ i = 5 ∨ i = 6 := by omega
    rcases this with rfl | rfl | rfl | rfl | rfl | rfl | rfl <;> rfl⟩
  exact rowIs_litR (cs := #[a0, a1, a2, v, a4, a5, a6]) (hr.set 3 v) (fun i hi => by
    have : i = 0 ∨ i = 1 ∨ i = 2 ∨ i = 3 ∨ i = 4 ∨ i = 5 ∨ i = 6 := by simp at hi; omega
    rcases this with rfl | rfl | rfl | rfl | rfl | rfl | rfl <;> rfl)
theorem cl_shape2 {s : ByteArray} {w w' : World} {v : Value} (h : ∀ zs, clist s = some zs → Own 2 w' w.heap.size v zs) (hn : clist s = none → v = .slice none 0 0) : ∃ a n c, v = .slice a n c := by
  cases hc : clist s with
  | none => exact ⟨_, _, _, hn hc⟩
  | some zs => obtain ⟨a, c, hv⟩ := (h zs hc).shape; exact ⟨a, _, c, hv⟩
theorem stepOf_neg {p0 p1 p2 p3 p4 p5 p6 : ByteArray} (h : ¬ ((clist p1).isSome = true ∧ (clist p2).isSome = true ∧ 0 ≤ val p0 ∧ 0 ≤ val p5)) : stepOf p0 p1 p2 p3 p4 p5 p6 = none :=
  stepOf_none (fun ⟨h1, h2, h3, h4⟩ => h ⟨h2, h3, of_decide_eq_true h1, of_decide_eq_true h4⟩)

set_option maxHeartbeats 4000000 in
set_option maxRecDepth 100000 in
theorem c_l31Read {s : ByteArray} (hs : s.size ≤ 1048576) (w : World) : Calls Tryd.prog 29 #[.string s] w (fun e w' => Below w.heap.size w w' ∧ ∃ cs, e = .returned (.tuple #[.agg cs, .bool (stepP s).isSome]) ∧ (∀ t, stepP s = some t → StIn w w' cs t) ∧ Seven cs) := by
  have HSP := Lib.hid (fun W => c_l01Split (s := s) (by omega) 59 W)
  have hpl := pcs_len 59 s
  have hcb := Lib.countB_le ⟨#[59]⟩ (Nat.le_refl _) s.size s (Nat.le_refl _)
  have hps := Lib.hid (fun x hx => pcs_size 59 _ s (Nat.le_refl _) x hx)
  by_cases h7 : (pcs 59 s).length = 7
  · obtain ⟨p0, p1, p2, p3, p4, p5, p6, h⟩ := seven h7
    have HQ := Lib.hid (stepP_seven h)
    obtain ⟨R, hR⟩ : ∃ R, R = stepP s := ⟨_, rfl⟩
    rw [← hR] at HQ ⊢
    rw [h] at HSP hps
    clear hR h h7 hpl hcb
    go_enter Tryd.func29, Tryd.ntmps29
    go_wp2_with fail
    refine (HSP.out _).mono ?_
    rintro e w1 ⟨u, rfl, o1, b1⟩
    have B1 : Below w.heap.size w w1 := bel_next ((Below.refl _ w).alloc (Nat.le_refl _) _) b1
    have hR0 : w1.heap[w.heap.size]? = some (.cells #[.int .i64 0, .slice none 0 0, .slice none 0 0, .slice none 0 0, .string ⟨#[]⟩, .int .i64 0, .string ⟨#[]⟩] 54) :=
      (b1.block _ (by simp)).trans (heap_alloc_new w _)
    obtain ⟨bu, cu, hu⟩ : ∃ bu cu, u = .slice (some ⟨bu, 0, none⟩) 7 cu := by
      rcases o1.row.2 with ⟨rfl, hn⟩ | ⟨g, cap, cur, hv, -⟩
      · simp at hn
      · exact ⟨g, cap, hv⟩
    subst hu
    have hw : ∀ i (hi : i < 7), w1.cell? ⟨bu, i, none⟩ = some (.string ([p0, p1, p2, p3, p4, p5, p6][i])) := fun i hi => by
      rw [o1.row.cellAt i (by simpa using hi)]
      have : i = 0 ∨ i = 1 ∨ i = 2 ∨ i = 3 ∨ i = 4 ∨ i = 5 ∨ i = 6 := by omega
      rcases this with rfl | rfl | rfl | rfl | rfl | rfl | rfl <;> rfl
    have HW := Lib.hid hw
    have HB1 := Lib.hid B1
    have HR0 := Lib.hid hR0
    have hbz : w.heap.size + 1 ≤ w1.heap.size := by have := b1.size; simpa using this
    have HBZ := Lib.hid hbz
    have c1 : w1.cell? ⟨bu, 1, none⟩ = some (.string p1) := hw 1 (by decide)
    clear o1 b1 B1 hR0 hw hbz
    go_wp2_with fail
    obtain ⟨d1, hd1⟩ : ∃ d, d = (clist p1).isSome := ⟨_, rfl⟩
    have HC := c_l31List (s := p1) (by have := hps.out p1 (by simp); omega) w1
    rw [← hd1] at HC
    have HD1 := Lib.hid hd1
    clear hd1
    refine HC.mono ?_
    clear HC
    rintro e w2 ⟨v1, rfl, b2, e1, n1⟩
    obtain ⟨r1, m1, k1, rfl⟩ := cl_shape2 e1 n1
    have HO1 := Lib.hid e1
    have HB2 := Lib.hid b2
    have c2 : w2.cell? ⟨bu, 2, none⟩ = some (.string p2) := upc b2 (HW.out 2 (by decide))
    clear e1 n1 b2 c1
    go_wp2_with fail
    obtain ⟨d2, hd2⟩ : ∃ d, d = (clist p2).isSome := ⟨_, rfl⟩
    have HC := c_l31List (s := p2) (by have := hps.out p2 (by simp); omega) w2
    rw [← hd2] at HC
    have HD2 := Lib.hid hd2
    clear hd2
    refine HC.mono ?_
    clear HC
    rintro e w3 ⟨v2, rfl, b3, e2, n2⟩
    obtain ⟨r2, m2, k2, rfl⟩ := cl_shape2 e2 n2
    have HO2 := Lib.hid e2
    have HB3 := Lib.hid b3
    have HW3 := Lib.hid (fun i (hi : i < 7) => upc (bel_next HB2.out b3) (HW.out i hi))
    have c0 : w3.cell? ⟨bu, 0, none⟩ = some (.string p0) := HW3.out 0 (by decide)
    have c4 : w3.cell? ⟨bu, 4, none⟩ = some (.string p4) := HW3.out 4 (by decide)
    have c5 : w3.cell? ⟨bu, 5, none⟩ = some (.string p5) := HW3.out 5 (by decide)
    have c6 : w3.cell? ⟨bu, 6, none⟩ = some (.string p6) := HW3.out 6 (by decide)
    obtain ⟨V0, hV0⟩ : ∃ V, V = val p0 := ⟨_, rfl⟩
    obtain ⟨V5, hV5⟩ : ∃ V, V = val p5 := ⟨_, rfl⟩
    have HV0 := Lib.hid (fun W => c_l01Value (s := p0) (by have := hps.out p0 (by simp); omega) W)
    have HV5 := Lib.hid (fun W => c_l01Value (s := p5) (by have := hps.out p5 (by simp); omega) W)
    rw [← hV0] at HV0
    rw [← hV5] at HV5
    have HVV := Lib.hid (And.intro hV0 hV5)
    clear e2 n2 b3 c2 hV0 hV5
    have hbu : bu < w3.heap.size := World.block_lt_of_cell? _ _ c6
    have hbn : ¬ bu = w3.heap.size := by omega
    go_upto_region 6 with (fail)
    go_cut [9] from 30 (fun x9 wx => x9 = .pointer (some ⟨w3.heap.size, 0, none⟩) ∧ wx = (w3.alloc (.cells #[.int .i64 V0, .slice r1 m1 k1, .slice r2 m2 k2, .slice none 0 0, .string p4, .int .i64 V5, .string p6] 54)).drew)
    case first =>
      have hKp : ∀ w', Below w3.heap.size w3 w' → Below w3.heap.size w3 w' ∧ w'.cell? ⟨bu, 0, none⟩ = some (.string p0) ∧ w'.cell? ⟨bu, 4, none⟩ = some (.string p4) ∧ w'.cell? ⟨bu, 5, none⟩ = some (.string p5) ∧ w'.cell? ⟨bu, 6, none⟩ = some (.string p6) := fun w' hb => ⟨hb, upc hb c0, upc hb c4, upc hb c5, upc hb c6⟩
      go_region_held3 (fun w' => Below w3.heap.size w3 w' ∧ w'.cell? ⟨bu, 0, none⟩ = some (.string p0) ∧ w'.cell? ⟨bu, 4, none⟩ = some (.string p4) ∧ w'.cell? ⟨bu, 5, none⟩ = some (.string p5) ∧ w'.cell? ⟨bu, 6, none⟩ = some (.string p6))
        (first | with_reducible exact hKp _ (Drawn.below (Drawn.one (Drawn.refl _)) _) | with_reducible exact hKp _ ((bel_alloc (Below.refl _ w3) _).trans (Drawn.below (Drawn.one (Drawn.refl _)) _)) | with_reducible exact hKp _ ((set7_bel (bel_alloc (Below.refl _ w3) _) (Nat.le_refl _) _ _ _ _ _ _ _).trans (Drawn.below (Drawn.one (Drawn.refl _)) _)))
        (first | (go_at_call 54; (first | (with_reducible refine (HV0.out _).mono ?_) | (with_reducible refine (HV5.out _).mono ?_)); rintro e wq ⟨rfl, rfl⟩))
      all_goals
        go_wp2_with fail
        go_meet
        exact ⟨rfl, rfl⟩
    case rest =>
    obtain ⟨rfl, rfl⟩ := hcut
    clear c0 c4 c5 c6 hbn HV0 HV5
    obtain ⟨bt, hbt⟩ : ∃ bt, bt = w3.heap.size := ⟨_, rfl⟩
    obtain ⟨w6, hw6⟩ : ∃ w6, w6 = (w3.alloc (.cells #[.int .i64 V0, .slice r1 m1 k1, .slice r2 m2 k2, .slice none 0 0, .string p4, .int .i64 V5, .string p6] 54)).drew := ⟨_, rfl⟩
    rw [← hw6, ← hbt]
    have b36 : Below w3.heap.size w3 w6 := by rw [hw6]; exact (bel_alloc (Below.refl _ _) _).trans (Drawn.below (Drawn.one (Drawn.refl _)) _)
    have HX := Lib.hid (show U5 w w6 bt (.int .i64 V0) (.slice r1 m1 k1) (.slice r2 m2 k2) (.slice none 0 0) (.string p4) (.int .i64 V5) (.string p6) from by
      refine ⟨bel_next (bel_next (bel_next HB1.out HB2.out) HB3.out) b36, ?_, ?_⟩
      · have h1 := HBZ.out
        have h2 := HB2.out.size
        have h3 := HB3.out.size
        exact (b36.block _ (by omega)).trans ((HB3.out.block _ (by omega)).trans ((HB2.out.block _ (by omega)).trans HR0.out))
      · rw [hw6, hbt, drew_heap]; exact heap_alloc_new w3 _)
    have HP1 := Lib.hid (fun zs (h : clist p1 = some zs) => (((HO1.out zs h).top.keptB HB3.out).keptB b36))
    have HP2 := Lib.hid (fun zs (h : clist p2 = some zs) => ((HO2.out zs h).top.keptB b36))
    have HSZ := Lib.hid (show w.heap.size + 1 ≤ w1.heap.size ∧ w1.heap.size ≤ w2.heap.size ∧ w2.heap.size ≤ bt ∧ w3.heap.size = bt ∧ bt + 1 = w6.heap.size from ⟨HBZ.out, HB2.out.size, by rw [hbt]; exact HB3.out.size, hbt.symm, by rw [hw6, hbt]; simp⟩)
    have c3 : w6.cell? ⟨bu, 3, none⟩ = some (.string p3) := upc b36 (HW3.out 3 (by decide))
    clear hbu hbt hw6 b36
    by_cases h3 : p3.size = 0
    · have hl : p3.toList.isEmpty = true := by
        rw [ByteArray.toList_eq, List.isEmpty_iff]
        exact List.length_eq_zero_iff.1 (by rw [Array.length_toList]; exact h3)
      have HH := Lib.hid (show OwS w6 (bt + 1) (.slice none 0 0) (if p3.size = 0 then [] else pcs 47 p3) from by rw [if_pos h3]; exact OwS.nil _ _)
      by_cases hall : d1 = true ∧ d2 = true ∧ 0 ≤ V0 ∧ 0 ≤ V5
      · obtain ⟨rfl, rfl, h0, h5⟩ := hall
        obtain ⟨za, hza⟩ := Option.isSome_iff_exists.1 HD1.out.symm
        obtain ⟨zb, hzb⟩ := Option.isSome_iff_exists.1 HD2.out.symm
        have hq := HQ.out.trans (stepOf_some (HVV.out.1 ▸ h0) hza hzb (HVV.out.2 ▸ h5))
        obtain ⟨hy, hhy⟩ : ∃ hy, hy = if p3.size = 0 then [] else pcs 47 p3 := ⟨_, rfl⟩
        rw [← hhy] at hq HH
        have hsz : ∀ x ∈ hy ++ [p4, p6], x.size < 4294967281 := by
          intro x hx
          rw [hhy] at hx
          rcases List.mem_append.1 hx with hx | hx
          · by_cases h3' : p3.size = 0
            · rw [if_pos h3'] at hx; cases hx
            · rw [if_neg h3'] at hx
              have := pcs_size 47 _ p3 (Nat.le_refl _) x hx
              have := hps.out p3 (by simp)
              omega
          · have : x = p4 ∨ x = p6 := by simpa using hx
            rcases this with rfl | rfl
            · have := hps.out x (by simp); omega
            · have := hps.out x (by simp); omega
        obtain ⟨T, hT⟩ : ∃ T : St, T = ⟨val p0, za, zb, hy, p4, val p5, p6⟩ := ⟨_, rfl⟩
        have HCF : Hid (∀ W', Drawn w6 W' → Calls Tryd.prog 55 #[.agg #[.int .i64 V0, .slice r1 m1 k1, .slice r2 m2 k2, .slice none 0 0, .string p4, .int .i64 V5, .string p6]] W' (fun e w' => e = .returned (.bool (canB T)) ∧ U5 w w' bt (.int .i64 V0) (.slice r1 m1 k1) (.slice r2 m2 k2) (.slice none 0 0) (.string p4) (.int .i64 V5) (.string p6) ∧ Below w6.heap.size w6 w')) :=
          Lib.hid fun W' hd => by
            have h := c_l31Fits (t := T) (w := W') (by rw [hT]; exact ((HP1.out za hza).is.kept (hd.below _))) (by rw [hT]; exact ((HP2.out zb hzb).is.kept (hd.below _))) (by rw [hT]; exact (HH.out.sl.kept (hd.below _))) (by rw [hT]; exact hsz)
            have e1 : T.rule = V0 := by rw [hT, HVV.out.1]
            have e2 : T.var = V5 := by rw [hT, HVV.out.2]
            have e3 : T.conc = p4 := by rw [hT]
            have e4 : T.temp = p6 := by rw [hT]
            rw [e1, e2, e3, e4] at h
            exact h.mono (fun e w' h => ⟨h.1, HX.out.call (bel_next (hd.below _) h.2), bel_next (hd.below _) h.2⟩)
        rw [← hT] at hq
        have HR' := Lib.hid hq
        have HTT := Lib.hid hT
        have HA := Lib.hid (HP1.out za hza)
        have HBb := Lib.hid (HP2.out zb hzb)
        have hw := HX.out.all
        have g0 : decide (V0 ≥ 0) = true := decide_eq_true h0
        have g5 : decide (V5 ≥ 0) = true := decide_eq_true h5
        clear hsz hq hT hhy HQ HD1 HD2 HP1 HP2 hza hzb
        obtain ⟨-, tt0, tt1, tt2, tt3, tt4, tt5, tt6, rr0, rr1, rr2, rr3, rr4, rr5, rr6, ff0, ff1, ff2, ff3, ff4, ff5, ff6⟩ := hw
        obtain ⟨bb, hbb⟩ : ∃ b, b = canB T := ⟨_, rfl⟩
        rw [← hbb] at HCF
        have HBB := Lib.hid hbb
        clear hbb
        go_upto_region 9 with (fail)
        go_region_with (go_at_call 55; refine (HCF.out _ (by repeat (first | exact Drawn.refl _ | refine Drawn.step ?_ _ | refine Drawn.one ?_))).mono ?_; rintro e wq ⟨rfl, t5q, hbq⟩; have HB7 := Lib.hid hbq; have HT7 := Lib.hid t5q; clear hbq tt0 tt1 tt2 tt3 tt4 tt5 tt6 rr0 rr1 rr2 rr3 rr4 rr5 rr6 ff0 ff1 ff2 ff3 ff4 ff5 ff6; obtain ⟨-, tt0, tt1, tt2, tt3, tt4, tt5, tt6, rr0, rr1, rr2, rr3, rr4, rr5, rr6, ff0, ff1, ff2, ff3, ff4, ff5, ff6⟩ := t5q.all; clear t5q)
        all_goals
          clear tt0 tt1 tt2 tt3 tt4 tt5 tt6 rr0 rr1 rr2 rr3 rr4 rr5 rr6 ff0 ff1 ff2 ff3 ff4 ff5 ff6
          go_wp2_with fail
          have hg := set7_litc HT7.out.r rfl (.int .i64 V0) (.slice r1 m1 k1) (.slice r2 m2 k2) (.slice none 0 0) (.string p4) (.int .i64 V5) (.string p6)
          refine bodyPost_ret (v := .tuple #[.agg #[.int .i64 V0, .slice r1 m1 k1, .slice r2 m2 k2, .slice none 0 0, .string p4, .int .i64 V5, .string p6], .bool bb]) ?_ rfl ?_
          · refine (results_cell_row2 rfl _ _ w.heap.size 54 #[.int .i64 V0, .slice r1 m1 k1, .slice r2 m2 k2, .slice none 0 0, .string p4, .int .i64 V5, .string p6] (0, 0) _ ?_ ?_ Tryd.underlying54 rfl (by kernel_rfl)).trans ?_
            · rfl
            · exact hg
            · rfl
          clear hg
          refine ⟨set7_bel HT7.out.b (Nat.le_refl _) _ _ _ _ _ _ _, _, ret_t2 (by rw [HR'.out]; simp only [← HBB.out]; cases bb <;> rfl), fun t ht => ?_, ⟨_, _, _, _, _, _, _, _, _, _, _, _, _, rfl⟩⟩
          rw [HR'.out] at ht
          split at ht
          · cases ht
            rw [set7_chain]
            have hSZ := HSZ.out
            have hb7 := HB7.out.size
            rw [HVV.out.1, HVV.out.2]
            exact stIn_mk (h3 := bt + 1) HTT.out HB7.out HA.out (HBb.out.mono (Nat.le_refl _) (by omega)) HH.out (by omega) (by omega) (by omega)
          · cases ht
      · have HN := Lib.hid (HQ.out.trans (stepOf_neg (by rw [← HD1.out, ← HD2.out, ← HVV.out.1, ← HVV.out.2]; exact hall)))
        have hw := HX.out.all
        clear HQ HD1 HD2 HP1 HP2 HH
        obtain ⟨-, tt0, tt1, tt2, tt3, tt4, tt5, tt6, rr0, rr1, rr2, rr3, rr4, rr5, rr6, ff0, ff1, ff2, ff3, ff4, ff5, ff6⟩ := hw
        cases d1 with
        | false =>
          clear hall
          go_upto_region 9 with (fail)
          go_region
          all_goals
            go_wp2_with fail
            have hg := set7_litd HX.out.r rfl (.int .i64 V0) (.slice r1 m1 k1) (.slice r2 m2 k2) (.slice none 0 0) (.string p4) (.int .i64 V5) (.string p6)
            refine bodyPost_ret (v := .tuple #[.agg #[.int .i64 V0, .slice r1 m1 k1, .slice r2 m2 k2, .slice none 0 0, .string p4, .int .i64 V5, .string p6], .bool false]) ?_ rfl ?_
            · refine (results_cell_row2 rfl _ _ w.heap.size 54 #[.int .i64 V0, .slice r1 m1 k1, .slice r2 m2 k2, .slice none 0 0, .string p4, .int .i64 V5, .string p6] (0, 0) _ ?_ ?_ Tryd.underlying54 rfl (by kernel_rfl)).trans ?_
              · rfl
              · exact hg
              · rfl
            clear hg
            refine ⟨(set7_bel HX.out.b (Nat.le_refl _) _ _ _ _ _ _ _).trans (Drawn.below (Drawn.one (Drawn.refl _)) _), _, by rw [HN.out]; rfl, fun t ht => (by rw [HN.out] at ht; cases ht), ⟨_, _, _, _, _, _, _, _, _, _, _, _, _, rfl⟩⟩
        | true =>
          cases d2 with
          | false =>
            clear hall
            go_upto_region 9 with (fail)
            go_region
            all_goals
              go_wp2_with fail
              have hg := set7_litd HX.out.r rfl (.int .i64 V0) (.slice r1 m1 k1) (.slice r2 m2 k2) (.slice none 0 0) (.string p4) (.int .i64 V5) (.string p6)
              refine bodyPost_ret (v := .tuple #[.agg #[.int .i64 V0, .slice r1 m1 k1, .slice r2 m2 k2, .slice none 0 0, .string p4, .int .i64 V5, .string p6], .bool false]) ?_ rfl ?_
              · refine (results_cell_row2 rfl _ _ w.heap.size 54 #[.int .i64 V0, .slice r1 m1 k1, .slice r2 m2 k2, .slice none 0 0, .string p4, .int .i64 V5, .string p6] (0, 0) _ ?_ ?_ Tryd.underlying54 rfl (by kernel_rfl)).trans ?_
                · rfl
                · exact hg
                · rfl
              clear hg
              refine ⟨(set7_bel HX.out.b (Nat.le_refl _) _ _ _ _ _ _ _).trans (Drawn.below (Drawn.one (Drawn.refl _)) _), _, by rw [HN.out]; rfl, fun t ht => (by rw [HN.out] at ht; cases ht), ⟨_, _, _, _, _, _, _, _, _, _, _, _, _, rfl⟩⟩
          | true =>
            by_cases h0 : 0 ≤ V0
            · have h5 : ¬ 0 ≤ V5 := fun h => hall ⟨rfl, rfl, h0, h⟩
              have g0 : decide (V0 ≥ 0) = true := decide_eq_true h0
              have g5 : decide (V5 ≥ 0) = false := decide_eq_false h5
              clear hall
              go_upto_region 9 with (fail)
              go_region
              all_goals
                go_wp2_with fail
                have hg := set7_litd HX.out.r rfl (.int .i64 V0) (.slice r1 m1 k1) (.slice r2 m2 k2) (.slice none 0 0) (.string p4) (.int .i64 V5) (.string p6)
                refine bodyPost_ret (v := .tuple #[.agg #[.int .i64 V0, .slice r1 m1 k1, .slice r2 m2 k2, .slice none 0 0, .string p4, .int .i64 V5, .string p6], .bool false]) ?_ rfl ?_
                · refine (results_cell_row2 rfl _ _ w.heap.size 54 #[.int .i64 V0, .slice r1 m1 k1, .slice r2 m2 k2, .slice none 0 0, .string p4, .int .i64 V5, .string p6] (0, 0) _ ?_ ?_ Tryd.underlying54 rfl (by kernel_rfl)).trans ?_
                  · rfl
                  · exact hg
                  · rfl
                clear hg
                refine ⟨(set7_bel HX.out.b (Nat.le_refl _) _ _ _ _ _ _ _).trans (Drawn.below (Drawn.one (Drawn.refl _)) _), _, by rw [HN.out]; rfl, fun t ht => (by rw [HN.out] at ht; cases ht), ⟨_, _, _, _, _, _, _, _, _, _, _, _, _, rfl⟩⟩
            · have g0 : decide (V0 ≥ 0) = false := decide_eq_false h0
              clear hall
              go_upto_region 9 with (fail)
              go_region
              all_goals
                go_wp2_with fail
                have hg := set7_litd HX.out.r rfl (.int .i64 V0) (.slice r1 m1 k1) (.slice r2 m2 k2) (.slice none 0 0) (.string p4) (.int .i64 V5) (.string p6)
                refine bodyPost_ret (v := .tuple #[.agg #[.int .i64 V0, .slice r1 m1 k1, .slice r2 m2 k2, .slice none 0 0, .string p4, .int .i64 V5, .string p6], .bool false]) ?_ rfl ?_
                · refine (results_cell_row2 rfl _ _ w.heap.size 54 #[.int .i64 V0, .slice r1 m1 k1, .slice r2 m2 k2, .slice none 0 0, .string p4, .int .i64 V5, .string p6] (0, 0) _ ?_ ?_ Tryd.underlying54 rfl (by kernel_rfl)).trans ?_
                  · rfl
                  · exact hg
                  · rfl
                clear hg
                refine ⟨(set7_bel HX.out.b (Nat.le_refl _) _ _ _ _ _ _ _).trans (Drawn.below (Drawn.one (Drawn.refl _)) _), _, by rw [HN.out]; rfl, fun t ht => (by rw [HN.out] at ht; cases ht), ⟨_, _, _, _, _, _, _, _, _, _, _, _, _, rfl⟩⟩
    · have hl : p3.toList.isEmpty = false := by
        rw [ByteArray.toList_eq, List.isEmpty_eq_false_iff]
        exact fun e => h3 (by have := congrArg List.length e; simpa using this)
      go_wp2_with fail
      refine (c_l01Split (s := p3) (by have := hps.out p3 (by simp); omega) 47 w6).mono ?_
      rintro e w7 ⟨u7, rfl, o7, b7⟩
      obtain ⟨a7, k7, rfl⟩ := o7.shape
      obtain ⟨n7, hn7⟩ : ∃ n, n = (pcs 47 p3).length := ⟨_, rfl⟩
      rw [← hn7] at o7 ⊢
      have HX7 := Lib.hid (HX.out.call b7)
      have q3 : w7.cell? ⟨bt, 3, none⟩ = some (.slice none 0 0) := HX7.out.all.2.2.2.2.1
      have q3f : w7.frozen? ⟨bt, 3, none⟩ = false := by simp only [World.frozen?, HX7.out.t]; rfl
      have m7 : Within bt (bt + 1) w7 (w7.setCell ⟨bt, 3, none⟩ (.slice a7 n7 k7)) := (Within.refl _ _ _).setCell (p := ⟨bt, 3, none⟩) (by simp) (by simp) _
      have HH' := Lib.hid (show OwS (w7.setCell ⟨bt, 3, none⟩ (.slice a7 n7 k7)) (bt + 1) (.slice a7 n7 k7) (if p3.size = 0 then [] else pcs 47 p3) from by
        rw [if_neg h3]
        exact (o7.within m7 (by have := HSZ.out; omega)).mono (by have := HSZ.out; omega))
      have HP1' := Lib.hid (fun zs (h : clist p1 = some zs) => ((HP1.out zs h).keptB b7).kept m7 (.inl (by have := HSZ.out; omega)))
      have HP2' := Lib.hid (fun zs (h : clist p2 = some zs) => ((HP2.out zs h).keptB b7).kept m7 (.inl (by have := HSZ.out; omega)))
      have HX' := Lib.hid (HX7.out.put3 (.slice a7 n7 k7) (by have := HSZ.out; omega))
      have HS7 := Lib.hid (show w6.heap.size ≤ (w7.setCell ⟨bt, 3, none⟩ (.slice a7 n7 k7)).heap.size from Nat.le_trans b7.size (by simp [World.setCell]))
      have HN7 := Lib.hid hn7
      clear o7 b7 hn7 m7
      go_upto_region 9 with (fail)
      generalize (w7.setCell ⟨bt, 3, none⟩ (.slice a7 n7 k7)) = w8 at *
      clear q3 q3f HX7 HX HP1 HP2 c3
      have HX := HX'
      have HP1 := HP1'
      have HP2 := HP2'
      have HH := HH'
      clear HX' HP1' HP2' HH'
      by_cases hall : d1 = true ∧ d2 = true ∧ 0 ≤ V0 ∧ 0 ≤ V5
      · obtain ⟨rfl, rfl, h0, h5⟩ := hall
        obtain ⟨za, hza⟩ := Option.isSome_iff_exists.1 HD1.out.symm
        obtain ⟨zb, hzb⟩ := Option.isSome_iff_exists.1 HD2.out.symm
        have hq := HQ.out.trans (stepOf_some (HVV.out.1 ▸ h0) hza hzb (HVV.out.2 ▸ h5))
        obtain ⟨hy, hhy⟩ : ∃ hy, hy = if p3.size = 0 then [] else pcs 47 p3 := ⟨_, rfl⟩
        rw [← hhy] at hq HH
        have hsz : ∀ x ∈ hy ++ [p4, p6], x.size < 4294967281 := by
          intro x hx
          rw [hhy] at hx
          rcases List.mem_append.1 hx with hx | hx
          · by_cases h3' : p3.size = 0
            · rw [if_pos h3'] at hx; cases hx
            · rw [if_neg h3'] at hx
              have := pcs_size 47 _ p3 (Nat.le_refl _) x hx
              have := hps.out p3 (by simp)
              omega
          · have : x = p4 ∨ x = p6 := by simpa using hx
            rcases this with rfl | rfl
            · have := hps.out x (by simp); omega
            · have := hps.out x (by simp); omega
        obtain ⟨T, hT⟩ : ∃ T : St, T = ⟨val p0, za, zb, hy, p4, val p5, p6⟩ := ⟨_, rfl⟩
        have HCF : Hid (∀ W', Drawn w8 W' → Calls Tryd.prog 55 #[.agg #[.int .i64 V0, .slice r1 m1 k1, .slice r2 m2 k2, .slice a7 n7 k7, .string p4, .int .i64 V5, .string p6]] W' (fun e w' => e = .returned (.bool (canB T)) ∧ U5 w w' bt (.int .i64 V0) (.slice r1 m1 k1) (.slice r2 m2 k2) (.slice a7 n7 k7) (.string p4) (.int .i64 V5) (.string p6) ∧ Below w8.heap.size w8 w')) :=
          Lib.hid fun W' hd => by
            have h := c_l31Fits (t := T) (w := W') (by rw [hT]; exact ((HP1.out za hza).is.kept (hd.below _))) (by rw [hT]; exact ((HP2.out zb hzb).is.kept (hd.below _))) (by rw [hT]; exact (HH.out.sl.kept (hd.below _))) (by rw [hT]; exact hsz)
            have e1 : T.rule = V0 := by rw [hT, HVV.out.1]
            have e2 : T.var = V5 := by rw [hT, HVV.out.2]
            have e3 : T.conc = p4 := by rw [hT]
            have e4 : T.temp = p6 := by rw [hT]
            rw [e1, e2, e3, e4] at h
            exact h.mono (fun e w' h => ⟨h.1, HX.out.call (bel_next (hd.below _) h.2), bel_next (hd.below _) h.2⟩)
        rw [← hT] at hq
        have HR' := Lib.hid hq
        have HTT := Lib.hid hT
        have HA := Lib.hid (HP1.out za hza)
        have HBb := Lib.hid (HP2.out zb hzb)
        have hw := HX.out.all
        have g0 : decide (V0 ≥ 0) = true := decide_eq_true h0
        have g5 : decide (V5 ≥ 0) = true := decide_eq_true h5
        clear hsz hq hT hhy HQ HD1 HD2 HP1 HP2 hza hzb
        obtain ⟨-, tt0, tt1, tt2, tt3, tt4, tt5, tt6, rr0, rr1, rr2, rr3, rr4, rr5, rr6, ff0, ff1, ff2, ff3, ff4, ff5, ff6⟩ := hw
        obtain ⟨bb, hbb⟩ : ∃ b, b = canB T := ⟨_, rfl⟩
        rw [← hbb] at HCF
        have HBB := Lib.hid hbb
        clear hbb
        go_upto_region 9 with (fail)
        go_region_with (go_at_call 55; refine (HCF.out _ (by repeat (first | exact Drawn.refl _ | refine Drawn.step ?_ _ | refine Drawn.one ?_))).mono ?_; rintro e wq ⟨rfl, t5q, hbq⟩; have HB7 := Lib.hid hbq; have HT7 := Lib.hid t5q; clear hbq tt0 tt1 tt2 tt3 tt4 tt5 tt6 rr0 rr1 rr2 rr3 rr4 rr5 rr6 ff0 ff1 ff2 ff3 ff4 ff5 ff6; obtain ⟨-, tt0, tt1, tt2, tt3, tt4, tt5, tt6, rr0, rr1, rr2, rr3, rr4, rr5, rr6, ff0, ff1, ff2, ff3, ff4, ff5, ff6⟩ := t5q.all; clear t5q)
        all_goals
          clear tt0 tt1 tt2 tt3 tt4 tt5 tt6 rr0 rr1 rr2 rr3 rr4 rr5 rr6 ff0 ff1 ff2 ff3 ff4 ff5 ff6
          go_wp2_with fail
          have hg := set7_litc HT7.out.r rfl (.int .i64 V0) (.slice r1 m1 k1) (.slice r2 m2 k2) (.slice a7 n7 k7) (.string p4) (.int .i64 V5) (.string p6)
          refine bodyPost_ret (v := .tuple #[.agg #[.int .i64 V0, .slice r1 m1 k1, .slice r2 m2 k2, .slice a7 n7 k7, .string p4, .int .i64 V5, .string p6], .bool bb]) ?_ rfl ?_
          · refine (results_cell_row2 rfl _ _ w.heap.size 54 #[.int .i64 V0, .slice r1 m1 k1, .slice r2 m2 k2, .slice a7 n7 k7, .string p4, .int .i64 V5, .string p6] (0, 0) _ ?_ ?_ Tryd.underlying54 rfl (by kernel_rfl)).trans ?_
            · rfl
            · exact hg
            · rfl
          clear hg
          refine ⟨set7_bel HT7.out.b (Nat.le_refl _) _ _ _ _ _ _ _, _, ret_t2 (by rw [HR'.out]; simp only [← HBB.out]; cases bb <;> rfl), fun t ht => ?_, ⟨_, _, _, _, _, _, _, _, _, _, _, _, _, rfl⟩⟩
          rw [HR'.out] at ht
          split at ht
          · cases ht
            rw [set7_chain]
            have hSZ := HSZ.out
            have hb7 := HB7.out.size
            have hGE := HS7.out
            rw [HVV.out.1, HVV.out.2]
            exact stIn_mk (h3 := bt + 1) HTT.out HB7.out HA.out (HBb.out.mono (Nat.le_refl _) (by omega)) HH.out (by omega) (by omega) (by omega)
          · cases ht
      · have HN := Lib.hid (HQ.out.trans (stepOf_neg (by rw [← HD1.out, ← HD2.out, ← HVV.out.1, ← HVV.out.2]; exact hall)))
        have hw := HX.out.all
        clear HQ HD1 HD2 HP1 HP2 HH
        obtain ⟨-, tt0, tt1, tt2, tt3, tt4, tt5, tt6, rr0, rr1, rr2, rr3, rr4, rr5, rr6, ff0, ff1, ff2, ff3, ff4, ff5, ff6⟩ := hw
        cases d1 with
        | false =>
          clear hall
          go_upto_region 9 with (fail)
          go_region
          all_goals
            go_wp2_with fail
            have hg := set7_litd HX.out.r rfl (.int .i64 V0) (.slice r1 m1 k1) (.slice r2 m2 k2) (.slice a7 n7 k7) (.string p4) (.int .i64 V5) (.string p6)
            refine bodyPost_ret (v := .tuple #[.agg #[.int .i64 V0, .slice r1 m1 k1, .slice r2 m2 k2, .slice a7 n7 k7, .string p4, .int .i64 V5, .string p6], .bool false]) ?_ rfl ?_
            · refine (results_cell_row2 rfl _ _ w.heap.size 54 #[.int .i64 V0, .slice r1 m1 k1, .slice r2 m2 k2, .slice a7 n7 k7, .string p4, .int .i64 V5, .string p6] (0, 0) _ ?_ ?_ Tryd.underlying54 rfl (by kernel_rfl)).trans ?_
              · rfl
              · exact hg
              · rfl
            clear hg
            refine ⟨(set7_bel HX.out.b (Nat.le_refl _) _ _ _ _ _ _ _).trans (Drawn.below (Drawn.one (Drawn.refl _)) _), _, by rw [HN.out]; rfl, fun t ht => (by rw [HN.out] at ht; cases ht), ⟨_, _, _, _, _, _, _, _, _, _, _, _, _, rfl⟩⟩
        | true =>
          cases d2 with
          | false =>
            clear hall
            go_upto_region 9 with (fail)
            go_region
            all_goals
              go_wp2_with fail
              have hg := set7_litd HX.out.r rfl (.int .i64 V0) (.slice r1 m1 k1) (.slice r2 m2 k2) (.slice a7 n7 k7) (.string p4) (.int .i64 V5) (.string p6)
              refine bodyPost_ret (v := .tuple #[.agg #[.int .i64 V0, .slice r1 m1 k1, .slice r2 m2 k2, .slice a7 n7 k7, .string p4, .int .i64 V5, .string p6], .bool false]) ?_ rfl ?_
              · refine (results_cell_row2 rfl _ _ w.heap.size 54 #[.int .i64 V0, .slice r1 m1 k1, .slice r2 m2 k2, .slice a7 n7 k7, .string p4, .int .i64 V5, .string p6] (0, 0) _ ?_ ?_ Tryd.underlying54 rfl (by kernel_rfl)).trans ?_
                · rfl
                · exact hg
                · rfl
              clear hg
              refine ⟨(set7_bel HX.out.b (Nat.le_refl _) _ _ _ _ _ _ _).trans (Drawn.below (Drawn.one (Drawn.refl _)) _), _, by rw [HN.out]; rfl, fun t ht => (by rw [HN.out] at ht; cases ht), ⟨_, _, _, _, _, _, _, _, _, _, _, _, _, rfl⟩⟩
          | true =>
            by_cases h0 : 0 ≤ V0
            · have h5 : ¬ 0 ≤ V5 := fun h => hall ⟨rfl, rfl, h0, h⟩
              have g0 : decide (V0 ≥ 0) = true := decide_eq_true h0
              have g5 : decide (V5 ≥ 0) = false := decide_eq_false h5
              clear hall
              go_upto_region 9 with (fail)
              go_region
              all_goals
                go_wp2_with fail
                have hg := set7_litd HX.out.r rfl (.int .i64 V0) (.slice r1 m1 k1) (.slice r2 m2 k2) (.slice a7 n7 k7) (.string p4) (.int .i64 V5) (.string p6)
                refine bodyPost_ret (v := .tuple #[.agg #[.int .i64 V0, .slice r1 m1 k1, .slice r2 m2 k2, .slice a7 n7 k7, .string p4, .int .i64 V5, .string p6], .bool false]) ?_ rfl ?_
                · refine (results_cell_row2 rfl _ _ w.heap.size 54 #[.int .i64 V0, .slice r1 m1 k1, .slice r2 m2 k2, .slice a7 n7 k7, .string p4, .int .i64 V5, .string p6] (0, 0) _ ?_ ?_ Tryd.underlying54 rfl (by kernel_rfl)).trans ?_
                  · rfl
                  · exact hg
                  · rfl
                clear hg
                refine ⟨(set7_bel HX.out.b (Nat.le_refl _) _ _ _ _ _ _ _).trans (Drawn.below (Drawn.one (Drawn.refl _)) _), _, by rw [HN.out]; rfl, fun t ht => (by rw [HN.out] at ht; cases ht), ⟨_, _, _, _, _, _, _, _, _, _, _, _, _, rfl⟩⟩
            · have g0 : decide (V0 ≥ 0) = false := decide_eq_false h0
              clear hall
              go_upto_region 9 with (fail)
              go_region
              all_goals
                go_wp2_with fail
                have hg := set7_litd HX.out.r rfl (.int .i64 V0) (.slice r1 m1 k1) (.slice r2 m2 k2) (.slice a7 n7 k7) (.string p4) (.int .i64 V5) (.string p6)
                refine bodyPost_ret (v := .tuple #[.agg #[.int .i64 V0, .slice r1 m1 k1, .slice r2 m2 k2, .slice a7 n7 k7, .string p4, .int .i64 V5, .string p6], .bool false]) ?_ rfl ?_
                · refine (results_cell_row2 rfl _ _ w.heap.size 54 #[.int .i64 V0, .slice r1 m1 k1, .slice r2 m2 k2, .slice a7 n7 k7, .string p4, .int .i64 V5, .string p6] (0, 0) _ ?_ ?_ Tryd.underlying54 rfl (by kernel_rfl)).trans ?_
                  · rfl
                  · exact hg
                  · rfl
                clear hg
                refine ⟨(set7_bel HX.out.b (Nat.le_refl _) _ _ _ _ _ _ _).trans (Drawn.below (Drawn.one (Drawn.refl _)) _), _, by rw [HN.out]; rfl, fun t ht => (by rw [HN.out] at ht; cases ht), ⟨_, _, _, _, _, _, _, _, _, _, _, _, _, rfl⟩⟩
  · have HN := Lib.hid (stepP_none h7)
    obtain ⟨xs, hxs⟩ : ∃ xs, xs = pcs 59 s := ⟨_, rfl⟩
    rw [← hxs] at HSP hpl h7
    have hi : ((xs.length : Int) != 7) = true := by rw [bne_iff_ne]; omega
    obtain ⟨R, hR⟩ : ∃ R, R = stepP s := ⟨_, rfl⟩
    rw [← hR] at HN ⊢
    clear hxs hR h7 hpl hcb
    go_enter Tryd.func29, Tryd.ntmps29
    go_wp2_with fail
    refine (HSP.out _).mono ?_
    rintro e w1 ⟨u, rfl, o1, b1⟩
    have B1 : Below w.heap.size w w1 := bel_next ((Below.refl _ w).alloc (Nat.le_refl _) _) b1
    have hR0 : w1.heap[w.heap.size]? = some (.cells #[.int .i64 0, .slice none 0 0, .slice none 0 0, .slice none 0 0, .string ⟨#[]⟩, .int .i64 0, .string ⟨#[]⟩] 54) :=
      (b1.block _ (by simp)).trans (heap_alloc_new w _)
    obtain ⟨ao, co, rfl⟩ := o1.shape
    have HB1 := Lib.hid B1
    have HR0 := Lib.hid hR0
    have hU : U5 w w1 w.heap.size _ _ _ _ _ _ _ := ⟨B1, hR0, hR0⟩
    obtain ⟨-, -, -, -, -, -, -, -, rr0, rr1, rr2, rr3, rr4, rr5, rr6, ff0, ff1, ff2, ff3, ff4, ff5, ff6⟩ := hU.all
    clear hU o1 b1 B1 hR0
    go_wp2_with fail
    have hg := set7_litc HR0.out rfl (.int .i64 0) (.slice none 0 0) (.slice none 0 0) (.slice none 0 0) (.string ⟨#[]⟩) (.int .i64 0) (.string ⟨#[]⟩)
    refine bodyPost_ret (v := .tuple #[.agg #[.int .i64 0, .slice none 0 0, .slice none 0 0, .slice none 0 0, .string ⟨#[]⟩, .int .i64 0, .string ⟨#[]⟩], .bool false]) ?_ rfl ?_
    · refine (results_cell_row2 rfl _ _ w.heap.size 54 #[.int .i64 0, .slice none 0 0, .slice none 0 0, .slice none 0 0, .string ⟨#[]⟩, .int .i64 0, .string ⟨#[]⟩] (0, 0) _ ?_ ?_ Tryd.underlying54 rfl (by kernel_rfl)).trans ?_
      · rfl
      · exact hg
      · rfl
    clear hg
    refine ⟨set7_bel HB1.out (Nat.le_refl _) _ _ _ _ _ _ _, _, by rw [HN.out]; rfl, fun t ht => (by rw [HN.out] at ht; cases ht), ⟨_, _, _, _, _, _, _, _, _, _, _, _, _, rfl⟩⟩
end Go.Proofs.YtjlpmfimbgbcmaaDoor
