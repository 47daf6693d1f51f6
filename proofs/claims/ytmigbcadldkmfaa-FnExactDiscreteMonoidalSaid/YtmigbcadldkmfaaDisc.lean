/-
  Chapter 35: DiscreteMonoidal of program and reference.
-/
import Derived.Test.YtmigbcadldkmfaaTableD
import Derived.Test.YtmigbcadldkmfaaChain
import Derived.Test.YtmigbcadldkmfaaMdl
namespace Go.Proofs.Ytmigbcadldkmfaa
open Go.RowKit

def disM (t : List (List Int)) : Mdl := ⟨disC t.length, 0, t, t⟩
noncomputable def disR (t : List (List Int)) : Mdl × Int := if dB (Mon t) = true then (if t.length ≤ 8 then (disM t, 0) else (nilM, 3)) else (nilM, 1)
theorem disR_1 {t : List (List Int)} (h : ¬ dB (Mon t) = true) : disR t = (nilM, 1) := by unfold disR; rw [if_neg h]
theorem disR_3 {t : List (List Int)} (h : dB (Mon t) = true) (h2 : ¬ t.length ≤ 8) : disR t = (nilM, 3) := by unfold disR; rw [if_pos h, if_neg h2]
theorem disR_0 {t : List (List Int)} (h : dB (Mon t) = true) (h2 : t.length ≤ 8) : disR t = (disM t, 0) := by unfold disR; rw [if_pos h, if_pos h2]
def idL (m : Nat) : List Int := tab (fun i => (i : Int)) m
theorem idL_length (m : Nat) : (idL m).length = m := tab_length _ _
theorem gi_idL {m i : Nat} (h : i < m) : gi (idL m) i = (i : Int) := gi_tab h
theorem c_numbers {w : World} {m : Nat} (hm : m ≤ 4294967296) : Calls Try.prog 50 #[.int .i64 (m : Int)] w (Mk w fun w' u => OwnT 2 w.heap.size w'.heap.size w' u (idL m)) := by
  have hmk := run_make_row' (P := Try.prog) 22 2 (.int .i64 0) 8 Try.underlying22 infoInt64 rfl .i64 .i64 m (by omega) (by omega)
  go_enter Try.func50, Try.ntmps50
  go_wp2
  clear hmk
  go_loopw [4, 9] (fun _ i wr => ∃ k : Nat, k ≤ m ∧ i = .int .i64 k ∧ Below w.heap.size w wr ∧ wr.rowIs w.heap.size 2 m (fun j => if j < k then .int .i64 (j : Int) else .int .i64 0)) (fun _ i _ => m - (intOf i).toNat)
  case atStart => exact ⟨0, Nat.zero_le _, rfl, (Below.refl _ _).alloc (Nat.le_refl _) _, (World.rowIs_made w _ _ _).congr (fun i _ => by simp)⟩
  case round =>
    obtain ⟨k, hk, rfl, hb, hr⟩ := hrel
    by_cases hlt : k < m
    · have hst := hr.cell hlt
      have hfz := hr.frozen k
      go_wp2
      go_roundw
      case rel => exact ⟨k + 1, by omega, by go_num, hb.setCell (Nat.le_refl _) _, (hr.set k _).congr (fun j _ => by
        by_cases e : j = k
        · subst e; rw [if_pos rfl, if_pos (by omega)]
        · rw [if_neg e]
          by_cases h : j < k
          · rw [if_pos h, if_pos (by omega)]
          · rw [if_neg h, if_neg (by omega)])⟩
      case measure => simp [intOf]; omega
    · have hk : m = k := by omega
      subst hk
      go_wp2
      go_ret
      have h := Own.of_row (xs := idL m) (B := w.heap.size) (by rw [idL_length]; exact hr) (Nat.le_refl _) (fun i hi => by rw [idL_length] at hi; rw [if_pos hi, gi_idL hi]) (tab_I64 fun i hi => by constructor <;> omega) (by rw [idL_length]; exact hm)
      rw [idL_length] at h
      exact ⟨_, rfl, h.top, hb⟩
theorem c_disClo {w : World} (f g : Int) : Calls Try.prog 51 #[.int .i64 f, .int .i64 g] w (Ret w (.int .i64 f)) := by
  go_enter Try.func51, Try.ntmps51
  go_wp2
  go_ret
  exact ⟨rfl, Below.refl _ _⟩
set_option maxHeartbeats 3200000 in
theorem c_discrete {w : World} {m : Nat} (hm : m ≤ 8) : Calls Try.prog 41 #[.int .i64 (m : Int)] w (Mk w fun w' u => OwnC w.heap.size w'.heap.size w' u (disC m)) := by
  go_enter Try.func41, Try.ntmps41
  go_wp2_with fail
  have B0 : RS w w.heap.size 25 (w.alloc (.cells #[.int .i64 0, .slice none 0 0, .slice none 0 0, .slice none 0 0, .slice none 0 0] 25)) := RS.start (x0 := .int .i64 0) (x1 := .slice none 0 0) (x2 := .slice none 0 0) (x3 := .slice none 0 0) (x4 := .slice none 0 0) 0
  have z0 : (w.alloc (.cells #[.int .i64 0, .slice none 0 0, .slice none 0 0, .slice none 0 0, .slice none 0 0] 25)).heap.size = w.heap.size + 1 := by simp
  generalize w.alloc (.cells #[.int .i64 0, .slice none 0 0, .slice none 0 0, .slice none 0 0, .slice none 0 0] 25) = W0 at *
  refine (c_numbers (by omega)).mono ?_
  rintro e w1 ⟨u1, rfl, o1, b1⟩
  have B1 := B0.call b1
  have z1 := b1.size
  obtain ⟨a1, k1, rfl⟩ := o1.shape
  rw [idL_length] at o1 ⊢
  clear b1 B0
  go_wp2_with fail
  refine (c_numbers (by omega)).mono ?_
  rintro e w2 ⟨u2, rfl, o2, b2⟩
  have B2 := B1.call b2
  have z2 := b2.size
  replace o1 := o1.keptB b2
  obtain ⟨a2, k2, rfl⟩ := o2.shape
  rw [idL_length] at o2 ⊢
  clear b2 B1
  go_wp2_with fail
  refine (c_numbers (by omega)).mono ?_
  rintro e w3 ⟨u3, rfl, o3, b3⟩
  have B3 := B2.call b3
  have z3 := b3.size
  replace o1 := o1.keptB b3
  replace o2 := o2.keptB b3
  obtain ⟨a3, k3, rfl⟩ := o3.shape
  rw [idL_length] at o3 ⊢
  clear b3 B2
  have B4 := B3.alloc (.cells #[.int .i64 (m : Int), .slice a1 m k1, .slice a2 m k2, .slice a3 m k3, .slice none 0 0] 25)
  have bb := bel_box w3 (.cells #[.int .i64 (m : Int), .slice a1 m k1, .slice a2 m k2, .slice a3 m k3, .slice none 0 0] 25)
  replace o1 := o1.keptB bb
  replace o2 := o2.keptB bb
  replace o3 := o3.keptB bb
  have hrow := World.rowIs_alloc w3 #[.int .i64 (m : Int), .slice a1 m k1, .slice a2 m k2, .slice a3 m k3, .slice none 0 0] 25 (rowC (m : Int) (.slice a1 m k1) (.slice a2 m k2) (.slice a3 m k3)) (fun i hi => by
    have : i = 0 ∨ i = 1 ∨ i = 2 ∨ i = 3 ∨ i = 4 := by simp at hi; omega
    rcases this with rfl | rfl | rfl | rfl | rfl <;> rfl)
  have z4 : (w3.alloc (.cells #[.int .i64 (m : Int), .slice a1 m k1, .slice a2 m k2, .slice a3 m k3, .slice none 0 0] 25)).heap.size = w3.heap.size + 1 := by simp
  go_wp2_with fail
  clear bb B3
  generalize w3.alloc (.cells #[.int .i64 (m : Int), .slice a1 m k1, .slice a2 m k2, .slice a3 m k3, .slice none 0 0] 25) = w4 at *
  generalize w3.heap.size = c at *
  have HT := c_tableDis (w := w4) (b := c) (F := idL m) (T := idL m) (m := m) (V := fun f _ => (f : Int)) hrow (fun W hW => (o1.kept hW (.inl (by omega))).is) (fun W hW => (o2.kept hW (.inl (by omega))).is) (idL_length m) (idL_length m) (by omega) (fun f g _ _ _ => by constructor <;> omega) (fun W f g _ _ _ _ _ _ => c_disClo _ _)
  refine HT.mono ?_
  rintro e w5 ⟨rfl, hW, vc, hr5, hof⟩
  obtain ⟨aC, kC, rfl⟩ := hof.opened'
  have z5 := hW.size
  have R5 : RS w w.heap.size 25 w5 := by
    obtain ⟨q1, q2, f, q3⟩ := B4
    have q1s := q1.size
    exact ⟨⟨hW.os.trans q1.os, hW.tape.trans q1.tape, hW.output.trans q1.output, Nat.le_trans q1.size hW.size, fun z hz => (hW.block z (.inl (by omega)) (by omega)).trans (q1.block z hz)⟩, q2, f, rowIs_within q3 hW (by omega)⟩
  have y0 := hr5.cell (show 0 < 5 by omega)
  have y1 := hr5.cell (show 1 < 5 by omega)
  have y2 := hr5.cell (show 2 < 5 by omega)
  have y3 := hr5.cell (show 3 < 5 by omega)
  have y4 := hr5.cell (show 4 < 5 by omega)
  simp only [rowC, show ¬ (0 = 4) by omega, show ¬ (1 = 4) by omega, show ¬ (2 = 4) by omega, show ¬ (3 = 4) by omega, show ¬ (1 = 0) by omega, show ¬ (2 = 0) by omega, show ¬ (2 = 1) by omega, show ¬ (3 = 0) by omega, show ¬ (3 = 1) by omega, show ¬ (3 = 2) by omega, if_true, if_false] at y0 y1 y2 y3 y4
  obtain ⟨-, x0, x1, x2, x3, x4, f0, f1, f2, f3, f4⟩ := R5.all
  have HOF := Lib.hid hof
  have HW := Lib.hid hW
  clear hr5 hof hW hrow HT B4
  go_wp2_with fail
  refine bodyPost_ret (results_cell_row rfl _ _ w.heap.size 25 #[_, _, _, _, _] (0, 0) _ (by rfl) (RS.five (w := w) R5 _ _ _ _ _) Try.underlying25 rfl (by kernel_rfl)) rfl ?_
  have hcm : OF 2 22 w4.heap.size w5.heap.size w5 (.slice aC m kC) (disC m).cm.length (gr (disC m).cm) := by
    have e : (disC m).cm.length = m := by simp [disC]
    rw [e]
    refine HOF.out.congr fun f hf => ?_
    have e2 : gr (disC m).cm f = tab (fun g => if f = g then (f : Int) else -1) m := by
      rw [gr_lt (by rw [e]; exact hf)]; simp [disC]
    rw [e2]
    refine tab_congr fun g hg => ?_
    rw [gi_idL hf, gi_idL hg]
    by_cases h : f = g
    · subst h; rw [if_pos rfl, if_pos rfl]
    · rw [if_neg (by omega), if_neg h]
  have hsz : (disC m).cm.length ≤ 1048576 ∧ pS (gr (disC m).cm) (disC m).cm.length ≤ 1099511627776 := by
    have e : (disC m).cm.length = m := by simp [disC]
    have h1 := pS_le_mul (gr (disC m).cm) 8 (disC m).cm.length (fun f hf => by
      rw [e] at hf
      have e2 : gr (disC m).cm f = tab (fun g => if f = g then (f : Int) else -1) m := by
        rw [gr_lt (by rw [e]; exact hf)]; simp [disC]
      rw [e2, tab_length]; exact hm)
    rw [e] at h1 ⊢
    omega
  have h := mkC_set5 R5 (disC m) 0 (vf := .slice a1 m k1) (vt := .slice a2 m k2) (vi := .slice a3 m k3) (o1.kept HW.out (.inl (by omega))) (o2.kept HW.out (.inl (by omega))) (o3.kept HW.out (.inl (by omega))) ⟨hcm, hsz.1, hsz.2⟩ (by omega) (by omega) (show I64 (m : Int) by constructor <;> omega)
  obtain ⟨h1, h2⟩ := mkC_own h
  exact ⟨_, rfl, h1, h2⟩
set_option maxHeartbeats 3200000 in
theorem i_DiscreteMonoidal {w : World} {v : Value} {t : List (List Int)} (h : ISS w v t) : Calls Try.prog 18 #[v] w (MkM w (disR t)) := by
  have hlen := h.len
  have HM := Lib.hid (fun W (hW : Below w.heap.size w W) => c_isMonoid (h.kept hW))
  have HC := Lib.hid (fun W (hW : Below w.heap.size w W) => c_clones (h.kept hW))
  obtain ⟨ao, b, o, c, R, rfl, -⟩ := h.ex
  clear h
  by_cases hM : dB (Mon t) = true
  · by_cases hl : t.length ≤ 8
    · have hlb : decide (8 < t.length) = false := by simp; omega
      have hlb2 : decide ((8 : Int) < (t.length : Int)) = false := decide_eq_false (by omega)
      have HL := Lib.hid (mon_len (dB_s hM).sq (show t.length ≤ 40 by omega))
      have hr := disR_0 hM hl
      have HR := Lib.hid hr
      clear hr
      go_enter Try.func18, Try.ntmps18
      go_wp2_with fail
      refine (HM.out _ (bel_alloc (Below.refl _ _) _)).mono ?_
      rintro e w' ⟨rfl, n1, rfl⟩
      rw [hM]
      have B0 : RS8 w w.heap.size 37 ((w.alloc (.cells #[.int .i64 0, .slice none 0 0, .slice none 0 0, .slice none 0 0, .slice none 0 0, .int .i64 0, .slice none 0 0, .slice none 0 0] 37)).drewN n1) := RS8.drawn RS8.start ⟨_, rfl⟩
      have z0 : ((w.alloc (.cells #[.int .i64 0, .slice none 0 0, .slice none 0 0, .slice none 0 0, .slice none 0 0, .int .i64 0, .slice none 0 0, .slice none 0 0] 37)).drewN n1).heap.size = w.heap.size + 1 := by simp
      generalize (w.alloc (.cells #[.int .i64 0, .slice none 0 0, .slice none 0 0, .slice none 0 0, .slice none 0 0, .int .i64 0, .slice none 0 0, .slice none 0 0] 37)).drewN n1 = W0 at *
      go_wp2_with fail
      refine (c_discrete hl).mono ?_
      rintro e w1 ⟨u1, rfl, o1, b1⟩
      have B1 := B0.call b1
      have z1 := b1.size
      obtain ⟨q1, aF, lF, kF, aT, lT, kT, aI, lI, kI, aC, lC, kC, rfl⟩ := o1.shape5
      clear b1 B0
      go_wp2_with fail
      refine (HC.out _ B1.bel).mono ?_
      rintro e w2 ⟨u2, rfl, o2, b2⟩
      have B2 := B1.call b2
      have z2 := b2.size
      replace o1 := o1.keptB b2
      obtain ⟨a2, k2, rfl⟩ := o2.opened'
      clear b2 B1
      go_wp2_with fail
      refine (HC.out _ B2.bel).mono ?_
      rintro e w3 ⟨u3, rfl, o3, b3⟩
      have B3 := B2.call b3
      have z3 := b3.size
      replace o1 := o1.keptB b3
      replace o2 := o2.keptB b3
      obtain ⟨a3, k3, rfl⟩ := o3.opened'
      obtain ⟨-, x0, x1, x2, x3, x4, x5, x6, x7, f0, f1, f2, f3, f4, f5, f6, f7⟩ := B3.all
      clear b3 B2
      go_wp2_with fail
      refine bodyPost_ret (results_cell_row2 rfl _ _ w.heap.size 37 #[_, _, _, _, _, _, _, _] (0, 0) _ (by rfl) (RS8.five (w := w) B3 _ _ _ _ _ _ _ _) Try.underlying37 rfl (by kernel_rfl)) rfl ?_
      rw [HR.out]
      exact mkM_put B3 (m := disM t) 0 o1 (.ss w1.heap.size w2.heap.size ⟨o2, HL.out.1, HL.out.2⟩ (by omega) (by omega) (by omega)) ⟨o3, HL.out.1, HL.out.2⟩ (by omega) (by omega) (show I64 0 by constructor <;> omega)
    · have hlb : decide (8 < t.length) = true := by simp; omega
      have hlb2 : decide ((8 : Int) < (t.length : Int)) = true := decide_eq_true (by omega)
      have hr := disR_3 hM hl
      go_enter Try.func18, Try.ntmps18
      go_wp2_with fail
      refine (HM.out _ (bel_alloc (Below.refl _ _) _)).mono ?_
      rintro e w' ⟨rfl, n1, rfl⟩
      rw [hM]
      have B0 : RS8 w w.heap.size 37 ((w.alloc (.cells #[.int .i64 0, .slice none 0 0, .slice none 0 0, .slice none 0 0, .slice none 0 0, .int .i64 0, .slice none 0 0, .slice none 0 0] 37)).drewN n1) := RS8.drawn RS8.start ⟨_, rfl⟩
      generalize (w.alloc (.cells #[.int .i64 0, .slice none 0 0, .slice none 0 0, .slice none 0 0, .slice none 0 0, .int .i64 0, .slice none 0 0, .slice none 0 0] 37)).drewN n1 = W0 at *
      obtain ⟨-, x0, x1, x2, x3, x4, x5, x6, x7, f0, f1, f2, f3, f4, f5, f6, f7⟩ := B0.all
      go_wp2_with fail
      refine bodyPost_ret (results_cell_row2 rfl _ _ w.heap.size 37 #[_, _, _, _, _, _, _, _] (0, 0) _ (by rfl) (RS8.five (w := w) B0 _ _ _ _ _ _ _ _) Try.underlying37 rfl (by kernel_rfl)) rfl ?_
      exact mkM_nil8 B0 hr
  · have hr := disR_1 hM
    simp only [Bool.not_eq_true] at hM
    go_enter Try.func18, Try.ntmps18
    go_wp2_with fail
    refine (HM.out _ (bel_alloc (Below.refl _ _) _)).mono ?_
    rintro e w' ⟨rfl, n1, rfl⟩
    rw [hM]
    have B0 : RS8 w w.heap.size 37 ((w.alloc (.cells #[.int .i64 0, .slice none 0 0, .slice none 0 0, .slice none 0 0, .slice none 0 0, .int .i64 0, .slice none 0 0, .slice none 0 0] 37)).drewN n1) := RS8.drawn RS8.start ⟨_, rfl⟩
    generalize (w.alloc (.cells #[.int .i64 0, .slice none 0 0, .slice none 0 0, .slice none 0 0, .slice none 0 0, .int .i64 0, .slice none 0 0, .slice none 0 0] 37)).drewN n1 = W0 at *
    obtain ⟨-, x0, x1, x2, x3, x4, x5, x6, x7, f0, f1, f2, f3, f4, f5, f6, f7⟩ := B0.all
    go_wp2_with fail
    refine bodyPost_ret (results_cell_row2 rfl _ _ w.heap.size 37 #[_, _, _, _, _, _, _, _] (0, 0) _ (by rfl) (RS8.five (w := w) B0 _ _ _ _ _ _ _ _) Try.underlying37 rfl (by kernel_rfl)) rfl ?_
    exact mkM_nil8 B0 hr
/-- A monoidal category that reads, in blocks from B on, below T. -/
structure VM (B T : Nat) (w : World) (v : Value) (m : Mdl) : Prop where
  view : ∀ W : World, (∀ k, B ≤ k → k < T → W.heap[k]? = w.heap[k]?) → IM W v m
  top : T ≤ w.heap.size
theorem VM.is {B T : Nat} {w : World} {v : Value} {m : Mdl} (h : VM B T w v m) : IM w v m := h.view w (fun _ _ _ => rfl)
theorem VM.size {B T : Nat} {w : World} {v : Value} {m : Mdl} (_ : VM B T w v m) : True := trivial
theorem VM.kept {B T B' T' : Nat} {w w' : World} {v : Value} {m : Mdl} (h : VM B T w v m) (hb : Within B' T' w w') (hd : T ≤ B' ∨ T' ≤ B) : VM B T w' v m :=
  ⟨fun W hW => h.view W fun k h1 h2 => (hW k h1 h2).trans (hb.block k (by omega) (by have := h.top; omega)), Nat.le_trans h.top hb.size⟩
theorem VM.shape5 {B T : Nat} {w : World} {v : Value} {m : Mdl} (h : VM B T w v m) : ∃ n aF lF kF aT lT kT aI lI kI aC lC kC u aO lO kO aA lA kA, v = .agg #[.int .i64 n, .slice aF lF kF, .slice aT lT kT, .slice aI lI kI, .slice aC lC kC, .int .i64 u, .slice aO lO kO, .slice aA lA kA] := by
  obtain ⟨n, vf, vt, vi, vc, vo, va, rfl, h1, h2, h3⟩ := h.is.ex
  obtain ⟨⟨wf, wt, wi, wc, he, j1, j2, j3, j4⟩, -⟩ := h1
  simp only [Value.agg.injEq, Array.mk.injEq, List.cons.injEq, and_true] at he
  obtain ⟨-, rfl, rfl, rfl, rfl⟩ := he
  obtain ⟨a1, b1, o1, c1, rfl, -⟩ := j1.ex
  obtain ⟨a2, b2, o2, c2, rfl, -⟩ := j2.ex
  obtain ⟨a3, b3, o3, c3, rfl, -⟩ := j3.ex
  obtain ⟨a4, b4, o4, c4, R4, rfl, -⟩ := j4.ex
  obtain ⟨a5, b5, o5, c5, R5, rfl, -⟩ := h2.ex
  obtain ⟨a6, b6, o6, c6, R6, rfl, -⟩ := h3.ex
  exact ⟨_, _, _, _, _, _, _, _, _, _, _, _, _, _, _, _, _, _, _, _, rfl⟩
theorem of_agree {E E' : TypeId} {B T : Nat} {w W : World} {v : Value} {n : Nat} {D : Nat → List Int} (h : OF E E' B T w v n D) (ha : ∀ k, B ≤ k → k < T → W.heap[k]? = w.heap[k]?) : OF E E' B T W v n D := by
  obtain ⟨V, h1, h2, h3, h4, h5⟩ := h
  refine ⟨V, ⟨h1.1, ?_⟩, h2, fun i hi => ?_, h4, h5⟩
  · rcases h1.2 with hn | ⟨g, cap, cur, hv, hBg, hg, rest⟩
    · exact .inl hn
    · exact .inr ⟨g, cap, cur, hv, hBg, (ha g hBg (h2 g (by rw [hv]; rfl))).trans hg, rest⟩
  · have ho := h3 i hi
    refine ⟨⟨⟨ho.own.row.1, ?_⟩, ho.own.wf, ho.own.len⟩, ho.top⟩
    rcases ho.own.row.2 with hn | ⟨g, cap, cur, hv, hBg, hg, rest⟩
    · exact .inl hn
    · exact .inr ⟨g, cap, cur, hv, hBg, (ha g hBg (ho.top g (by rw [hv]; rfl))).trans hg, rest⟩
/-- The end of a call with a monoidal category that reads and a code for results. -/
def MkVM (w : World) (r : Mdl × Int) : Ending → World → Prop := fun e w' => ∃ u, e = .returned (.tuple #[u, .int .i64 r.2]) ∧ VM w.heap.size w'.heap.size w' u r.1 ∧ Below w.heap.size w w'
theorem mkVM_nil8 {w W : World} {b : Nat} {T : TypeId} {r : Mdl × Int} {code : Int} (hR : RS8 w b T W) (hr : r = (nilM, code)) :
    MkVM w r (.returned (.tuple #[.agg #[.int .i64 0, .slice none 0 0, .slice none 0 0, .slice none 0 0, .slice none 0 0, .int .i64 0, .slice none 0 0, .slice none 0 0], .int .i64 code])) (set8 W b (.int .i64 0) (.slice none 0 0) (.slice none 0 0) (.slice none 0 0) (.slice none 0 0) (.int .i64 0) (.slice none 0 0) (.slice none 0 0)) := by
  subst hr
  have nn : ∀ W : World, ISS W (.slice none 0 0) [] := fun W => ⟨⟨none, 0, 0, 0, fun _ => undef, rfl, fun h => by simp at h, fun i hi => by simp at hi, fun i hi => by simp at hi⟩, by simp⟩
  have n1 : ∀ W : World, IS W (.slice none 0 0) [] := fun W => (Own.nil 2 W 0).is
  exact ⟨_, rfl, ⟨fun W _ => ⟨0, _, _, _, _, _, _, rfl, ⟨⟨_, _, _, _, rfl, n1 W, n1 W, n1 W, nn W⟩, by constructor <;> simp [nilM, nilC]⟩, nn W, nn W⟩, Nat.le_refl _⟩, hR.five_bel _ _ _ _ _ _ _ _⟩
theorem mkVM_put {w W : World} {b b1 t1 b2 t2 b3 t3 : Nat} {T : TypeId} (hR : RS8 w b T W) {m : Mdl} (code : Int) {n : Int} {vf vt vi vc vo va : Value} (h1 : VC b1 t1 W (.agg #[.int .i64 n, vf, vt, vi, vc]) m.on) (h2 : OF 2 22 b2 t2 W vo m.ob.length (gr m.ob)) (h3 : OF 2 22 b3 t3 W va m.ar.length (gr m.ar))
    (hb : b < b1 ∧ b < b2 ∧ b < b3 ∧ t1 ≤ W.heap.size ∧ t2 ≤ W.heap.size ∧ t3 ≤ W.heap.size) (hl : m.ob.length ≤ 4294967296 ∧ m.ar.length ≤ 4294967296) :
    MkVM w (m, code) (.returned (.tuple #[.agg #[.int .i64 n, vf, vt, vi, vc, .int .i64 m.u, vo, va], .int .i64 code])) (set8 W b (.int .i64 n) vf vt vi vc (.int .i64 m.u) vo va) := by
  have hs := set8_size W b (.int .i64 n) vf vt vi vc (.int .i64 m.u) vo va
  have hw := set8_within W b (.int .i64 n) vf vt vi vc (.int .i64 m.u) vo va
  have hb2 := hR.2.1
  obtain ⟨l1, l2, l3, k1, k2, k3⟩ := hb
  refine ⟨_, rfl, ⟨fun X hX => ?_, Nat.le_refl _⟩, hR.five_bel _ _ _ _ _ _ _ _⟩
  have key : ∀ k, b < k → k < W.heap.size → X.heap[k]? = W.heap[k]? := fun k a1 a2 => (hX k (by omega) (by rw [hs]; exact a2)).trans (hw.block k (.inr (by omega)) a2)
  exact ⟨n, vf, vt, vi, vc, vo, va, rfl, h1.view X fun k a1 a2 => key k (by omega) (by omega), (of_agree h2 fun k a1 a2 => key k (by omega) (by omega)).iss hl.1, (of_agree h3 fun k a1 a2 => key k (by omega) (by omega)).iss hl.2⟩
theorem sq_idT (n : Nat) : Sq 2 (idT n) := by
  have hl := idT_len n
  intro i hi
  rw [hl] at hi ⊢
  refine ⟨by rw [gr_idT hi, tab_length], allIn_of fun j hj => ?_⟩
  rw [gr_idT hi, tab_length] at hj
  rw [gr_idT hi, gi_tab hj]
  split <;> omega
set_option maxHeartbeats 6400000 in
theorem s_DiscreteMonoidal {w : World} {v : Value} {t : List (List Int)} (h : ISS w v t) : Calls Try.prog 17 #[v] w (MkVM w (disR t)) := by
  have hlen := h.len
  have HM := Lib.hid (fun W (hW : Below w.heap.size w W) => c_l35Monoid (h.kept hW))
  have HC := Lib.hid (fun W (hW : Below w.heap.size w W) => c_l01Own2 (h.kept hW))
  obtain ⟨ao, b, o, c, R, rfl, -⟩ := h.ex
  clear h
  by_cases hM : dB (Mon t) = true
  · by_cases hl : t.length ≤ 8
    · have hlb : decide (8 < t.length) = false := by simp; omega
      have hlb2 : decide ((8 : Int) < (t.length : Int)) = false := decide_eq_false (by omega)
      have hr := disR_0 hM hl
      have HR := Lib.hid hr
      obtain ⟨m, hm⟩ : ∃ m, m = t.length := ⟨_, rfl⟩
      have hmk := run_make_row' (P := Try.prog) 22 2 (.int .i64 0) 8 Try.underlying22 infoInt64 rfl .i64 .i64 m (by omega) (by omega)
      replace HM := Lib.hid HM.out
      replace HC := Lib.hid HC.out
      have HM2 := HM.out
      have HC2 := HC.out
      clear HM HC
      rw [← hm] at hlb hlb2 hl hlen HM2 HC2
      have HM := Lib.hid HM2
      have HC := Lib.hid HC2
      clear HM2 HC2
      have HMM := Lib.hid hm
      have HMK := Lib.hid hmk
      clear hr hmk
      rw [← hm]
      clear hm
      go_enter Try.func17, Try.ntmps17
      go_wp2_with fail
      refine (HM.out _ (bel_alloc (Below.refl _ _) _)).mono ?_
      rintro e w' ⟨rfl, n1, rfl⟩
      rw [hM]
      have B0 : RS8 w w.heap.size 37 ((w.alloc (.cells #[.int .i64 0, .slice none 0 0, .slice none 0 0, .slice none 0 0, .slice none 0 0, .int .i64 0, .slice none 0 0, .slice none 0 0] 37)).drewN n1) := RS8.drawn RS8.start ⟨_, rfl⟩
      have z0 : ((w.alloc (.cells #[.int .i64 0, .slice none 0 0, .slice none 0 0, .slice none 0 0, .slice none 0 0, .int .i64 0, .slice none 0 0, .slice none 0 0] 37)).drewN n1).heap.size = w.heap.size + 1 := by simp
      generalize (w.alloc (.cells #[.int .i64 0, .slice none 0 0, .slice none 0 0, .slice none 0 0, .slice none 0 0, .int .i64 0, .slice none 0 0, .slice none 0 0] 37)).drewN n1 = W0 at *
      have HB0 := Lib.hid B0
      have HZ0 := Lib.hid z0
      clear B0 z0
      go_wp2_with fail
      go_loopw [4, 5, 6] (fun rv iv _ wr => ∃ i : Nat, i ≤ m ∧ iv = .int .i64 i ∧ RS8 w w.heap.size 37 wr ∧ OF 2 22 (w.heap.size + 1) wr.heap.size wr rv i (gr (idT m))) (fun _ iv _ _ => m - (intOf iv).toNat)
      case atStart => exact ⟨0, Nat.zero_le _, rfl, HB0.out.alloc _, by rw [World.size_alloc]; exact OF.empty (by rw [HZ0.out]; omega) rfl⟩
      case round =>
        obtain ⟨i, hi, rfl, hR, ho⟩ := hrel
        by_cases hlt : i < m
        · have hmk := HMK.out
          have hqs := hR.lt
          have kp : (0 : Int) ≤ (i : Int) := by omega
          have kq : (i : Int) < (m : Int) := by omega
          have rr := World.rowIs_made wr (.int .i64 0) m 2
          have hR2 := hR.alloc (.cells (madeCells #[.int .i64 0] m) 2)
          have ho2 := ho.keptB (bel_box wr (.cells (madeCells #[.int .i64 0] m) 2))
          have zr : (wr.alloc (.cells (madeCells #[.int .i64 0] m) 2)).heap.size = wr.heap.size + 1 := by simp
          go_upto_region 10 with (fail)
          generalize wr.alloc (.cells (madeCells #[.int .i64 0] m) 2) = W2 at *
          generalize wr.heap.size = r at *
          have cl := rr.cell hlt
          have fl := rr.frozen i
          have hwi := (Within.refl r (r + 1) W2).setCell (p := ⟨r, i, none⟩) (Nat.le_refl _) (Nat.lt_succ_self _) (.int .i64 1)
          have hr6 := rr.set i (.int .i64 1)
          have HRS : Hid (RS8 w w.heap.size 37 (W2.setCell ⟨r, i, none⟩ (.int .i64 1))) := (by
            obtain ⟨q1, q2, f, q3⟩ := hR2
            have q1s := q1.size
            exact ⟨q1.setCell (p := ⟨r, i, none⟩) (by simp; omega) _, q2, f, rowIs_within q3 hwi (by omega)⟩ : RS8 w w.heap.size 37 (W2.setCell ⟨r, i, none⟩ (.int .i64 1)))
          have hof := ho2.kept hwi (.inl (Nat.le_refl _))
          have es : (W2.setCell ⟨r, i, none⟩ (.int .i64 1)).heap.size = W2.heap.size := by simp [World.setCell]
          have hrow : (W2.setCell ⟨r, i, none⟩ (.int .i64 1)).rowIs r 2 (tab (fun j => if j = i then 1 else 0) m).length (fun j => if j = i then .int .i64 1 else .int .i64 0) := by rw [tab_length]; exact hr6
          have hown : OwnT 2 r (W2.setCell ⟨r, i, none⟩ (.int .i64 1)).heap.size (W2.setCell ⟨r, i, none⟩ (.int .i64 1)) (.slice (some ⟨r, 0, none⟩) m m) (gr (idT m) i) := by
            have h := Own.of_row (B := r) hrow (Nat.le_refl _) (fun j hj => by
              rw [tab_length] at hj
              rw [gi_tab hj]
              by_cases h1 : j = i
              · rw [if_pos h1, if_pos h1]
              · rw [if_neg h1, if_neg h1]) (tab_I64 fun i hi => by split <;> constructor <;> omega) (by rw [tab_length]; omega)
            rw [tab_length] at h
            rw [gr_idT hlt]
            exact ⟨h, fun q hq => (h.lt q hq).2⟩
          obtain ⟨ao9, c9, rfl⟩ := hof.opened'
          have HOF := Lib.hid hof
          have HOW := Lib.hid hown
          clear hr6 hrow rr hof hown hwi hR2 ho2 hR ho hmk
          go_wp2_with (at_builtin; refine hold ?_)
          refine appSS (by decide) HOF.out HOW.out (by omega) (by rw [es]; omega) (by omega) Try.underlying23 infoInts (by rfl) _ _ (by rfl) (by rfl) (by rfl) (by first | rfl | exact es.trans zr | exact es | simp) ?_
          intro v' w4 ho4 g4
          have HO4 := Lib.hid ho4
          have HR4 : Hid (RS8 w w.heap.size 37 w4) := (by
            obtain ⟨q1, q2, f, q3⟩ := HRS.out
            have hlo := fun z hz => (HOF.out.lt z hz).1
            exact ⟨g4.below q1 q1.size (fun z hz => by have := hlo z hz; omega), q2, f, rowIs_grew q3 g4 (Dj.of_lt (N := w.heap.size + 1) (fun z hz => by have e : some w.heap.size = some z := hz; injection e with e; omega) hlo)⟩ : RS8 w w.heap.size 37 w4)
          clear ho4 g4 cl fl es
          go_wp2_with fail
          go_roundw
          case rel => exact ⟨i + 1, by omega, by go_num, HR4.out, HO4.out.congr fun j hj => by
            by_cases e : j < i
            · rw [if_pos e]
            · rw [if_neg e]
              obtain rfl : j = i := by omega
              rfl⟩
          case measure => simp [intOf]; omega
        · have him : m = i := by omega
          have hcl := idT_len m
          have ho2 : OF 2 22 (w.heap.size + 1) wr.heap.size wr u4 (idT m).length (gr (idT m)) := by rw [hcl, him]; rw [him] at ho; exact ho
          have HQ := Lib.hid (c_l03Poset (ho2.iss (by omega)) (sq_idT m) (by omega))
          have hqs := hR.lt
          subst him
          clear ho ho2
          go_wp2_with fail
          refine HQ.out.mono ?_
          rintro e w2 ⟨u, rfl, ⟨aF, kF, aT, nT, kT, aI, nI, kI, aC, nC, kC, rfl, hV⟩, b2⟩
          have B2 := hR.call b2
          have z2 := b2.size
          rw [hcl, pos_idT hl] at hV
          have hcl2 : ((idT m).length : Int) = (m : Int) := by rw [hcl]
          rw [hcl2]
          generalize (prs (idT m)).length = p at *
          clear b2 hcl hcl2
          go_wp2_with fail
          refine (HC.out _ B2.bel).mono ?_
          rintro e w3 ⟨u3, rfl, o3, b3⟩
          have B3 := B2.call b3
          have z3 := b3.size
          have hV3 := hV.keptB b3
          obtain ⟨a3, k3, rfl⟩ := o3.opened'
          clear b3 B2
          go_wp2_with fail
          refine (HC.out _ B3.bel).mono ?_
          rintro e w4 ⟨u4, rfl, o4, b4⟩
          have B4 := B3.call b4
          have z4 := b4.size
          have hV4 := hV3.keptB b4
          replace o3 := o3.keptB b4
          obtain ⟨a4, k4, rfl⟩ := o4.opened'
          obtain ⟨-, x0, x1, x2, x3, x4, x5, x6, x7, f0, f1, f2, f3, f4, f5, f6, f7⟩ := B4.all
          clear b4 B3 hV hV3
          go_wp2_with fail
          refine bodyPost_ret (results_cell_row2 rfl _ _ w.heap.size 37 #[_, _, _, _, _, _, _, _] (0, 0) _ (by rfl) (RS8.five (w := w) B4 _ _ _ _ _ _ _ _) Try.underlying37 rfl (by kernel_rfl)) rfl ?_
          rw [HR.out]
          have o3' : OF 2 22 w2.heap.size w3.heap.size w4 (.slice a3 m k3) t.length (gr t) := (by rw [← HMM.out]; exact o3)
          have o4' : OF 2 22 w3.heap.size w4.heap.size w4 (.slice a4 m k4) t.length (gr t) := (by rw [← HMM.out]; exact o4)
          have hV5 : VC wr.heap.size w2.heap.size w4 _ (disM t).on := (by show VC _ _ _ _ (disC t.length); rw [← HMM.out]; exact hV4)
          exact mkVM_put (b := w.heap.size) (b1 := wr.heap.size) (t1 := w2.heap.size) (b2 := w2.heap.size) (t2 := w3.heap.size) (b3 := w3.heap.size) (t3 := w4.heap.size) B4 (m := disM t) 0 hV5 o3' o4' (by omega) (by show t.length ≤ _ ∧ t.length ≤ _; rw [← HMM.out]; omega)
    · have hlb : decide (8 < t.length) = true := by simp; omega
      have hlb2 : decide ((8 : Int) < (t.length : Int)) = true := decide_eq_true (by omega)
      have hr := disR_3 hM hl
      go_enter Try.func17, Try.ntmps17
      go_wp2_with fail
      refine (HM.out _ (bel_alloc (Below.refl _ _) _)).mono ?_
      rintro e w' ⟨rfl, n1, rfl⟩
      rw [hM]
      have B0 : RS8 w w.heap.size 37 ((w.alloc (.cells #[.int .i64 0, .slice none 0 0, .slice none 0 0, .slice none 0 0, .slice none 0 0, .int .i64 0, .slice none 0 0, .slice none 0 0] 37)).drewN n1) := RS8.drawn RS8.start ⟨_, rfl⟩
      generalize (w.alloc (.cells #[.int .i64 0, .slice none 0 0, .slice none 0 0, .slice none 0 0, .slice none 0 0, .int .i64 0, .slice none 0 0, .slice none 0 0] 37)).drewN n1 = W0 at *
      obtain ⟨-, x0, x1, x2, x3, x4, x5, x6, x7, f0, f1, f2, f3, f4, f5, f6, f7⟩ := B0.all
      go_wp2_with fail
      refine bodyPost_ret (results_cell_row2 rfl _ _ w.heap.size 37 #[_, _, _, _, _, _, _, _] (0, 0) _ (by rfl) (RS8.five (w := w) B0 _ _ _ _ _ _ _ _) Try.underlying37 rfl (by kernel_rfl)) rfl ?_
      exact mkVM_nil8 B0 hr
  · have hr := disR_1 hM
    simp only [Bool.not_eq_true] at hM
    go_enter Try.func17, Try.ntmps17
    go_wp2_with fail
    refine (HM.out _ (bel_alloc (Below.refl _ _) _)).mono ?_
    rintro e w' ⟨rfl, n1, rfl⟩
    rw [hM]
    have B0 : RS8 w w.heap.size 37 ((w.alloc (.cells #[.int .i64 0, .slice none 0 0, .slice none 0 0, .slice none 0 0, .slice none 0 0, .int .i64 0, .slice none 0 0, .slice none 0 0] 37)).drewN n1) := RS8.drawn RS8.start ⟨_, rfl⟩
    generalize (w.alloc (.cells #[.int .i64 0, .slice none 0 0, .slice none 0 0, .slice none 0 0, .slice none 0 0, .int .i64 0, .slice none 0 0, .slice none 0 0] 37)).drewN n1 = W0 at *
    obtain ⟨-, x0, x1, x2, x3, x4, x5, x6, x7, f0, f1, f2, f3, f4, f5, f6, f7⟩ := B0.all
    go_wp2_with fail
    refine bodyPost_ret (results_cell_row2 rfl _ _ w.heap.size 37 #[_, _, _, _, _, _, _, _] (0, 0) _ (by rfl) (RS8.five (w := w) B0 _ _ _ _ _ _ _ _) Try.underlying37 rfl (by kernel_rfl)) rfl ?_
    exact mkVM_nil8 B0 hr
end Go.Proofs.Ytmigbcadldkmfaa
