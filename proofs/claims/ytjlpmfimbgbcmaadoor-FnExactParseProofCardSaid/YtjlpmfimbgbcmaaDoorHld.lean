/-
  heldStepS.
-/
import Derived.Test.YtjlpmfimbgbcmaaDoorMks
namespace Go.Proofs.YtjlpmfimbgbcmaaDoor
open Go.RowKit

theorem c_heldStringI {w : World} {v : Value} {q : Int} {k n : Nat} (hq : q = k) (h : SL w v (mks k n)) (hk : 1 ≤ k) (hk' : k + n < 1000000000000) :
    Calls Tryd.prog 37 #[v, .int .i64 q] w (Ret w (.int .i64 (q + n))) := by
  subst hq
  exact (c_heldStringS h hk hk').mono (fun e w' h => ⟨by rw [h.1, Int.natCast_add], h.2⟩)

set_option maxHeartbeats 2000000 in
set_option maxRecDepth 100000 in
theorem c_heldStepS {B T : Nat} {w : World} {v : Value} {X : List SV} {k : Int} (h : OSt B T w v (mkX k X)) (hk : 1 ≤ k) (hk' : k + wtX X < 1000000000000) :
    Calls Tryd.prog 15 #[v, .int .i64 k] w (Ret w (.int .i64 (k + wtX X))) := by
  obtain ⟨ao, g, c, rfl, ha, -⟩ := h.cells
  obtain ⟨n, hn⟩ : ∃ n, n = X.length := ⟨_, rfl⟩
  have HO := Lib.hid h
  rw [mkX_length, ← hn] at ha ⊢
  have HO := Lib.hid (show OSt B T w (.slice ao n c) (mkX k X) by have := HO.out; rw [mkX_length, ← hn] at this; exact this)
  have HN := Lib.hid hn
  have HA := Lib.hid ha
  have hn3 : n ≤ wtX X := by
    have : ∀ Y : List SV, Y.length ≤ wtX Y := fun Y => by
      induction Y with
      | nil => simp [wtX]
      | cons y Y ih => simp only [wtX, wt, List.length_cons]; omega
    rw [hn]; exact this X
  clear h hn ha
  go_enter Tryd.func15, Tryd.ntmps15
  go_wp2_with fail
  go_loopw [1, 5] (fun kv iv wr => ∃ (i : Nat), i ≤ n ∧ iv = .int .i64 i ∧ kv = .int .i64 (k + wtX (X.take i)) ∧ Below w.heap.size w wr) (fun _ iv _ => n - (intOf iv).toNat)
  case atStart => exact ⟨0, Nat.zero_le _, rfl, by simp [wtX], Below.refl _ _⟩
  case round =>
    obtain ⟨i, hi, rfl, rfl, hw⟩ := hrel
    by_cases hlt : i < n
    · obtain ⟨rfl, -, -⟩ := HA.out (by omega)
      have hix : i < X.length := by have := HN.out; omega
      have hws := wtX_take (X := X) (i := i + 1)
      rw [List.take_succ_eq_append_getElem hix, wtX_append] at hws
      have htake : X.take (i + 1) = X.take i ++ [X[i]] := List.take_succ_eq_append_getElem hix
      obtain ⟨x, hx⟩ : ∃ x, x = X[i] := ⟨_, rfl⟩
      rw [← hx] at hws htake
      obtain ⟨K, hK⟩ : ∃ K : Int, K = k + wtX (X.take i) := ⟨_, rfl⟩
      have ho : OSt B T w (.slice (some ⟨g, 0, none⟩) n c) (mkX k (X.take i) ++ { x with t := mkSt K x.t } :: mkX (K + wt x.t) (X.drop (i + 1))) := by
        have h1 := HO.out
        have e : X = X.take i ++ x :: X.drop (i + 1) := by rw [hx, ← List.drop_eq_getElem_cons hix, List.take_append_drop]
        have e2 : mkX k X = mkX k (X.take i) ++ { x with t := mkSt K x.t } :: mkX (K + wt x.t) (X.drop (i + 1)) := by
          conv => lhs; rw [e]
          rw [mkX_append, ← hK]; rfl
        rw [e2] at h1
        exact h1
      have hAl : (mkX k (X.take i)).length = i := by rw [mkX_length, List.length_take]; omega
      have hKb : 1 ≤ K ∧ K + (4 + x.t.prem.length + x.t.ctx.length + x.t.hyp.length : Nat) < 1000000000000 := by
        simp only [wtX, wt] at hws
        omega
      rw [← hK]
      have HTK := Lib.hid htake
      have HKK := Lib.hid hK
      have cel := fun j (hj : j < 7) => ho.cellx hj
      rw [hAl] at cel
      have c0 : wr.cell? ⟨g, i * 7 + 0, none⟩ = some (.int .i64 K) := upc hw ((cel 0 (by decide)).trans rfl)
      have c1 : wr.cell? ⟨g, i * 7 + 1, none⟩ = some x.p := upc hw ((cel 1 (by decide)).trans rfl)
      have c2 : wr.cell? ⟨g, i * 7 + 2, none⟩ = some x.c := upc hw ((cel 2 (by decide)).trans rfl)
      have c3 : wr.cell? ⟨g, i * 7 + 3, none⟩ = some x.h := upc hw ((cel 3 (by decide)).trans rfl)
      have c4 : w.cell? ⟨g, i * 7 + 4, none⟩ = some (.string (mT (K + 1 + x.t.prem.length + x.t.ctx.length + x.t.hyp.length).toNat)) := (cel 4 (by decide)).trans rfl
      have c5 : w.cell? ⟨g, i * 7 + 5, none⟩ = some (.int .i64 (K + 1 + x.t.prem.length + x.t.ctx.length + x.t.hyp.length + 1)) := (cel 5 (by decide)).trans rfl
      have c6 : w.cell? ⟨g, i * 7 + 6, none⟩ = some (.string (mT (K + 1 + x.t.prem.length + x.t.ctx.length + x.t.hyp.length + 1 + 1).toNat)) := (cel 6 (by decide)).trans rfl
      rw [Nat.add_zero] at c0
      have ex := (ho.els _ mem_mid).1
      have p1 : IS w x.p (mkI (K + 1) x.t.prem.length) := ex.op.is
      have p2 : IS w x.c (mkI (K + 1 + x.t.prem.length) x.t.ctx.length) := ex.oc.is
      have p3 : SL w x.h (mks (K + 1 + x.t.prem.length + x.t.ctx.length).toNat x.t.hyp.length) := ex.oh.sl
      obtain ⟨hb0, hb1⟩ := hKb
      have HP1 := Lib.hid (fun W (hb : Below w.heap.size w W) => c_heldInt64S (p1.kept hb) (by omega) (by omega))
      have HP2 := Lib.hid (fun W (hb : Below w.heap.size w W) => c_heldInt64S (p2.kept hb) (by omega) (by omega))
      have HP3 := Lib.hid (fun W (hb : Below w.heap.size w W) => c_heldStringI (q := K + 1 + x.t.prem.length + x.t.ctx.length) (by omega) (p3.kept hb) (by omega) (by omega))
      have HM4 := Lib.hid (fun W => c_markTextI (q := K + 1 + x.t.prem.length + x.t.ctx.length + x.t.hyp.length) (k := (K + 1 + x.t.prem.length + x.t.ctx.length + x.t.hyp.length).toNat) (by omega) (by omega) (by omega) W)
      have HM6 := Lib.hid (fun W => c_markTextI (q := K + 1 + x.t.prem.length + x.t.ctx.length + x.t.hyp.length + 1 + 1) (k := (K + 1 + x.t.prem.length + x.t.ctx.length + x.t.hyp.length + 1 + 1).toNat) (by omega) (by omega) (by omega) W)
      have HC4 := Lib.hid c4
      have HC5 := Lib.hid c5
      have HC6 := Lib.hid c6
      have HW0 := Lib.hid hw
      have hne0 : (K != K) = false := by simp
      have hne5 : ((K + 1 + x.t.prem.length + x.t.ctx.length + x.t.hyp.length + 1) != (K + 1 + x.t.prem.length + x.t.ctx.length + x.t.hyp.length + 1)) = false := by simp
      have g1 : decide (K + 1 + (x.t.prem.length : Int) < 0) = false := decide_eq_false (by omega)
      have g2 : decide (K + 1 + (x.t.prem.length : Int) + x.t.ctx.length < 0) = false := decide_eq_false (by omega)
      have g3 : decide (K + 1 + (x.t.prem.length : Int) + x.t.ctx.length + x.t.hyp.length < 0) = false := decide_eq_false (by omega)
      clear ho hx hK hws htake hw hAl cel ex p1 p2 p3 c4 c5 c6
      go_wp2_with fail
      refine (HP1.out _ HW0.out).mono ?_
      rintro e w' ⟨rfl, n1, rfl⟩
      go_wp2_with fail
      refine (HP2.out _ (HW0.out.trans (Drawn.below (by repeat (first | exact Drawn.refl _ | refine Drawn.step ?_ _ | refine Drawn.one ?_)) _))).mono ?_
      rintro e w' ⟨rfl, n2, rfl⟩
      go_wp2_with fail
      refine (HP3.out _ (HW0.out.trans (Drawn.below (by repeat (first | exact Drawn.refl _ | refine Drawn.step ?_ _ | refine Drawn.one ?_)) _))).mono ?_
      rintro e w3 ⟨rfl, b3⟩
      have HW3 := Lib.hid (bel_next (HW0.out.trans (Drawn.below (by repeat (first | exact Drawn.refl _ | refine Drawn.step ?_ _ | refine Drawn.one ?_)) _)) b3)
      have c4 := upc HW3.out HC4.out
      clear b3 c0 c1 c2 c3
      go_wp2_with fail
      refine wp_region_qb (by kernel_rfl) (by kernel_rfl) ?_
      repeat (refine qw_step (fun K hK => ?_); first | (refine qb_no rfl ?_; (try simp only [Act.put, List.setIfInBounds_toArray, List.set_cons_zero, List.set_cons_succ]); refine hK _ ?_; clear hK K) | (refine qb_yes rfl ?_; apply Exists.intro; refine ⟨fun w' hC => ?_, ?_⟩; (· (have x0 := up_cell hC c4; (try go_simp); (first | done | (go_at_call 35; with_reducible exact calls_qb hC (HM4.out _)) | with_reducible rfl | exact rfl))); (try simp only [Act.put, List.setIfInBounds_toArray, List.set_cons_zero, List.set_cons_succ]); refine hK _ ?_; clear hK K))
      refine qw_nil ?_
      intro wq hbq
      have HW4 := Lib.hid (bel_next HW3.out hbq)
      have c5 := upc HW4.out HC5.out
      clear hbq c4
      generalize wq = w4 at *
      go_wp2_with fail
      have c6 := upc HW4.out HC6.out
      clear c5
      refine wp_region_qb (by kernel_rfl) (by kernel_rfl) ?_
      repeat (refine qw_step (fun K hK => ?_); first | (refine qb_no rfl ?_; (try simp only [Act.put, List.setIfInBounds_toArray, List.set_cons_zero, List.set_cons_succ]); refine hK _ ?_; clear hK K) | (refine qb_yes rfl ?_; apply Exists.intro; refine ⟨fun w' hC => ?_, ?_⟩; (· (have x0 := up_cell hC c6; (try go_simp); (first | done | (go_at_call 35; with_reducible exact calls_qb hC (HM6.out _)) | with_reducible rfl | exact rfl))); (try simp only [Act.put, List.setIfInBounds_toArray, List.set_cons_zero, List.set_cons_succ]); refine hK _ ?_; clear hK K))
      refine qw_nil ?_
      intro wq hbq
      have HW5 := Lib.hid (bel_next HW4.out hbq)
      clear hbq c6
      go_wp2_with fail
      go_roundw
      case rel =>
        refine ⟨i + 1, by omega, by go_num, ?_, HW5.out⟩
        rw [HTK.out, wtX_append]
        simp only [wtX, wt]
        rw [HKK.out]
        congr 1
        omega
      case measure => simp [intOf]; omega
    · have hie : i = n := by omega
      subst hie
      have HW := Lib.hid hw
      have HE := Lib.hid (show X.take i = X by rw [HN.out, List.take_length])
      have hlb : ¬ (i : Int) < (i : Int) := by omega
      clear hw
      go_wp2_with fail
      go_ret
      exact ⟨by rw [HE.out]; rfl, HW.out⟩
end Go.Proofs.YtjlpmfimbgbcmaaDoor
