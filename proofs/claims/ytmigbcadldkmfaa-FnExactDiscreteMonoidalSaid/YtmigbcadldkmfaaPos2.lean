/-
  Chapter 3: PreorderCategory and ChainCategory of the reference; ChainCategory of the program.
-/
import Derived.Test.YtmigbcadldkmfaaQs
namespace Go.Proofs.Ytmigbcadldkmfaa
open Go.RowKit

/-- The end of a call with a category that reads and a code for results. -/
def MkV (w : World) (r : Cat × Int) : Ending → World → Prop := fun e w' => ∃ u, e = .returned (.tuple #[u, .int .i64 r.2]) ∧ VC w.heap.size w'.heap.size w' u r.1 ∧ Below w.heap.size w w'
theorem OwnC.view {B T : Nat} {w : World} {v : Value} {c : Cat} (h : OwnC B T w v c) : VC B T w v c := by
  refine ⟨fun W hW => ?_, h.top⟩
  have hk : ∀ W' : World, (∀ k, B ≤ k → k < T → W'.heap[k]? = w.heap[k]?) → IC W' v c := by
    intro W' hW'
    obtain ⟨⟨vf, vt, vi, vc, gf, tf, gt, tt, gi, ti, gc, tc, rfl, h1, h2, h3, h4, h5, h6⟩, hn, htop, hbt⟩ := h
    have key : ∀ {g x : Nat} {u : Value} {xs : List Int}, B ≤ g → x ≤ T → OwnT 2 g x w u xs → IS W' u xs := by
      intro g x u xs hg hx ho
      have hr := ho.own.row
      refine (Own.is (E := 2) (B := g) ⟨⟨hr.1, ?_⟩, ho.own.wf, ho.own.len⟩)
      rcases hr.2 with hn | ⟨k, cap, cur, hv, hBg, hh, rest⟩
      · exact .inl hn
      · have := ho.top k (by rw [hv]; rfl)
        exact .inr ⟨k, cap, cur, hv, hBg, (hW' k (by omega) (by omega)).trans hh, rest⟩
    refine ⟨⟨vf, vt, vi, vc, rfl, key h5.1 h5.2.1 h1, key h5.2.2.1 h5.2.2.2.1 h2, key h5.2.2.2.2.1 h5.2.2.2.2.2.1 h3, ?_⟩, hn⟩
    obtain ⟨V, k1, k2, k3, k4, k5⟩ := h4.of
    have hl := h4.len
    refine iss_rows (B := gc) (E := 22) (U := V) ⟨k1.1, ?_⟩ (fun j hj => key h5.2.2.2.2.2.2.1 h5.2.2.2.2.2.2.2 (k3 j hj)) rfl (by omega)
    rcases k1.2 with hn | ⟨k, cap, cur, hv, hBg, hh, rest⟩
    · exact .inl hn
    · have := k2 k (by rw [hv]; rfl)
      have := h5.2.2.2.2.2.2
      exact .inr ⟨k, cap, cur, hv, hBg, (hW' k (by omega) (by omega)).trans hh, rest⟩
  exact hk W hW
theorem mkV_nil5 {w W : World} {b : Nat} {T : TypeId} {r : Cat × Int} {code : Int} (hR : RS w b T W) (hr : r = (nilC, code)) :
    MkV w r (.returned (.tuple #[.agg #[.int .i64 0, .slice none 0 0, .slice none 0 0, .slice none 0 0, .slice none 0 0], .int .i64 code])) (set5 W b (.int .i64 0) (.slice none 0 0) (.slice none 0 0) (.slice none 0 0) (.slice none 0 0)) := by
  obtain ⟨u, h1, h2, h3⟩ := mkC_nil5 hR hr
  exact ⟨u, h1, h2.view, h3⟩
theorem mkV_put {w W : World} {b B T' : Nat} {T : TypeId} (hR : RS w b T W) {c : Cat} (code : Int) {x0 x1 x2 x3 x4 : Value} (ho : VC B T' W (.agg #[x0, x1, x2, x3, x4]) c) (hb : b < B) :
    MkV w (c, code) (.returned (.tuple #[.agg #[x0, x1, x2, x3, x4], .int .i64 code])) (set5 W b x0 x1 x2 x3 x4) := by
  have hs := set5_size W b x0 x1 x2 x3 x4
  have hb2 := hR.2.1
  have hk := ho.kept (set5_within W b x0 x1 x2 x3 x4) (.inr (by omega))
  exact ⟨_, rfl, ⟨fun X hX => hk.view X fun k h1 h2 => hX k (by omega) (by have := ho.top; omega), Nat.le_refl _⟩, hR.five_bel _ _ _ _ _⟩
theorem VC.keptB {B T : Nat} {w w' : World} {v : Value} {c : Cat} (h : VC B T w v c) (hb : Below w.heap.size w w') : VC B T w' v c := h.kept (below_within hb w.heap.size) (.inl h.top)
theorem fits_pos {t : List (List Int)} (h8 : t.length ≤ 8) : fitsB (t.length : Int) (prs t).length = decide ((prs t).length ≤ 40) := by
  unfold fitsB
  rw [decide_eq_true (by omega : (t.length : Int) ≤ 8)]; simp
set_option maxHeartbeats 3200000 in
theorem s_PreorderCategory {w : World} {v : Value} {t : List (List Int)} (h : ISS w v t) : Calls Try.prog 12 #[v] w (MkV w (preR t)) := by
  have HP := Lib.hid (fun W (hW : Below w.heap.size w W) => c_l03Preorder (h.kept hW))
  have HQ := Lib.hid (fun W (hW : Below w.heap.size w W) hsq h8 => c_l03Poset (h.kept hW) hsq h8)
  have hlen := h.len
  obtain ⟨ao, b, o, c, R, rfl, -⟩ := h.ex
  clear h
  have B0 : RS w w.heap.size 25 (w.alloc (.cells #[.int .i64 0, .slice none 0 0, .slice none 0 0, .slice none 0 0, .slice none 0 0] 25)) := RS.start (x0 := .int .i64 0) (x1 := .slice none 0 0) (x2 := .slice none 0 0) (x3 := .slice none 0 0) (x4 := .slice none 0 0) 0
  have z0 : (w.alloc (.cells #[.int .i64 0, .slice none 0 0, .slice none 0 0, .slice none 0 0, .slice none 0 0] 25)).heap.size = w.heap.size + 1 := by simp
  have HB0 := Lib.hid B0
  have HZ0 := Lib.hid z0
  clear B0 z0
  by_cases hM : dB (Pre t) = true
  · have HMb := Lib.hid hM
    by_cases hl : t.length ≤ 8
    · have hlb : decide (8 < t.length) = false := by simp; omega
      have hlb2 : decide ((8 : Int) < (t.length : Int)) = false := decide_eq_false (by omega)
      have HPr := Lib.hid (dB_s hM)
      clear hM
      go_enter Try.func12, Try.ntmps12
      go_wp2_with fail
      refine (HP.out _ HB0.out.bel).mono ?_
      rintro e w' ⟨rfl, n1, rfl⟩
      rw [HMb.out]
      have B1 := HB0.out.drawn (w'' := (w.alloc (.cells #[.int .i64 0, .slice none 0 0, .slice none 0 0, .slice none 0 0, .slice none 0 0] 25)).drewN n1) ⟨_, rfl⟩
      have z1 : ((w.alloc (.cells #[.int .i64 0, .slice none 0 0, .slice none 0 0, .slice none 0 0, .slice none 0 0] 25)).drewN n1).heap.size = w.heap.size + 1 := by simp
      generalize (w.alloc (.cells #[.int .i64 0, .slice none 0 0, .slice none 0 0, .slice none 0 0, .slice none 0 0] 25)).drewN n1 = W0 at *
      go_wp2_with fail
      refine (HQ.out _ B1.bel HPr.out.sq hl).mono ?_
      rintro e w2 ⟨u, rfl, ⟨aF, kF, aT, nT, kT, aI, nI, kI, aC, nC, kC, rfl, hV⟩, b2⟩
      have B2 := B1.call b2
      clear b2
      by_cases h40 : (prs t).length ≤ 40
      · have hff : fitsB (t.length : Int) (prs t).length = true := by rw [fits_pos hl]; simpa using h40
        have hr := preR_0 HMb.out hl h40
        have hp32 : (prs t).length ≤ 4294967296 := by omega
        generalize (prs t).length = m at *
        go_wp2_with fail
        refine (c_l03Made_yes hp32 hff).mono ?_
        rintro e w3 ⟨rfl, b3⟩
        have B3 := B2.call b3
        have hV3 := hV.keptB b3
        obtain ⟨-, x0, x1, x2, x3, x4, f0, f1, f2, f3, f4⟩ := B3.all
        clear b3 hV
        go_wp2_with fail
        refine bodyPost_ret (results_cell_row2 rfl _ _ w.heap.size 25 #[_, _, _, _, _] (0, 0) _ (by rfl) (RS.five (w := w) B3 _ _ _ _ _) Try.underlying25 rfl (by kernel_rfl)) rfl ?_
        rw [hr]
        exact mkV_put B3 0 hV3 (by omega)
      · have hff : fitsB (t.length : Int) (prs t).length = false := by rw [fits_pos hl]; simpa using h40
        have hr := preR_3 HMb.out hl h40
        have hp32 : (prs t).length ≤ 4294967296 := by
          have h1 := prTo_len t t.length
          have h3 : t.length * t.length ≤ 8 * 8 := Nat.mul_le_mul hl hl
          unfold prs; omega
        generalize (prs t).length = m at *
        go_wp2_with fail
        refine (c_l03Made_no hp32 hff).mono ?_
        rintro e w3 ⟨rfl, b3⟩
        have B3 := B2.call b3
        obtain ⟨-, x0, x1, x2, x3, x4, f0, f1, f2, f3, f4⟩ := B3.all
        clear b3 hV
        go_wp2_with fail
        refine bodyPost_ret (results_cell_row2 rfl _ _ w.heap.size 25 #[_, _, _, _, _] (0, 0) _ (by rfl) (RS.five (w := w) B3 _ _ _ _ _) Try.underlying25 rfl (by kernel_rfl)) rfl ?_
        exact mkV_nil5 B3 hr
    · have hlb : decide (8 < t.length) = true := by simp; omega
      have hlb2 : decide ((8 : Int) < (t.length : Int)) = true := decide_eq_true (by omega)
      have hr := preR_2 hM hl
      go_enter Try.func12, Try.ntmps12
      go_wp2_with fail
      refine (HP.out _ HB0.out.bel).mono ?_
      rintro e w' ⟨rfl, n1, rfl⟩
      rw [hM]
      have B1 := HB0.out.drawn (w'' := (w.alloc (.cells #[.int .i64 0, .slice none 0 0, .slice none 0 0, .slice none 0 0, .slice none 0 0] 25)).drewN n1) ⟨_, rfl⟩
      generalize (w.alloc (.cells #[.int .i64 0, .slice none 0 0, .slice none 0 0, .slice none 0 0, .slice none 0 0] 25)).drewN n1 = W0 at *
      obtain ⟨-, x0, x1, x2, x3, x4, f0, f1, f2, f3, f4⟩ := B1.all
      go_wp2_with fail
      refine bodyPost_ret (results_cell_row2 rfl _ _ w.heap.size 25 #[_, _, _, _, _] (0, 0) _ (by rfl) (RS.five (w := w) B1 _ _ _ _ _) Try.underlying25 rfl (by kernel_rfl)) rfl ?_
      exact mkV_nil5 B1 hr
  · have hr := preR_1 hM
    simp only [Bool.not_eq_true] at hM
    go_enter Try.func12, Try.ntmps12
    go_wp2_with fail
    refine (HP.out _ HB0.out.bel).mono ?_
    rintro e w' ⟨rfl, n1, rfl⟩
    rw [hM]
    have B1 := HB0.out.drawn (w'' := (w.alloc (.cells #[.int .i64 0, .slice none 0 0, .slice none 0 0, .slice none 0 0, .slice none 0 0] 25)).drewN n1) ⟨_, rfl⟩
    generalize (w.alloc (.cells #[.int .i64 0, .slice none 0 0, .slice none 0 0, .slice none 0 0, .slice none 0 0] 25)).drewN n1 = W0 at *
    obtain ⟨-, x0, x1, x2, x3, x4, f0, f1, f2, f3, f4⟩ := B1.all
    go_wp2_with fail
    refine bodyPost_ret (results_cell_row2 rfl _ _ w.heap.size 25 #[_, _, _, _, _] (0, 0) _ (by rfl) (RS.five (w := w) B1 _ _ _ _ _) Try.underlying25 rfl (by kernel_rfl)) rfl ?_
    exact mkV_nil5 B1 hr
end Go.Proofs.Ytmigbcadldkmfaa
