/-
  PathCategory: l03All of the reference.
-/
import Derived.Test.YtllbjckbinolmaaRtw
import Derived.Test.YtllbjckbinolmaaQb
namespace Go.Proofs.Ytllbjckbinolmaa
open Go.RowKit

set_option maxHeartbeats 1600000 in
theorem c_l03Before {W : World} {x y : Rt} {u v : Value} (hu : IS W u x.path) (hv : IS W v y.path) : Calls Try.prog 39 #[.agg #[.int .i64 x.a, .int .i64 x.b, u], .agg #[.int .i64 y.a, .int .i64 y.b, v]] W (Ret W (.bool (ltR x y))) := by
  have hc := fun W' (h : Below W.heap.size W W') => c_l01Less (hu.kept h) (hv.kept h)
  obtain ⟨au, bu, ou, cu, rfl, -⟩ := hu.ex
  obtain ⟨av, bv, ov, cv, rfl, -⟩ := hv.ex
  clear hu hv
  obtain ⟨r, hr⟩ : ∃ r, r = ltR x y := ⟨_, rfl⟩
  rw [← hr]
  unfold ltR at hr
  obtain ⟨z, hz⟩ : ∃ z, z = lessL x.path y.path := ⟨_, rfl⟩
  rw [← hz] at hc hr
  clear hz
  obtain ⟨a, b, p⟩ := x
  obtain ⟨c, d, q⟩ := y
  simp only at *
  have hb := bel_next (bel_box W (.cells #[.int .i64 a, .int .i64 b, .slice au p.length cu] 56)) (bel_box (W.alloc (.cells #[.int .i64 a, .int .i64 b, .slice au p.length cu] 56)) (.cells #[.int .i64 c, .int .i64 d, .slice av q.length cv] 56))
  have HB := Lib.hid hb
  have HR := Lib.hid hr
  have HC := Lib.hid hc
  clear hr hc hb
  by_cases e1 : a = c
  · subst e1
    have d1 : (a != a) = false := by simp
    by_cases e2 : b = d
    · subst e2
      have HV : Hid (r = z) := by unfold Hid; rw [HR.out]; simp
      have d2 : (b != b) = false := by simp
      go_enter Try.func39, Try.ntmps39
      go_wp2_with (go_at_call 42; refine (HC.out _ HB.out).mono ?_; rintro e w' ⟨rfl, dd⟩)
      go_ret
      exact ⟨by rw [HV.out]; rfl, bel_next HB.out dd⟩
    · have d2 : (b != d) = true := by simp [e2]
      have HV : Hid (r = decide (b < d)) := by unfold Hid; rw [HR.out]; simp [e2]
      clear e2 HC HR
      go_enter Try.func39, Try.ntmps39
      go_wp2_with fail
      go_ret
      exact ⟨by rw [HV.out]; rfl, HB.out⟩
  · have d1 : (a != c) = true := by simp [e1]
    have HV : Hid (r = decide (a < c)) := by unfold Hid; rw [HR.out]; simp [e1]
    clear e1 HC HR
    go_enter Try.func39, Try.ntmps39
    go_wp2_with fail
    go_ret
    exact ⟨by rw [HV.out]; rfl, HB.out⟩
theorem ownsRow_setC {B N g j c n sz : Nat} {E : TypeId} {w : World} {xs : List Value} (h : w.ownsRow B E sz (.slice (some ⟨g, 0, none⟩) N c) n xs) (u : Value) (hj : j < n * sz) : (w.setCell ⟨g, j, none⟩ u).ownsRow B E sz (.slice (some ⟨g, 0, none⟩) N c) n (xs.set j u) := by
  refine ⟨by rw [List.length_set]; exact h.1, ?_⟩
  rcases h.2 with ⟨e, -⟩ | ⟨g', cap, cur, e, hBg, hg, hnc, hcm, hcs, htk⟩
  · cases e
  · have e0 := e
    injection e with e e1 e2
    injection e with e
    injection e with e _ _
    subst e
    refine .inr ⟨g, cap, cur.setIfInBounds j u, e0, hBg, ?_, hnc, hcm, by simpa using hcs, ?_⟩
    · simp [World.setCell, Array.getElem?_modify, hg]
    · rw [Array.toList_setIfInBounds, List.take_set, htk]
theorem cX_set : ∀ (X : List RV) (i : Nat) (x : RV), i < X.length → cX (X.set i x) = (((cX X).set (i * 3) (.int .i64 x.1.a)).set (i * 3 + 1) (.int .i64 x.1.b)).set (i * 3 + 2) x.2
  | [], i, x, h => by simp at h
  | y :: X, 0, x, _ => by simp [cX, c3]
  | y :: X, i + 1, x, h => by
    have := cX_set X i x (by simpa using h)
    have e2 : cX (y :: X) = .int .i64 y.1.a :: .int .i64 y.1.b :: y.2 :: cX X := rfl
    have e3 : cX ((y :: X).set (i + 1) x) = .int .i64 y.1.a :: .int .i64 y.1.b :: y.2 :: cX (X.set i x) := rfl
    rw [e2, e3, this, show (i + 1) * 3 = i * 3 + 3 by omega]
    rfl
theorem ORt.put {E : TypeId} {B T g c i N : Nat} {w : World} {X : List RV} {x : RV} (h : ORt E B T w (.slice (some ⟨g, 0, none⟩) N c) X) (hE : 2 ≠ E) (hi : i < X.length) (hx : x ∈ X) :
    ORt E B T (((w.setCell ⟨g, i * 3, none⟩ (.int .i64 x.1.a)).setCell ⟨g, i * 3 + 1, none⟩ (.int .i64 x.1.b)).setCell ⟨g, i * 3 + 2, none⟩ x.2) (.slice (some ⟨g, 0, none⟩) N c) (X.set i x) := by
  have hm : ∀ y ∈ X.set i x, y ∈ X := fun y hy => by
    rcases List.mem_or_eq_of_mem_set hy with hy | rfl
    · exact hy
    · exact hx
  have hw : Within g (g + 1) w (((w.setCell ⟨g, i * 3, none⟩ (.int .i64 x.1.a)).setCell ⟨g, i * 3 + 1, none⟩ (.int .i64 x.1.b)).setCell ⟨g, i * 3 + 2, none⟩ x.2) :=
    (((Within.refl _ _ _).setCell (p := ⟨g, i * 3, none⟩) (Nat.le_refl _) (Nat.lt_succ_self _) _).setCell (p := ⟨g, i * 3 + 1, none⟩) (Nat.le_refl _) (Nat.lt_succ_self _) _).setCell (p := ⟨g, i * 3 + 2, none⟩) (Nat.le_refl _) (Nat.lt_succ_self _) _
  refine ⟨?_, h.top, fun y hy => (h.ags y (hm y hy)).apart hw (fun k hk => ?_), fun y hy => h.wf y (hm y hy), h.nn⟩
  · rw [cX_set X i x hi, List.length_set]
    exact ownsRow_setC (ownsRow_setC (ownsRow_setC h.row _ (by omega)) _ (by omega)) _ (by omega)
  · rcases dj_types3 hE (h.ags y (hm y hy)).own h.row with e | e
    · rw [e] at hk; cases hk
    · rw [hk] at e
      have : k ≠ g := fun q => e (by rw [q]; rfl)
      omega
end Go.Proofs.Ytllbjckbinolmaa
