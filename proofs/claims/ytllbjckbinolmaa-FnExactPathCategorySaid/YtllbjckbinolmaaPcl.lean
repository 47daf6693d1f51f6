/-
  PathCategory: the function values of the table.
-/
import Derived.Test.YtllbjckbinolmaaPl
import Derived.Shelf.SlicesQ.IndexFunc
namespace Go.Proofs.Ytllbjckbinolmaa
open Go.RowKit

theorem c_sameR {w : World} {u v : Value} {xs ys : List Int} (h : IS w u xs) (h' : IS w v ys) : Calls Try.prog 26 #[u, v] w (Rd w (.bool (decide (xs = ys)))) := by
  have hc := c_compare h h'
  obtain ⟨ao, bb, oo, cc, rfl, -⟩ := h.ex
  obtain ⟨ao2, bb2, oo2, cc2, rfl, -⟩ := h'.ex
  clear h h'
  have hz : (cmpL xs ys == 0) = decide (xs = ys) := by
    by_cases e : xs = ys
    · rw [decide_eq_true e, (cmpL_zero xs ys).2 e]; rfl
    · rw [decide_eq_false e]; simp [cmpL_zero, e]
  obtain ⟨c, hcc⟩ : ∃ c, c = cmpL xs ys := ⟨_, rfl⟩
  rw [← hcc] at hc hz
  obtain ⟨d, hd⟩ : ∃ d, d = decide (xs = ys) := ⟨_, rfl⟩
  rw [← hd] at hz ⊢
  have HZ := Lib.hid hz
  have HCC := Lib.hid hc
  clear hcc hd hz hc
  go_enter Try.func26, Try.ntmps26
  go_wp2_with (go_at_call 37; refine HCC.out.mono ?_; rintro e w' ⟨rfl, b⟩)
  rw [HZ.out]
  go_ret
  exact ⟨rfl, b⟩
set_option maxHeartbeats 1600000 in
theorem c_clo2 {W : World} {x : Rt} {u ve : Value} {both : List Int} {g N c p fb gb eb f h : Nat} {A Z : Int} (hx : IS W u x.path) (he : IS W ve both) (hf : f < N) (hh : h < N) (hN : N ≤ 40)
    (cp : W.cell? ⟨p, 0, none⟩ = some (.slice (some ⟨g, 0, none⟩) N c)) (cf : W.cell? ⟨fb, 0, none⟩ = some (.int .i64 (f : Int))) (cg : W.cell? ⟨gb, 0, none⟩ = some (.int .i64 (h : Int))) (ce : W.cell? ⟨eb, 0, none⟩ = some ve)
    (ca : W.cell? ⟨g, f * 3, none⟩ = some (.int .i64 A)) (cz : W.cell? ⟨g, h * 3 + 1, none⟩ = some (.int .i64 Z)) :
    Calls Try.prog 25 #[.agg #[.int .i64 x.a, .int .i64 x.b, u], .pointer (some ⟨p, 0, none⟩), .pointer (some ⟨fb, 0, none⟩), .pointer (some ⟨gb, 0, none⟩), .pointer (some ⟨eb, 0, none⟩)] W
      (fun e w' => e = .returned (.bool (decide (x.a = A ∧ x.b = Z) && decide (x.path = both))) ∧ Below W.heap.size W w') := by
  have bb := bel_box W (.cells #[.int .i64 x.a, .int .i64 x.b, u] 45)
  have hc := fun W' (hW : Below W.heap.size W W') => c_sameR (hx.kept hW) (he.kept hW)
  obtain ⟨au, bu, ou, cu, rfl, -⟩ := hx.ex
  obtain ⟨av, bv, ov, cv, rfl, -⟩ := he.ex
  have x0 : (W.alloc (.cells #[.int .i64 x.a, .int .i64 x.b, .slice au x.path.length cu] 45)).cell? ⟨W.heap.size, 0, none⟩ = some (.int .i64 x.a) := by simp
  have x1 : (W.alloc (.cells #[.int .i64 x.a, .int .i64 x.b, .slice au x.path.length cu] 45)).cell? ⟨W.heap.size, 1, none⟩ = some (.int .i64 x.b) := by simp
  have x2 : (W.alloc (.cells #[.int .i64 x.a, .int .i64 x.b, .slice au x.path.length cu] 45)).cell? ⟨W.heap.size, 2, none⟩ = some (.slice au x.path.length cu) := by simp
  replace cp := upc bb cp
  replace cf := upc bb cf
  replace cg := upc bb cg
  replace ce := upc bb ce
  replace ca := upc bb ca
  replace cz := upc bb cz
  obtain ⟨d, hd⟩ : ∃ d, d = decide (x.path = both) := ⟨_, rfl⟩
  rw [← hd] at hc ⊢
  have HC := Lib.hid hc
  have BB := Lib.hid bb
  have i1 : (f : Int) < (N : Int) := by omega
  have i2 : (h : Int) < (N : Int) := by omega
  have i3 : (0 : Int) ≤ (f : Int) := by omega
  have i4 : (0 : Int) ≤ (h : Int) := by omega
  clear hx he hc hd bb
  by_cases e : x.a = A ∧ x.b = Z
  · obtain ⟨e1, e2⟩ := e
    subst e1
    subst e2
    go_enter Try.func25, Try.ntmps25
    go_wp2_with fail
    generalize W.alloc (.cells #[.int .i64 x.a, .int .i64 x.b, .slice au x.path.length cu] 45) = W1 at *
    go_quiet (first | (go_at_call 26; exact Calls.quiet_of (calls_q (HC.out _ (BB.out.trans (Drawn.below ⟨_, rfl⟩ _))))))
    go_wp2_with fail
    go_ret
    exact ⟨by simp, BB.out.trans (Drawn.below ⟨_, rfl⟩ _)⟩
  · have hv : (decide (x.a = A ∧ x.b = Z) && d) = false := by rw [decide_eq_false e]; rfl
    rw [hv]
    clear hv HC
    by_cases e1 : x.a = A
    · subst e1
      have e2 : ¬ x.b = Z := fun q => e ⟨rfl, q⟩
      have e3 : (x.b == Z) = false := by simp [e2]
      clear e
      go_enter Try.func25, Try.ntmps25
      go_wp2_with fail
      generalize W.alloc (.cells #[.int .i64 x.a, .int .i64 x.b, .slice au x.path.length cu] 45) = W1 at *
      go_quiet (fail)
      go_wp2_with fail
      go_ret
      exact ⟨rfl, BB.out.trans (Drawn.below ⟨_, rfl⟩ _)⟩
    · have e3 : (x.a == A) = false := by simp [e1]
      clear e
      go_enter Try.func25, Try.ntmps25
      go_wp2_with fail
      generalize W.alloc (.cells #[.int .i64 x.a, .int .i64 x.b, .slice au x.path.length cu] 45) = W1 at *
      go_quiet (fail)
      go_wp2_with fail
      go_ret
      exact ⟨rfl, BB.out.trans (Drawn.below ⟨_, rfl⟩ _)⟩
end Go.Proofs.Ytllbjckbinolmaa
