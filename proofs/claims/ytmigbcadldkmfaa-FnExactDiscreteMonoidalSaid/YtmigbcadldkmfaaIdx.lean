/-
  The place of a pair in a list of pairs: slices.Index, index, and the composite of a preorder's category.
-/
import Derived.Test.YtmigbcadldkmfaaTable
import Derived.Test.YtmigbcadldkmfaaPos
namespace Go.Proofs.Ytmigbcadldkmfaa
open Go.RowKit

/-- v reads as a list of pairs. -/
def IPS (w : World) (v : Value) (P : List (Int × Int)) : Prop :=
  ∃ (ao : Option Addr) (b o c : Nat), v = .slice ao P.length c ∧ (0 < P.length → ao = some ⟨b, o, none⟩) ∧ ∀ i, i < P.length → w.cell? ⟨b, o + i * 2, none⟩ = some (.int .i64 (gp P i).1) ∧ w.cell? ⟨b, o + i * 2 + 1, none⟩ = some (.int .i64 (gp P i).2)
theorem IPS.kept {w w' : World} {v : Value} {P : List (Int × Int)} (h : IPS w v P) (hb : Below w.heap.size w w') : IPS w' v P := by
  obtain ⟨ao, b, o, c, rfl, ha, hc⟩ := h
  exact ⟨ao, b, o, c, rfl, ha, fun i hi => ⟨upc hb (hc i hi).1, upc hb (hc i hi).2⟩⟩
theorem flP_get : ∀ (P : List (Int × Int)) {i : Nat}, i < P.length → (flP P)[i * 2]? = some (.int .i64 (gp P i).1) ∧ (flP P)[i * 2 + 1]? = some (.int .i64 (gp P i).2)
  | [], i, h => by simp at h
  | x :: P, 0, _ => by simp [flP, gp]
  | x :: P, i + 1, h => by
    have := flP_get P (i := i) (by simpa using h)
    have e : gp (x :: P) (i + 1) = gp P i := by simp [gp]
    rw [e]
    have e2 : flP (x :: P) = .int .i64 x.1 :: .int .i64 x.2 :: flP P := rfl
    rw [e2, show (i + 1) * 2 = i * 2 + 2 by omega]
    exact this
theorem OwnP.is {E : TypeId} {w : World} {B : Nat} {v : Value} {P : List (Int × Int)} (h : OwnP E w B v P) : IPS w v P := by
  have h0 := h
  rcases h.2 with ⟨rfl, hn⟩ | ⟨g, cap, cur, rfl, hB, hg, hn, hc, hs, ht⟩
  · exact ⟨none, 0, 0, 0, by rw [hn], fun h => by omega, fun i hi => by omega⟩
  · refine ⟨some ⟨g, 0, none⟩, g, 0, cap, rfl, fun _ => rfl, fun i hi => ?_⟩
    have h1 := flP_get P hi
    have hl := flP_length P
    have e1 := World.ownsRow.cellAt h0 (i * 2) (by omega)
    have e2 := World.ownsRow.cellAt h0 (i * 2 + 1) (by omega)
    rw [Nat.zero_add]
    exact ⟨e1.trans h1.1, e2.trans h1.2⟩
set_option maxHeartbeats 800000 in
theorem c_slicesIndex {w : World} {v : Value} {P : List (Int × Int)} (h : IPS w v P) (hl : P.length ≤ 4294967296) (x y : Int) : Calls Try.prog 46 #[v, .agg #[.int .i64 x, .int .i64 y]] w (Ret w (.int .i64 (idxP P (x, y)))) := by
  obtain ⟨ao, b, o, c, rfl, ha, hc⟩ := h
  have x0 : (w.alloc (.cells #[.int .i64 x, .int .i64 y] 51)).cell? ⟨w.heap.size, 0, none⟩ = some (.int .i64 x) := by simp
  have x1 : (w.alloc (.cells #[.int .i64 x, .int .i64 y] 51)).cell? ⟨w.heap.size, 1, none⟩ = some (.int .i64 y) := by simp
  have bb := bel_box w (.cells #[.int .i64 x, .int .i64 y] 51)
  have X0 := Lib.hid x0
  have X1 := Lib.hid x1
  have BB := Lib.hid bb
  have HC := Lib.hid (fun i hi => And.intro (upc bb (hc i hi).1) (upc bb (hc i hi).2))
  clear hc x0 x1 bb
  go_enter Try.func46, Try.ntmps46
  go_wp2_with fail
  generalize w.alloc (.cells #[.int .i64 x, .int .i64 y] 51) = W1 at *
  go_loopw [5, 8] (fun _ i wr => ∃ k m : Nat, k ≤ P.length ∧ i = .int .i64 k ∧ wr = W1.drewN m ∧ Hid (∀ j, j < k → gp P j ≠ (x, y))) (fun _ i _ => P.length - (intOf i).toNat)
  case atStart => exact ⟨0, 0, Nat.zero_le _, rfl, rfl, fun j hj => by omega⟩
  case round =>
    obtain ⟨k, m, hk, rfl, rfl, hp⟩ := hrel
    by_cases hlt : k < P.length
    · obtain rfl := ha (by omega)
      have cx := (HC.out k hlt).1
      have cy := (HC.out k hlt).2
      have x0 := X0.out
      have x1 := X1.out
      generalize h1 : (gp P k).1 = p1 at *
      generalize h2 : (gp P k).2 = p2 at *
      have H1 := Lib.hid h1
      have H2 := Lib.hid h2
      clear h1 h2
      by_cases e1 : x = p1
      · have e1b : (x == p1) = true := by simp [e1]
        have E1 := Lib.hid e1
        clear e1
        by_cases e2 : y = p2
        · have e2b : (y == p2) = true := by simp [e2]
          have E2 := Lib.hid e2
          clear e2
          go_wp2_with fail
          go_quiet (fail)
          go_wp2_with fail
          go_ret
          exact ⟨ret_i (idxP_first hlt (Prod.ext (H1.out.trans E1.out.symm) (H2.out.trans E2.out.symm)) hp.out), BB.out.trans (Drawn.below (by repeat (first | exact Drawn.refl _ | refine Drawn.step ?_ _ | refine Drawn.one ?_)) _)⟩
        · have e2b : (y == p2) = false := by simp [e2]
          have E2 := Lib.hid e2
          clear e2
          go_wp2_with fail
          go_quiet (fail)
          go_wp2_with fail
          go_roundw
          case rel => exact ⟨k + 1, _, by omega, by go_num, rfl, fun j hj => by
            by_cases e : j = k
            · subst e; intro q; rw [q] at H2; exact E2.out H2.out
            · exact hp.out j (by omega)⟩
          case measure => simp [intOf]; omega
      · have e1b : (x == p1) = false := by simp [e1]
        have E1 := Lib.hid e1
        clear e1
        go_wp2_with fail
        go_quiet (fail)
        go_wp2_with fail
        go_roundw
        case rel => exact ⟨k + 1, _, by omega, by go_num, rfl, fun j hj => by
          by_cases e : j = k
          · subst e; intro q; rw [q] at H1; exact E1.out H1.out
          · exact hp.out j (by omega)⟩
        case measure => simp [intOf]; omega
    · have hk' : P.length = k := by omega
      subst hk'
      go_wp2_with fail
      go_ret
      exact ⟨ret_i (idxP_none hp.out), BB.out.trans (Drawn.below (by repeat (first | exact Drawn.refl _ | refine Drawn.step ?_ _ | refine Drawn.one ?_)) _)⟩
theorem c_index {w : World} {v : Value} {P : List (Int × Int)} (h : IPS w v P) (hl : P.length ≤ 4294967296) (x y : Int) : Calls Try.prog 37 #[v, .agg #[.int .i64 x, .int .i64 y]] w (Ret w (.int .i64 (idxP P (x, y)))) := by
  have x0 : (w.alloc (.cells #[.int .i64 x, .int .i64 y] 51)).cell? ⟨w.heap.size, 0, none⟩ = some (.int .i64 x) := by simp
  have x1 : (w.alloc (.cells #[.int .i64 x, .int .i64 y] 51)).cell? ⟨w.heap.size, 1, none⟩ = some (.int .i64 y) := by simp
  have bb := bel_box w (.cells #[.int .i64 x, .int .i64 y] 51)
  have HI := Lib.hid (c_slicesIndex (h.kept bb) hl x y)
  have BB := Lib.hid bb
  obtain ⟨ao, b, o, c, rfl, -, -⟩ := h
  clear bb
  go_enter Try.func37, Try.ntmps37
  go_wp2_with fail
  generalize w.alloc (.cells #[.int .i64 x, .int .i64 y] 51) = W1 at *
  refine HI.out.mono ?_
  rintro e w2 ⟨rfl, b2⟩
  go_wp2_with fail
  go_ret
  exact ⟨rfl, bel_next BB.out b2⟩
/-- The composite that a preorder's category takes: the place of the pair. -/
theorem c_preClo {w : World} {p b bF oF kF bT oT kT m f g : Nat} {F T : List Int} {vp : Value} {P : List (Int × Int)} (hp : w.cell? ⟨p, 0, none⟩ = some vp) (hP : IPS w vp P) (hl : P.length ≤ 4294967296)
    (c1 : w.cell? ⟨b, 1, none⟩ = some (.slice (some ⟨bF, oF, none⟩) m kF)) (c2 : w.cell? ⟨b, 2, none⟩ = some (.slice (some ⟨bT, oT, none⟩) m kT))
    (hF : w.cell? ⟨bF, oF + f, none⟩ = some (.int .i64 (gi F f))) (hT : w.cell? ⟨bT, oT + g, none⟩ = some (.int .i64 (gi T g))) (hf : f < m) (hg : g < m) (hm : m ≤ 72) :
    Calls Try.prog 36 #[.int .i64 (f : Int), .int .i64 (g : Int), .pointer (some ⟨p, 0, none⟩), .pointer (some ⟨b, 0, none⟩)] w (Ret w (.int .i64 (idxP P (gi F f, gi T g)))) := by
  have HI := Lib.hid (fun W (hW : Below w.heap.size w W) => c_index (hP.kept hW) hl (gi F f) (gi T g))
  obtain ⟨ao, b', o', c', rfl, -, -⟩ := hP
  have q1 : (f : Int) < (m : Int) := by omega
  have q2 : (g : Int) < (m : Int) := by omega
  have q3 : (0 : Int) ≤ (f : Int) := by omega
  have q4 : (0 : Int) ≤ (g : Int) := by omega
  go_enter Try.func36, Try.ntmps36
  go_wp2_with fail
  go_region_held3 (fun w' => Below w.heap.size w w' ∧ w'.cell? ⟨p, 0, none⟩ = some (.slice ao P.length c') ∧ w'.cell? ⟨b, 1, none⟩ = some (.slice (some ⟨bF, oF, none⟩) m kF) ∧ w'.cell? ⟨b, 2, none⟩ = some (.slice (some ⟨bT, oT, none⟩) m kT) ∧ w'.cell? ⟨bF, oF + f, none⟩ = some (.int .i64 (gi F f)) ∧ w'.cell? ⟨bT, oT + g, none⟩ = some (.int .i64 (gi T g)))
    (first | exact ⟨(Drawn.one (Drawn.refl _)).bel0, hp, c1, c2, hF, hT⟩ | (refine keep5 ?_ hb7; assumption))
    (first | (go_at_call 37; (with_reducible refine (HI.out _ (And.left (by assumption))).mono ?_); rintro e wq ⟨rfl, hb7⟩))
  obtain ⟨hbl, -⟩ := ‹Below w.heap.size w wq ∧ _›
  clear hb7 hp c1 c2 hF hT
  go_wp2_with fail
  go_ret
  exact ⟨rfl, hbl⟩
end Go.Proofs.Ytmigbcadldkmfaa
