/-
  Chapters 2 and 5: CompositeOf, IsIdempotent, HomSet, IsGroupoid, IdempotentArrows, PathComposite: program and reference.
-/
import Derived.Test.YtkmkbmhpdnddnaaCat5
import Derived.Test.YtkmkbmhpdnddnaaApp
namespace Go.Proofs.Ytkmkbmhpdnddnaa
open Go.RowKit

theorem IS.lit1v (w : World) {a : Int} (ha : I64 a) (E : TypeId) : IS (w.alloc (.cells #[.int .i64 a] E)) (.slice (some ⟨w.heap.size, 0, none⟩) 1 1) [a] := by
  refine ⟨⟨some ⟨w.heap.size, 0, none⟩, w.heap.size, 0, 1, rfl, fun _ => rfl, fun i hi => ?_⟩, ?_, by simp⟩
  · obtain rfl : i = 0 := by simp at hi; omega
    simp [gi]
  · intro x hx
    simp at hx
    subst hx; exact ha
theorem IS.lit2v (w : World) {a b : Int} (ha : I64 a) (hb : I64 b) (E : TypeId) : IS (w.alloc (.cells #[.int .i64 a, .int .i64 b] E)) (.slice (some ⟨w.heap.size, 0, none⟩) 2 2) [a, b] := by
  refine ⟨⟨some ⟨w.heap.size, 0, none⟩, w.heap.size, 0, 2, rfl, fun _ => rfl, fun i hi => ?_⟩, ?_, by simp⟩
  · have : i = 0 ∨ i = 1 := by simp at hi; omega
    rcases this with rfl | rfl <;> simp [gi]
  · intro x hx
    simp at hx
    rcases hx with rfl | rfl
    · exact ha
    · exact hb
theorem IS.lit1v' {w : World} {a : Int} {n : Nat} (ha : I64 a) (E : TypeId) (hn : w.heap.size = n) : IS (w.alloc (.cells #[.int .i64 a] E)) (.slice (some ⟨n, 0, none⟩) 1 1) [a] := by
  subst hn; exact IS.lit1v w ha E
theorem IS.lit2v' {w : World} {a b : Int} {n : Nat} (ha : I64 a) (hb : I64 b) (E : TypeId) (hn : w.heap.size = n) : IS (w.alloc (.cells #[.int .i64 a, .int .i64 b] E)) (.slice (some ⟨n, 0, none⟩) 2 2) [a, b] := by
  subst hn; exact IS.lit2v w ha hb E
theorem codeA_zero {c : Cat} {xs : List Int} (h : codeA c xs = 0) : catB c = true ∧ allIn c.m xs = true := by
  unfold codeA at h
  split at h
  · rename_i h1
    split at h
    · rename_i h2; exact ⟨h1, h2⟩
    · cases h
  · cases h
theorem codeO_zero {c : Cat} {xs : List Int} (h : codeO c xs = 0) : catB c = true ∧ allIn c.n xs = true := by
  unfold codeO at h
  split at h
  · rename_i h1
    split at h
    · rename_i h2; exact ⟨h1, h2⟩
    · cases h
  · cases h
theorem codeA_one {c : Cat} {f : Int} (h : codeA c [f] = 0) : CatOk c ∧ c.Arr f := by
  obtain ⟨h1, h2⟩ := codeA_zero h
  simp [allIn] at h2
  exact ⟨catB_s h1, h2⟩
theorem codeA_two {c : Cat} {f g : Int} (h : codeA c [f, g] = 0) : CatOk c ∧ c.Arr f ∧ c.Arr g := by
  obtain ⟨h1, h2⟩ := codeA_zero h
  simp [allIn] at h2
  exact ⟨catB_s h1, h2.1, h2.2⟩
theorem codeO_two {c : Cat} {f g : Int} (h : codeO c [f, g] = 0) : CatOk c ∧ c.Obj f ∧ c.Obj g := by
  obtain ⟨h1, h2⟩ := codeO_zero h
  simp [allIn] at h2
  exact ⟨catB_s h1, h2.1, h2.2⟩
theorem codeO_1 {c : Cat} {f : Int} (h : codeO c [f] = 0) : CatOk c ∧ c.Obj f := by
  obtain ⟨h1, h2⟩ := codeO_zero h
  simp [allIn] at h2
  exact ⟨catB_s h1, h2⟩
theorem ret_ii {r : Int × Int} {a b : Int} (h : r = (a, b)) : Ending.returned (.tuple #[.int .i64 a, .int .i64 b]) = .returned (.tuple #[.int .i64 r.1, .int .i64 r.2]) := by rw [h]
theorem ret_bi {r : Bool × Int} {a : Bool} {b : Int} (h : r = (a, b)) : Ending.returned (.tuple #[.bool a, .int .i64 b]) = .returned (.tuple #[.bool r.1, .int .i64 r.2]) := by rw [h]
theorem ne_neg {c : Cat} (S : Shape c) {f g : Int} (hf : c.Arr f) (hg : c.Arr g) : c.M f g < 0 ↔ ¬ c.T f = c.F g := by
  constructor
  · intro h e
    have := (S.mA f g hf hg e).1.1
    omega
  · intro h
    rw [S.mN f g hf hg h]; decide
theorem c_l02Then {w : World} {v : Value} {c : Cat} (h : IC w v c) (S : Shape c) {f g : Int} (hf : c.Arr f) (hg : c.Arr g) : Calls Try.prog 104 #[v, .int .i64 f, .int .i64 g] w (Ret w (.int .i64 (c.M f g))) := by
  have f0 := hf.1
  have f1 : f < (c.fr.length : Int) := hf.2
  have g0 := hg.1
  have g1 : g < (c.fr.length : Int) := hg.2
  have f2 : f < (c.cm.length : Int) := by rw [S.cl]; exact f1
  obtain ⟨aF, aT, aI, aC, bF, oF, kF, bT, oT, kT, bI, oI, kI, bC, oC, kC, bR, oR, kR, rfl, V⟩ := h.boxed 29
  obtain ⟨rfl, rfl, rfl, rfl⟩ := V.som S (by omega)
  have c4 := V.c4
  have cR := V.row S hf
  have cM := V.cM S hf hg
  clear h
  go_enter Try.func104, Try.ntmps104
  go_wp2_with fail
  go_ret
  exact ⟨rfl, (bel_box _ _).trans (Drawn.below (by repeat (first | exact Drawn.refl _ | refine Drawn.step ?_ _ | refine Drawn.one ?_)) _)⟩
/-- What CompositeOf returns. -/
noncomputable def compR (c : Cat) (f g : Int) : Int × Int := if codeA c [f, g] = 0 then (if c.M f g < 0 then (0, 5) else (c.M f g, 0)) else (0, codeA c [f, g])
/-- What IsIdempotent returns. -/
noncomputable def idemR (c : Cat) (f : Int) : Bool × Int := if codeA c [f] = 0 then (c.M f f == f, 0) else (false, codeA c [f])
theorem allIn_one (n f : Int) : allIn n [f] = (decide (f ≥ 0) && decide (f < n)) := by
  unfold allIn
  by_cases a : 0 ≤ f <;> by_cases b : f < n <;> simp [a, b]
theorem c_l05Arrow {w : World} {v : Value} {c : Cat} (h : IC w v c) (f : Int) : Calls Try.prog 90 #[v, .int .i64 f] w (Ret w (.bool (allIn c.m [f]))) := by
  by_cases h0 : f ≥ 0 <;> by_cases h1 : f < (c.fr.length : Int)
  all_goals
    have HN : Hid (allIn c.m [f] = (decide (f ≥ 0) && decide (f < (c.fr.length : Int)))) := allIn_one _ _
    have b0 : decide (f ≥ 0) = decide (0 ≤ f) := rfl
    obtain ⟨aF, aT, aI, aC, bF, oF, kF, bT, oT, kT, bI, oI, kI, bC, oC, kC, bR, oR, kR, rfl, V⟩ := h.boxed 29
    have B : Bel w (w.alloc (.cells #[.int .i64 c.n, .slice aF c.fr.length kF, .slice aT c.to.length kT, .slice aI c.id.length kI, .slice aC c.cm.length kC] 29)) := bel_box w _
    have ZB := Lib.hid (show (w.alloc (.cells #[.int .i64 c.n, .slice aF c.fr.length kF, .slice aT c.to.length kT, .slice aI c.id.length kI, .slice aC c.cm.length kC] 29)).heap.size = w.heap.size + 1 from by simp)
    clear h
    go_enter Try.func90, Try.ntmps90
    go_wp2_with fail
    generalize w.alloc (.cells #[.int .i64 c.n, .slice aF c.fr.length kF, .slice aT c.to.length kT, .slice aI c.id.length kI, .slice aC c.cm.length kC] 29) = w1 at *
    generalize w.heap.size = b at *
    have c0 := V.c0
    have c1 := V.c1
    have c2 := V.c2
    have c3 := V.c3
    have c4 := V.c4
    go_wp2_with fail
    go_ret
    exact ⟨ret_b (by rw [HN.out]; simp [*]), B.drawn (by repeat (first | exact Drawn.refl _ | refine Drawn.step ?_ _ | refine Drawn.one ?_))⟩
theorem c_l05Code {w : World} {v : Value} {c : Cat} (h : IC w v c) (f : Int) : Calls Try.prog 54 #[v, .int .i64 f] w (Ret w (.int .i64 (codeA c [f]))) := by
  by_cases hc : catB c = true
  · by_cases ha : allIn c.m [f] = true
    all_goals
      first | have HC := Lib.hid (codeA_ok hc ha) | have HC := Lib.hid (codeA_bad hc (by simpa using ha))
      try simp only [Bool.not_eq_true] at ha
      obtain ⟨aF, aT, aI, aC, bF, oF, kF, bT, oT, kT, bI, oI, kI, bC, oC, kC, bR, oR, kR, rfl, V⟩ := h.boxed 29
      have B : Bel w (w.alloc (.cells #[.int .i64 c.n, .slice aF c.fr.length kF, .slice aT c.to.length kT, .slice aI c.id.length kI, .slice aC c.cm.length kC] 29)) := bel_box w _
      have ZB := Lib.hid (show (w.alloc (.cells #[.int .i64 c.n, .slice aF c.fr.length kF, .slice aT c.to.length kT, .slice aI c.id.length kI, .slice aC c.cm.length kC] 29)).heap.size = w.heap.size + 1 from by simp)
      clear h
      go_enter Try.func54, Try.ntmps54
      go_wp2_with fail
      generalize w.alloc (.cells #[.int .i64 c.n, .slice aF c.fr.length kF, .slice aT c.to.length kT, .slice aI c.id.length kI, .slice aC c.cm.length kC] 29) = w1 at *
      generalize w.heap.size = b at *
      have c0 := V.c0
      have c1 := V.c1
      have c2 := V.c2
      have c3 := V.c3
      have c4 := V.c4
      refine (c_l02Is V.ic).mono ?_
      rintro e w2 ⟨rfl, b2⟩
      have V2 := V.kept b2
      clear c0 c1 c2 c3 c4
      have c0 := V2.c0
      have c1 := V2.c1
      have c2 := V2.c2
      have c3 := V2.c3
      have c4 := V2.c4
      go_wp2_with fail
      refine (c_l05Arrow V2.ic f).mono ?_
      rintro e w3 ⟨rfl, b3⟩
      clear c0 c1 c2 c3 c4
      go_wp2_with fail
      go_ret
      exact ⟨ret_i HC.out, B.next (bel_next b2 b3)⟩
  · have hn : catB c = false := by simpa using hc
    have HC := Lib.hid (codeA_no (xs := [f]) hn)
    clear hc
    obtain ⟨aF, aT, aI, aC, bF, oF, kF, bT, oT, kT, bI, oI, kI, bC, oC, kC, bR, oR, kR, rfl, V⟩ := h.boxed 29
    have B : Bel w (w.alloc (.cells #[.int .i64 c.n, .slice aF c.fr.length kF, .slice aT c.to.length kT, .slice aI c.id.length kI, .slice aC c.cm.length kC] 29)) := bel_box w _
    have ZB := Lib.hid (show (w.alloc (.cells #[.int .i64 c.n, .slice aF c.fr.length kF, .slice aT c.to.length kT, .slice aI c.id.length kI, .slice aC c.cm.length kC] 29)).heap.size = w.heap.size + 1 from by simp)
    clear h
    go_enter Try.func54, Try.ntmps54
    go_wp2_with fail
    generalize w.alloc (.cells #[.int .i64 c.n, .slice aF c.fr.length kF, .slice aT c.to.length kT, .slice aI c.id.length kI, .slice aC c.cm.length kC] 29) = w1 at *
    generalize w.heap.size = b at *
    have c0 := V.c0
    have c1 := V.c1
    have c2 := V.c2
    have c3 := V.c3
    have c4 := V.c4
    refine (c_l02Is V.ic).mono ?_
    rintro e w2 ⟨rfl, b2⟩
    clear c0 c1 c2 c3 c4
    go_wp2_with fail
    go_ret
    exact ⟨ret_i HC.out, B.next b2⟩
/-- The hom set of two objects. -/
def homP (c : Cat) (x y : Int) (f : Nat) : Bool := decide (c.F f = x ∧ c.T f = y)
def homL (c : Cat) (x y : Int) : List Int := sel (homP c x y) c.fr.length
theorem c_hom {w1 : World} {b : Nat} {c : Cat} (P : PC w1 b c) (hT : c.to.length = c.fr.length) (x y : Int) : Calls Try.prog 86 #[.pointer (some ⟨b, 0, none⟩), .int .i64 x, .int .i64 y] w1 (Mk w1 fun w' u => OwnT 2 w1.heap.size w'.heap.size w' u (homL c x y)) := by
  obtain ⟨aF, aT, aI, aC, bF, oF, kF, bT, oT, kT, bI, oI, kI, bC, oC, kC, bR, oR, kR, V⟩ := P.opens
  have lF := V.iF.len
  have hTl : c.to.length ≤ c.fr.length ∧ c.fr.length ≤ c.to.length := by omega
  have c1 := V.c1
  have lb : b < w1.heap.size := World.block_lt_of_cell? _ _ c1
  clear P hT
  go_enter Try.func86, Try.ntmps86
  go_wp2_with fail
  clear c1
  go_loopw [7, 8, 15] (fun out _ i wr => ∃ (k : Nat) (os : List Int), k ≤ c.fr.length ∧ i = .int .i64 k ∧ Below w1.heap.size w1 wr ∧ Own 2 wr w1.heap.size out os ∧ os.length ≤ k ∧ Hid (os = sel (homP c x y) k)) (fun _ _ i _ => c.fr.length - (intOf i).toNat)
  case atStart => exact ⟨0, [], Nat.zero_le _, rfl, bel_alloc (Below.refl _ _) _, Own.empty _ _ _ (Nat.le_refl _), Nat.le_refl _, rfl⟩
  case round =>
    obtain ⟨k, os, hk, rfl, hb, ho, hol, hp⟩ := hrel
    have c1 := (V.kept hb).c1
    by_cases hlt : k < c.fr.length
    · have hw0 := hb.size
      obtain rfl := V.gF (by omega)
      obtain rfl := V.gT (by omega)
      have c2 := (V.kept hb).c2
      have cF := (V.kept hb).F k (by omega) (by omega)
      have cT := (V.kept hb).T k (by omega) (by omega)
      simp only [Int.toNat_natCast] at cF cT
      have l2 : k < c.to.length := by omega
      by_cases hx : c.F k = x
      · have hxb : (c.F k == x) = true := by simp [hx]
        have HX := Lib.hid hx
        clear hx
        by_cases hy : c.T k = y
        · have hyb : (c.T k == y) = true := by simp [hy]
          have HY := Lib.hid hy
          clear hy
          go_wp2_with (at_builtin; refine hold ?_)
          refine app1 ho (by constructor <;> omega) (by omega) (by first | omega | (simp; omega)) Try.underlying22 infoInt64 (by rfl) _ _ (by rfl) (by rfl) (by rfl) ?_
          intro v' w2 ho2 g2
          have hb2 := g2.below hb (by first | omega | (simp; omega)) (fun k hk => (ho.lt k hk).1)
          clear ho g2 hb c1 c2 cF cT
          go_wp2_with fail
          go_roundw
          case rel => exact ⟨k + 1, _, by omega, by go_num, hb2, ho2, by simp; omega, by unfold Hid; rw [sel_yes (by simp [homP, HX.out, HY.out]), ← hp.out]⟩
          case measure => simp [intOf]; omega
        · have hyb : (c.T k == y) = false := by simp [hy]
          have HY := Lib.hid hy
          clear hy
          go_wp2_with fail
          go_roundw
          case rel => exact ⟨k + 1, _, by omega, by go_num, hb, ho, by omega, by unfold Hid; rw [sel_no (by simp [homP, HY.out]), ← hp.out]⟩
          case measure => simp [intOf]; omega
      · have hxb : (c.F k == x) = false := by simp [hx]
        have HX := Lib.hid hx
        clear hx
        go_wp2_with fail
        go_roundw
        case rel => exact ⟨k + 1, _, by omega, by go_num, hb, ho, by omega, by unfold Hid; rw [sel_no (by simp [homP, HX.out]), ← hp.out]⟩
        case measure => simp [intOf]; omega
    · have hke : c.fr.length = k := by omega
      have HE : Hid (os = homL c x y) := by unfold Hid homL; rw [hke]; exact hp.out
      have hkb : decide ((k : Int) < (c.fr.length : Int)) = false := by simp; omega
      go_wp2_with fail
      go_ret
      refine ⟨_, rfl, ?_, hb⟩
      rw [← HE.out]
      exact (ho).top
theorem c_l02Hom {w : World} {v : Value} {c : Cat} (h : IC w v c) (hT : c.to.length = c.fr.length) (x y : Int) : Calls Try.prog 82 #[v, .int .i64 x, .int .i64 y] w (Mk w fun w' u => OwnT 2 w.heap.size w'.heap.size w' u (homL c x y)) := by
  have lF := h.lF
  have hTl : c.to.length ≤ c.fr.length ∧ c.fr.length ≤ c.to.length := by omega
  clear hT
  obtain ⟨aF, aT, aI, aC, bF, oF, kF, bT, oT, kT, bI, oI, kI, bC, oC, kC, bR, oR, kR, rfl, V⟩ := h.boxed 29
  have B : Bel w (w.alloc (.cells #[.int .i64 c.n, .slice aF c.fr.length kF, .slice aT c.to.length kT, .slice aI c.id.length kI, .slice aC c.cm.length kC] 29)) := bel_box w _
  have ZB := Lib.hid (show (w.alloc (.cells #[.int .i64 c.n, .slice aF c.fr.length kF, .slice aT c.to.length kT, .slice aI c.id.length kI, .slice aC c.cm.length kC] 29)).heap.size = w.heap.size + 1 from by simp)
  clear h
  go_enter Try.func82, Try.ntmps82
  go_wp2_with fail
  generalize w.alloc (.cells #[.int .i64 c.n, .slice aF c.fr.length kF, .slice aT c.to.length kT, .slice aI c.id.length kI, .slice aC c.cm.length kC] 29) = w1 at *
  generalize w.heap.size = b at *
  have c0 := V.c0
  have c1 := V.c1
  have c2 := V.c2
  have c3 := V.c3
  have c4 := V.c4
  clear c0 c1 c2 c3 c4
  have HB : Hid (w.heap.size ≤ w1.heap.size) := B.size
  try go_wp2_with fail
  go_loopw [7, 8] (fun out i wr => ∃ (k : Nat) (os : List Int), k ≤ c.fr.length ∧ i = .int .i64 k ∧ Below w1.heap.size w1 wr ∧ Own 2 wr w1.heap.size out os ∧ os.length ≤ k ∧ Hid (os = sel (homP c x y) k)) (fun _ i _ => c.fr.length - (intOf i).toNat)
  case atStart => exact ⟨0, [], Nat.zero_le _, rfl, bel_alloc (Below.refl _ _) _, Own.empty' (Nat.le_refl _) ZB.out, Nat.le_refl _, rfl⟩
  case round =>
    obtain ⟨k, os, hk, rfl, hb, ho, hol, hp⟩ := hrel
    have c1 := (V.kept hb).c1
    by_cases hlt : k < c.fr.length
    · have hw0 := hb.size
      obtain rfl := V.gF (by omega)
      obtain rfl := V.gT (by omega)
      have c2 := (V.kept hb).c2
      have cF := (V.kept hb).F k (by omega) (by omega)
      have cT := (V.kept hb).T k (by omega) (by omega)
      simp only [Int.toNat_natCast] at cF cT
      have l2 : k < c.to.length := by omega
      by_cases hx : c.F k = x
      · have hxb : (c.F k == x) = true := by simp [hx]
        have HX := Lib.hid hx
        clear hx
        by_cases hy : c.T k = y
        · have hyb : (c.T k == y) = true := by simp [hy]
          have HY := Lib.hid hy
          clear hy
          go_wp2_with (at_builtin; refine hold ?_)
          refine app1 ho (by constructor <;> omega) (by omega) (by first | omega | (simp; omega)) Try.underlying22 infoInt64 (by rfl) _ _ (by rfl) (by rfl) (by rfl) ?_
          intro v' w2 ho2 g2
          have hb2 := g2.below hb (by first | omega | (simp; omega)) (fun k hk => (ho.lt k hk).1)
          clear ho g2 hb c1 c2 cF cT
          go_wp2_with fail
          go_roundw
          case rel => exact ⟨k + 1, _, by omega, by go_num, hb2, ho2, by simp; omega, by unfold Hid; rw [sel_yes (by simp [homP, HX.out, HY.out]), ← hp.out]⟩
          case measure => simp [intOf]; omega
        · have hyb : (c.T k == y) = false := by simp [hy]
          have HY := Lib.hid hy
          clear hy
          go_wp2_with fail
          go_roundw
          case rel => exact ⟨k + 1, _, by omega, by go_num, hb, ho, by omega, by unfold Hid; rw [sel_no (by simp [homP, HY.out]), ← hp.out]⟩
          case measure => simp [intOf]; omega
      · have hxb : (c.F k == x) = false := by simp [hx]
        have HX := Lib.hid hx
        clear hx
        go_wp2_with fail
        go_roundw
        case rel => exact ⟨k + 1, _, by omega, by go_num, hb, ho, by omega, by unfold Hid; rw [sel_no (by simp [homP, HX.out]), ← hp.out]⟩
        case measure => simp [intOf]; omega
    · have hke : c.fr.length = k := by omega
      have HE : Hid (os = homL c x y) := by unfold Hid homL; rw [hke]; exact hp.out
      have hkb : decide ((k : Int) < (c.fr.length : Int)) = false := by simp; omega
      go_wp2_with fail
      go_ret
      refine ⟨_, rfl, ?_, B.next hb⟩
      rw [← HE.out]
      exact (ho.base HB.out).top
/-- What HomSet returns. -/
noncomputable def homR (c : Cat) (x y : Int) : List Int × Int := if codeO c [x, y] = 0 then (homL c x y, 0) else ([], codeO c [x, y])
end Go.Proofs.Ytkmkbmhpdnddnaa
