/-
  Chapters 5, 11: IsIso, IsComplete: program and reference.
-/
import Derived.Test.YtkmkbmhpdnddnaaCat8
namespace Go.Proofs.Ytkmkbmhpdnddnaa
open Go.RowKit

theorem sel_mem {p : Nat → Bool} {n : Nat} {g : Int} : g ∈ sel p n ↔ ∃ k : Nat, k < n ∧ p k = true ∧ (k : Int) = g := by
  simp only [sel, List.mem_map, List.mem_filter, List.mem_range]
  constructor
  · rintro ⟨k, ⟨h1, h2⟩, h3⟩; exact ⟨k, h1, h2, h3⟩
  · rintro ⟨k, h1, h2, h3⟩; exact ⟨k, ⟨h1, h2⟩, h3⟩
/-- Retractions and sections. -/
def retP (c : Cat) (f : Int) (g : Nat) : Bool := decide (c.F g = c.T f ∧ c.T g = c.F f ∧ c.M f g = c.I (c.F f))
def secP (c : Cat) (f : Int) (g : Nat) : Bool := decide (c.F g = c.T f ∧ c.T g = c.F f ∧ c.M g f = c.I (c.T f))
def retL (c : Cat) (f : Int) : List Int := sel (retP c f) c.fr.length
def secL (c : Cat) (f : Int) : List Int := sel (secP c f) c.fr.length
theorem retsec {c : Cat} {f g : Int} (h1 : g ∈ retL c f) (h2 : g ∈ secL c f) : c.Arr g ∧ Inv c f g := by
  obtain ⟨k, hk, hp, rfl⟩ := sel_mem.1 h1
  obtain ⟨j, hj, hq, e⟩ := sel_mem.1 h2
  obtain rfl : j = k := by omega
  simp only [retP, secP, decide_eq_true_eq] at hp hq
  exact ⟨⟨by omega, by unfold Cat.m; omega⟩, hp.1, hp.2.1, hp.2.2, hq.2.2⟩
theorem inv_ret {c : Cat} {f g : Int} (hg : c.Arr g) (h : Inv c f g) : g ∈ retL c f ∧ g ∈ secL c f := by
  have h2 := hg.2
  unfold Cat.m at h2
  have e : ((g.toNat : Nat) : Int) = g := by have := hg.1; omega
  refine ⟨sel_mem.2 ⟨g.toNat, by have := hg.1; omega, ?_, e⟩, sel_mem.2 ⟨g.toNat, by have := hg.1; omega, ?_, e⟩⟩
  · simp only [retP, decide_eq_true_eq, e]; exact ⟨h.1, h.2.1, h.2.2.1⟩
  · simp only [secP, decide_eq_true_eq, e]; exact ⟨h.1, h.2.1, h.2.2.2⟩
set_option maxHeartbeats 800000 in
theorem c_l05Retractions {w : World} {v : Value} {c : Cat} (h : IC w v c) (S : Shape c) {f : Int} (hf : c.Arr f) : Calls Try.prog 100 #[v, .int .i64 f] w (Mk w fun w' u => OwnT 2 w.heap.size w'.heap.size w' u (retL c f)) := by
  have lF := h.lF
  have SH := Lib.hid S
  clear S
  obtain ⟨aF, aT, aI, aC, bF, oF, kF, bT, oT, kT, bI, oI, kI, bC, oC, kC, bR, oR, kR, rfl, V⟩ := h.boxed 29
  have B : Bel w (w.alloc (.cells #[.int .i64 c.n, .slice aF c.fr.length kF, .slice aT c.to.length kT, .slice aI c.id.length kI, .slice aC c.cm.length kC] 29)) := bel_box w _
  have ZB := Lib.hid (show (w.alloc (.cells #[.int .i64 c.n, .slice aF c.fr.length kF, .slice aT c.to.length kT, .slice aI c.id.length kI, .slice aC c.cm.length kC] 29)).heap.size = w.heap.size + 1 from by simp)
  clear h
  go_enter Try.func100, Try.ntmps100
  go_wp2_with fail
  generalize w.alloc (.cells #[.int .i64 c.n, .slice aF c.fr.length kF, .slice aT c.to.length kT, .slice aI c.id.length kI, .slice aC c.cm.length kC] 29) = w1 at *
  generalize w.heap.size = b at *
  have c0 := V.c0
  have c1 := V.c1
  have c2 := V.c2
  have c3 := V.c3
  have c4 := V.c4
  clear c0 c1 c2 c3 c4
  obtain ⟨rfl, rfl, rfl, rfl⟩ := V.som SH.out (by have := hf.1; have := hf.2; unfold Cat.m at this; omega)
  have f0 := hf.1
  have f1 : f < (c.fr.length : Int) := hf.2
  have f2 : f < (c.to.length : Int) := by rw [SH.out.tl]; exact f1
  have HB : Hid (w.heap.size ≤ w1.heap.size) := B.size
  try go_wp2_with fail
  go_loopw [5, 6] (fun out i wr => ∃ (k : Nat) (os : List Int), k ≤ c.fr.length ∧ i = .int .i64 k ∧ Below w1.heap.size w1 wr ∧ Own 2 wr w1.heap.size out os ∧ os.length ≤ k ∧ Hid (os = sel (retP c f) k)) (fun _ i _ => c.fr.length - (intOf i).toNat)
  case atStart => exact ⟨0, [], Nat.zero_le _, rfl, bel_alloc (Below.refl _ _) _, Own.empty' (Nat.le_refl _) ZB.out, Nat.le_refl _, rfl⟩
  case round =>
    obtain ⟨k, os, hk, rfl, hb, ho, hol, hp⟩ := hrel
    have V2 := V.kept hb
    have c1 := V2.c1
    by_cases hlt : k < c.fr.length
    · have hw0 := hb.size
      have hA : c.Arr k := ⟨by omega, by unfold Cat.m; omega⟩
      have c2 := V2.c2
      have c3 := V2.c3
      have c4 := V2.c4
      have cFk := V2.cF hA
      have cTk := V2.cT SH.out hA
      have cFf := V2.cF hf
      have cTf := V2.cT SH.out hf
      have cR := V2.row SH.out hf
      have cM := V2.cM SH.out hf hA
      have cI := V2.cI SH.out (SH.out.fO f hf)
      have l5 : f < (c.cm.length : Int) := by rw [SH.out.cl]; exact hf.2
      have l6 : c.F f < (c.id.length : Int) := by rw [SH.out.il]; exact (SH.out.fO f hf).2
      have l7 := (SH.out.fO f hf).1
      simp only [Int.toNat_natCast] at cFk cTk cR cM
      have l2 : k < c.to.length := by rw [SH.out.tl]; exact hlt
      by_cases q1 : c.F k = c.T f
      · have q1b : (c.F k == c.T f) = true := by simp [q1]
        have Q1 := Lib.hid q1
        clear q1
        by_cases q2 : c.T k = c.F f
        · have q2b : (c.T k == c.F f) = true := by simp [q2]
          have Q2 := Lib.hid q2
          clear q2
          by_cases q3 : c.M f k = c.I (c.F f)
          · have q3b : (c.M f k == c.I (c.F f)) = true := by simp [q3]
            have HE : Hid (retP c f k = true) := by unfold Hid retP; rw [decide_eq_true_eq]; exact ⟨Q1.out, Q2.out, q3⟩
            clear q3
            go_wp2_with fail
            go_quiet (fail)
            obtain ⟨wq, hq⟩ : ∃ wq, wq = wr.drewN nq := ⟨_, rfl⟩
            rw [← hq]
            have hdq : Drawn wr wq := by subst hq; exact Drawn.step (Drawn.refl _) _
            clear hq
            replace hb := hb.trans (hdq.below _)
            replace ho := ho.kept (hdq.below _)
            have hw0 := hb.size
            clear hdq
            clear c1 c2 c3 c4 cFk cTk cFf cTf cR cM cI
            go_wp2_with (at_builtin; refine hold ?_)
            refine app1 ho (by constructor <;> omega) (by omega) (by first | omega | (simp; omega)) Try.underlying22 infoInt64 (by rfl) _ _ (by rfl) (by rfl) (by rfl) ?_
            intro v' w2 ho2 g2
            have hb2 := g2.below hb (by first | omega | (simp; omega)) (fun k hk => (ho.lt k hk).1)
            clear ho g2 hb
            go_wp2_with fail
            go_roundw
            case rel => exact ⟨k + 1, _, by omega, by go_num, hb2, ho2, by simp; omega, by unfold Hid; rw [sel_yes HE.out, ← hp.out]⟩
            case measure => simp [intOf]; omega
          · have q3b : (c.M f k == c.I (c.F f)) = false := by simp [q3]
            have HE : Hid (retP c f k = false) := by unfold Hid retP; rw [decide_eq_false_iff_not]; exact fun q => q3 q.2.2
            clear q3
            go_wp2_with fail
            go_quiet (fail)
            go_wp2_with fail
            go_roundw
            case rel => exact ⟨k + 1, _, by omega, by go_num, bel_next hb (Drawn.step (Drawn.refl _) _).bel0, ho.kept (Drawn.step (Drawn.refl _) _).bel0, by omega, by unfold Hid; rw [sel_no HE.out, ← hp.out]⟩
            case measure => simp [intOf]; omega
        · have q2b : (c.T k == c.F f) = false := by simp [q2]
          have HE : Hid (retP c f k = false) := by unfold Hid retP; rw [decide_eq_false_iff_not]; exact fun q => q2 q.2.1
          clear q2
          go_wp2_with fail
          go_quiet (fail)
          go_wp2_with fail
          go_roundw
          case rel => exact ⟨k + 1, _, by omega, by go_num, bel_next hb (Drawn.step (Drawn.refl _) _).bel0, ho.kept (Drawn.step (Drawn.refl _) _).bel0, by omega, by unfold Hid; rw [sel_no HE.out, ← hp.out]⟩
          case measure => simp [intOf]; omega
      · have q1b : (c.F k == c.T f) = false := by simp [q1]
        have HE : Hid (retP c f k = false) := by unfold Hid retP; rw [decide_eq_false_iff_not]; exact fun q => q1 q.1
        clear q1
        go_wp2_with fail
        go_quiet (fail)
        go_wp2_with fail
        go_roundw
        case rel => exact ⟨k + 1, _, by omega, by go_num, bel_next hb (Drawn.step (Drawn.refl _) _).bel0, ho.kept (Drawn.step (Drawn.refl _) _).bel0, by omega, by unfold Hid; rw [sel_no HE.out, ← hp.out]⟩
        case measure => simp [intOf]; omega
    · have hke : c.fr.length = k := by omega
      have HE : Hid (os = retL c f) := by unfold Hid retL; rw [hke]; exact hp.out
      have hkb : decide ((k : Int) < (c.fr.length : Int)) = false := by simp; omega
      go_wp2_with fail
      go_ret
      refine ⟨_, rfl, ?_, B.next hb⟩
      rw [← HE.out]
      exact (ho.base HB.out).top
set_option maxHeartbeats 800000 in
theorem c_l05Sections {w : World} {v : Value} {c : Cat} (h : IC w v c) (S : Shape c) {f : Int} (hf : c.Arr f) : Calls Try.prog 101 #[v, .int .i64 f] w (Mk w fun w' u => OwnT 2 w.heap.size w'.heap.size w' u (secL c f)) := by
  have lF := h.lF
  have SH := Lib.hid S
  clear S
  obtain ⟨aF, aT, aI, aC, bF, oF, kF, bT, oT, kT, bI, oI, kI, bC, oC, kC, bR, oR, kR, rfl, V⟩ := h.boxed 29
  have B : Bel w (w.alloc (.cells #[.int .i64 c.n, .slice aF c.fr.length kF, .slice aT c.to.length kT, .slice aI c.id.length kI, .slice aC c.cm.length kC] 29)) := bel_box w _
  have ZB := Lib.hid (show (w.alloc (.cells #[.int .i64 c.n, .slice aF c.fr.length kF, .slice aT c.to.length kT, .slice aI c.id.length kI, .slice aC c.cm.length kC] 29)).heap.size = w.heap.size + 1 from by simp)
  clear h
  go_enter Try.func101, Try.ntmps101
  go_wp2_with fail
  generalize w.alloc (.cells #[.int .i64 c.n, .slice aF c.fr.length kF, .slice aT c.to.length kT, .slice aI c.id.length kI, .slice aC c.cm.length kC] 29) = w1 at *
  generalize w.heap.size = b at *
  have c0 := V.c0
  have c1 := V.c1
  have c2 := V.c2
  have c3 := V.c3
  have c4 := V.c4
  clear c0 c1 c2 c3 c4
  obtain ⟨rfl, rfl, rfl, rfl⟩ := V.som SH.out (by have := hf.1; have := hf.2; unfold Cat.m at this; omega)
  have f0 := hf.1
  have f1 : f < (c.fr.length : Int) := hf.2
  have f2 : f < (c.to.length : Int) := by rw [SH.out.tl]; exact f1
  have HB : Hid (w.heap.size ≤ w1.heap.size) := B.size
  try go_wp2_with fail
  go_loopw [5, 6] (fun out i wr => ∃ (k : Nat) (os : List Int), k ≤ c.fr.length ∧ i = .int .i64 k ∧ Below w1.heap.size w1 wr ∧ Own 2 wr w1.heap.size out os ∧ os.length ≤ k ∧ Hid (os = sel (secP c f) k)) (fun _ i _ => c.fr.length - (intOf i).toNat)
  case atStart => exact ⟨0, [], Nat.zero_le _, rfl, bel_alloc (Below.refl _ _) _, Own.empty' (Nat.le_refl _) ZB.out, Nat.le_refl _, rfl⟩
  case round =>
    obtain ⟨k, os, hk, rfl, hb, ho, hol, hp⟩ := hrel
    have V2 := V.kept hb
    have c1 := V2.c1
    by_cases hlt : k < c.fr.length
    · have hw0 := hb.size
      have hA : c.Arr k := ⟨by omega, by unfold Cat.m; omega⟩
      have c2 := V2.c2
      have c3 := V2.c3
      have c4 := V2.c4
      have cFk := V2.cF hA
      have cTk := V2.cT SH.out hA
      have cFf := V2.cF hf
      have cTf := V2.cT SH.out hf
      have cR := V2.row SH.out hA
      have cM := V2.cM SH.out hA hf
      have cI := V2.cI SH.out (SH.out.tO f hf)
      have l5 : k < c.cm.length := by rw [SH.out.cl]; exact hlt
      have l6 : c.T f < (c.id.length : Int) := by rw [SH.out.il]; exact (SH.out.tO f hf).2
      have l7 := (SH.out.tO f hf).1
      simp only [Int.toNat_natCast] at cFk cTk cR cM
      have l2 : k < c.to.length := by rw [SH.out.tl]; exact hlt
      by_cases q1 : c.F k = c.T f
      · have q1b : (c.F k == c.T f) = true := by simp [q1]
        have Q1 := Lib.hid q1
        clear q1
        by_cases q2 : c.T k = c.F f
        · have q2b : (c.T k == c.F f) = true := by simp [q2]
          have Q2 := Lib.hid q2
          clear q2
          by_cases q3 : c.M k f = c.I (c.T f)
          · have q3b : (c.M k f == c.I (c.T f)) = true := by simp [q3]
            have HE : Hid (secP c f k = true) := by unfold Hid secP; rw [decide_eq_true_eq]; exact ⟨Q1.out, Q2.out, q3⟩
            clear q3
            go_wp2_with fail
            go_quiet (fail)
            obtain ⟨wq, hq⟩ : ∃ wq, wq = wr.drewN nq := ⟨_, rfl⟩
            rw [← hq]
            have hdq : Drawn wr wq := by subst hq; exact Drawn.step (Drawn.refl _) _
            clear hq
            replace hb := hb.trans (hdq.below _)
            replace ho := ho.kept (hdq.below _)
            have hw0 := hb.size
            clear hdq
            clear c1 c2 c3 c4 cFk cTk cFf cTf cR cM cI
            go_wp2_with (at_builtin; refine hold ?_)
            refine app1 ho (by constructor <;> omega) (by omega) (by first | omega | (simp; omega)) Try.underlying22 infoInt64 (by rfl) _ _ (by rfl) (by rfl) (by rfl) ?_
            intro v' w2 ho2 g2
            have hb2 := g2.below hb (by first | omega | (simp; omega)) (fun k hk => (ho.lt k hk).1)
            clear ho g2 hb
            go_wp2_with fail
            go_roundw
            case rel => exact ⟨k + 1, _, by omega, by go_num, hb2, ho2, by simp; omega, by unfold Hid; rw [sel_yes HE.out, ← hp.out]⟩
            case measure => simp [intOf]; omega
          · have q3b : (c.M k f == c.I (c.T f)) = false := by simp [q3]
            have HE : Hid (secP c f k = false) := by unfold Hid secP; rw [decide_eq_false_iff_not]; exact fun q => q3 q.2.2
            clear q3
            go_wp2_with fail
            go_quiet (fail)
            go_wp2_with fail
            go_roundw
            case rel => exact ⟨k + 1, _, by omega, by go_num, bel_next hb (Drawn.step (Drawn.refl _) _).bel0, ho.kept (Drawn.step (Drawn.refl _) _).bel0, by omega, by unfold Hid; rw [sel_no HE.out, ← hp.out]⟩
            case measure => simp [intOf]; omega
        · have q2b : (c.T k == c.F f) = false := by simp [q2]
          have HE : Hid (secP c f k = false) := by unfold Hid secP; rw [decide_eq_false_iff_not]; exact fun q => q2 q.2.1
          clear q2
          go_wp2_with fail
          go_quiet (fail)
          go_wp2_with fail
          go_roundw
          case rel => exact ⟨k + 1, _, by omega, by go_num, bel_next hb (Drawn.step (Drawn.refl _) _).bel0, ho.kept (Drawn.step (Drawn.refl _) _).bel0, by omega, by unfold Hid; rw [sel_no HE.out, ← hp.out]⟩
          case measure => simp [intOf]; omega
      · have q1b : (c.F k == c.T f) = false := by simp [q1]
        have HE : Hid (secP c f k = false) := by unfold Hid secP; rw [decide_eq_false_iff_not]; exact fun q => q1 q.1
        clear q1
        go_wp2_with fail
        go_quiet (fail)
        go_wp2_with fail
        go_roundw
        case rel => exact ⟨k + 1, _, by omega, by go_num, bel_next hb (Drawn.step (Drawn.refl _) _).bel0, ho.kept (Drawn.step (Drawn.refl _) _).bel0, by omega, by unfold Hid; rw [sel_no HE.out, ← hp.out]⟩
        case measure => simp [intOf]; omega
    · have hke : c.fr.length = k := by omega
      have HE : Hid (os = secL c f) := by unfold Hid secL; rw [hke]; exact hp.out
      have hkb : decide ((k : Int) < (c.fr.length : Int)) = false := by simp; omega
      go_wp2_with fail
      go_ret
      refine ⟨_, rfl, ?_, B.next hb⟩
      rw [← HE.out]
      exact (ho.base HB.out).top
set_option maxHeartbeats 1600000 in
theorem c_l05Inverse {w : World} {v : Value} {c : Cat} (h : IC w v c) (S : Shape c) {f : Int} (hf : c.Arr f) : Calls Try.prog 70 #[v, .int .i64 f] w (InvEnd c f w) := by
  have SH := Lib.hid S
  clear S
  obtain ⟨aF, aT, aI, aC, bF, oF, kF, bT, oT, kT, bI, oI, kI, bC, oC, kC, bR, oR, kR, rfl, V⟩ := h.boxed 29
  have B : Bel w (w.alloc (.cells #[.int .i64 c.n, .slice aF c.fr.length kF, .slice aT c.to.length kT, .slice aI c.id.length kI, .slice aC c.cm.length kC] 29)) := bel_box w _
  have ZB := Lib.hid (show (w.alloc (.cells #[.int .i64 c.n, .slice aF c.fr.length kF, .slice aT c.to.length kT, .slice aI c.id.length kI, .slice aC c.cm.length kC] 29)).heap.size = w.heap.size + 1 from by simp)
  clear h
  go_enter Try.func70, Try.ntmps70
  go_wp2_with fail
  generalize w.alloc (.cells #[.int .i64 c.n, .slice aF c.fr.length kF, .slice aT c.to.length kT, .slice aI c.id.length kI, .slice aC c.cm.length kC] 29) = w1 at *
  generalize w.heap.size = b at *
  have c0 := V.c0
  have c1 := V.c1
  have c2 := V.c2
  have c3 := V.c3
  have c4 := V.c4
  clear c0 c1 c2 c3 c4
  obtain ⟨rfl, rfl, rfl, rfl⟩ := V.som SH.out (by have := hf.1; have := hf.2; unfold Cat.m at this; omega)
  have c0 := V.c0
  have c1 := V.c1
  have c2 := V.c2
  have c3 := V.c3
  have c4 := V.c4
  have VI := V.ic
  try go_wp2_with fail
  go_region_held3 (fun w' => Below w1.heap.size w1 w' ∧ w'.cell? ⟨b, 0, none⟩ = some (.int .i64 c.n) ∧ w'.cell? ⟨b, 1, none⟩ = some (.slice (some ⟨bF, oF, none⟩) c.fr.length kF) ∧ w'.cell? ⟨b, 2, none⟩ = some (.slice (some ⟨bT, oT, none⟩) c.to.length kT) ∧ w'.cell? ⟨b, 3, none⟩ = some (.slice (some ⟨bI, oI, none⟩) c.id.length kI) ∧ w'.cell? ⟨b, 4, none⟩ = some (.slice (some ⟨bC, oC, none⟩) c.cm.length kC))
    (first | exact ⟨(Drawn.one (Drawn.refl _)).bel0, c0, c1, c2, c3, c4⟩ | (refine keep5 ?_ hb7; assumption) | (refine keep5 ?_ (bel_box _ _); assumption))
    (first | (go_at_call 100; (with_reducible refine (c_l05Retractions (VI.kept (And.left (by assumption))) SH.out hf).mono ?_); rintro e wq ⟨u1, rfl, o1, hb7⟩) | (go_at_call 101; (with_reducible refine (c_l05Sections (VI.kept (And.left (by assumption))) SH.out hf).mono ?_); rintro e wq ⟨u2, rfl, o2, hb7⟩))
  all_goals
    obtain ⟨hbl, -⟩ := ‹Below w1.heap.size w1 wq ∧ _›
    obtain ⟨I1, I2⟩ : IS wq u1 (retL c f) ∧ IS wq u2 (secL c f) := by first | exact ⟨o1.is.kept hb7, o2.is⟩ | exact ⟨o1.is, o2.is.kept hb7⟩
    have hl1 : (retL c f).length ≤ 4294967296 := I1.len
    clear o1 o2 hb7 c0 c1 c2 c3 c4
    obtain ⟨ao, bb, oo, cc, rfl, ha, hc⟩ := I1.ex
    obtain ⟨ao', bb', oo', cc', hv', -, -⟩ := I2.ex
    subst hv'
    go_wp2_with fail
    go_loopw [7] (fun i wr => ∃ k : Nat, k ≤ (retL c f).length ∧ i = .int .i64 k ∧ Drawn wq wr ∧ Hid (∀ j, j < k → ¬ gi (retL c f) j ∈ secL c f)) (fun i _ => (retL c f).length - (intOf i).toNat)
    case atStart => exact ⟨0, Nat.zero_le _, rfl, (by repeat (first | exact Drawn.refl _ | refine Drawn.step ?_ _ | refine Drawn.one ?_)), fun j h => by omega⟩
    case round =>
      obtain ⟨k, hk, rfl, hd, hp⟩ := hrel
      by_cases hlt : k < (retL c f).length
      · obtain rfl := ha (by omega)
        have cx := up_cell hd.bel0 (hc k hlt)
        by_cases hm : gi (retL c f) k ∈ secL c f
        · have HM := Lib.hid (hasB_iff.2 hm)
          have HR := Lib.hid (retsec (gi_mem hlt) hm)
          clear hm
          go_wp2_with fail
          refine (c_l01Has (I2.drawn hd) _).mono ?_
          rintro e w4 ⟨rfl, d4⟩
          rw [HM.out]
          have cx2 := up_cell d4.bel0 cx
          clear cx
          go_wp2_with fail
          go_ret
          exact ⟨_, .inr HR.out, rfl, B.next (bel_next hbl (drawn_trans hd d4).bel0)⟩
        · have HM : Hid (hasB (secL c f) (gi (retL c f) k) = false) := by unfold Hid; rw [Bool.eq_false_iff]; exact fun q => hm (hasB_iff.1 q)
          have HR := Lib.hid hm
          clear hm
          go_wp2_with fail
          refine (c_l01Has (I2.drawn hd) _).mono ?_
          rintro e w4 ⟨rfl, d4⟩
          rw [HM.out]
          clear cx
          go_wp2_with fail
          go_roundw
          case rel => exact ⟨k + 1, by omega, by go_num, drawn_trans hd d4, fun j h => by
            by_cases e : j = k
            · subst e; exact HR.out
            · exact hp.out j (by omega)⟩
          case measure => simp [intOf]; omega
      · have hke : (retL c f).length = k := by omega
        have HN : Hid (∀ g, c.Arr g → ¬ Inv c f g) := fun g hg hi => by
          obtain ⟨h1, h2⟩ := inv_ret hg hi
          exact all_gi (p := fun g => ¬ g ∈ secL c f) (fun j h => hp.out j (by omega)) g h1 h2
        clear hp
        go_wp2_with fail
        go_ret
        exact ⟨-1, .inl ⟨rfl, HN.out⟩, rfl, B.next (bel_next hbl hd.bel0)⟩
/-- What IsIso returns. -/
noncomputable def isoR (c : Cat) (f : Int) : Bool × Int := if codeA c [f] = 0 then (@decide (HasInv c f) (Classical.propDecidable _), 0) else (false, codeA c [f])
theorem isoR_ok {c : Cat} {f r : Int} (h : codeA c [f] = 0) (hr : InvR c f r) : isoR c f = (decide (r ≥ 0), 0) := by
  unfold isoR
  rw [if_pos h]
  have := hr.neg
  by_cases q : HasInv c f
  · have : ¬ r < 0 := fun e => this.1 e q
    rw [@decide_eq_true _ (Classical.propDecidable _) q, decide_eq_true (by omega)]
  · have : r < 0 := this.2 q
    rw [@decide_eq_false _ (Classical.propDecidable _) q, decide_eq_false (by omega)]
theorem i_IsIso {w : World} {v : Value} {c : Cat} (h : IC w v c) (f : Int) (hf : I64 f) : Calls Try.prog 38 #[v, .int .i64 f] w (Ret w (.tuple #[.bool (isoR c f).1, .int .i64 (isoR c f).2])) := by
  obtain ⟨aF, aT, aI, aC, bF, oF, kF, bT, oT, kT, bI, oI, kI, bC, oC, kC, bR, oR, kR, rfl, V⟩ := h.boxed 29
  have B : Bel w (w.alloc (.cells #[.int .i64 c.n, .slice aF c.fr.length kF, .slice aT c.to.length kT, .slice aI c.id.length kI, .slice aC c.cm.length kC] 29)) := bel_box w _
  have ZB := Lib.hid (show (w.alloc (.cells #[.int .i64 c.n, .slice aF c.fr.length kF, .slice aT c.to.length kT, .slice aI c.id.length kI, .slice aC c.cm.length kC] 29)).heap.size = w.heap.size + 1 from by simp)
  clear h
  go_enter Try.func38, Try.ntmps38
  go_wp2_with fail
  generalize w.alloc (.cells #[.int .i64 c.n, .slice aF c.fr.length kF, .slice aT c.to.length kT, .slice aI c.id.length kI, .slice aC c.cm.length kC] 29) = w1 at *
  generalize w.heap.size = b at *
  have c0 := V.c0
  have c1 := V.c1
  have c2 := V.c2
  have c3 := V.c3
  have c4 := V.c4
  clear c0 c1 c2 c3 c4
  refine (c_arrowCode (V.pc.kept (bel_box _ _)) (IS.lit1v' hf _ ZB.out)).mono ?_
  rintro e w2 ⟨rfl, b2⟩
  replace b2 := bel_next (bel_box w1 _) b2
  by_cases hc : codeA c [f] = 0
  · obtain ⟨C, fA⟩ := codeA_one hc
    have S := C.s
    have hcb : (codeA c [f] != 0) = false := by simp [hc]
    have HC := Lib.hid hc
    clear hc hf C
    go_wp2_with fail
    refine (c_inverse (V.kept b2).pc S fA).mono ?_
    rintro e w3 ⟨r, hr, rfl, b3⟩
    have HR := Lib.hid (isoR_ok HC.out hr)
    clear S hr
    go_wp2_with fail
    go_ret2
    exact ⟨ret_bi HR.out, B.next (bel_next b2 b3)⟩
  · have hcb : (codeA c [f] != 0) = true := by simp [hc]
    have HC := Lib.hid hc
    clear hc
    go_wp2_with fail
    go_ret2
    exact ⟨ret_bi (by rw [isoR, if_neg HC.out]), B.next b2⟩
theorem s_IsIso {w : World} {v : Value} {c : Cat} (h : IC w v c) (f : Int) (_ : I64 f) : Calls Try.prog 37 #[v, .int .i64 f] w (Ret w (.tuple #[.bool (isoR c f).1, .int .i64 (isoR c f).2])) := by
  obtain ⟨aF, aT, aI, aC, bF, oF, kF, bT, oT, kT, bI, oI, kI, bC, oC, kC, bR, oR, kR, rfl, V⟩ := h.boxed 29
  have B : Bel w (w.alloc (.cells #[.int .i64 c.n, .slice aF c.fr.length kF, .slice aT c.to.length kT, .slice aI c.id.length kI, .slice aC c.cm.length kC] 29)) := bel_box w _
  have ZB := Lib.hid (show (w.alloc (.cells #[.int .i64 c.n, .slice aF c.fr.length kF, .slice aT c.to.length kT, .slice aI c.id.length kI, .slice aC c.cm.length kC] 29)).heap.size = w.heap.size + 1 from by simp)
  clear h
  go_enter Try.func37, Try.ntmps37
  go_wp2_with fail
  generalize w.alloc (.cells #[.int .i64 c.n, .slice aF c.fr.length kF, .slice aT c.to.length kT, .slice aI c.id.length kI, .slice aC c.cm.length kC] 29) = w1 at *
  generalize w.heap.size = b at *
  have c0 := V.c0
  have c1 := V.c1
  have c2 := V.c2
  have c3 := V.c3
  have c4 := V.c4
  refine (c_l05Code V.ic f).mono ?_
  rintro e w2 ⟨rfl, b2⟩
  have V2 := V.kept b2
  clear c0 c1 c2 c3 c4
  by_cases hc : codeA c [f] = 0
  · obtain ⟨C, fA⟩ := codeA_one hc
    have S := C.s
    have hcb : (codeA c [f] != 0) = false := by simp [hc]
    have HC := Lib.hid hc
    clear hc C
    have c0 := V2.c0
    have c1 := V2.c1
    have c2 := V2.c2
    have c3 := V2.c3
    have c4 := V2.c4
    go_wp2_with fail
    refine (c_l05Inverse V2.ic S fA).mono ?_
    rintro e w3 ⟨r, hr, rfl, b3⟩
    have HR := Lib.hid (isoR_ok HC.out hr)
    clear c0 c1 c2 c3 c4 hr S
    go_wp2_with fail
    go_ret2
    exact ⟨ret_bi HR.out, B.next (bel_next b2 b3)⟩
  · have hcb : (codeA c [f] != 0) = true := by simp [hc]
    have HC := Lib.hid hc
    clear hc
    go_wp2_with fail
    go_ret2
    exact ⟨ret_bi (by rw [isoR, if_neg HC.out]), B.next b2⟩
end Go.Proofs.Ytkmkbmhpdnddnaa
