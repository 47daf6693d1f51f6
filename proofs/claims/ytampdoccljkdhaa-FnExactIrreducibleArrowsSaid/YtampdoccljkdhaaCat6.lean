/-
  Chapters 2 and 5: CompositeOf, IsIdempotent, HomSet, IsGroupoid, IdempotentArrows, PathComposite: program and reference.
-/
import Derived.Test.YtampdoccljkdhaaCat5
import Derived.Test.YtampdoccljkdhaaApp
namespace Go.Proofs.Ytampdoccljkdhaa
open Go.RowKit

theorem IS.lit1v (w : World) {a : Int} (ha : I64 a) (E : TypeId) : IS (w.alloc (.cells #[.int .i64 a] E)) (.slice (some ⟨w.heap.size, 0, none⟩) 1 1) [a] := by
  refine ⟨⟨some ⟨w.heap.size, 0, none⟩, w.heap.size, 0, 1, rfl, fun _ => rfl, fun i hi => ?_⟩, ?_, by simp⟩
  · obtain rfl : i = 0 := by simp at hi; omega
    simp [gi]
  · intro x hx
    simp at hx
    subst hx; exact ha
theorem IS.lit2v (w : World) {a b : Int} (ha : I64 a) (hb : I64 b) (E : TypeId) : IS (w.alloc (.cells #[.int .i64 a, .int .i64 b] E)) (.slice (some ⟨w.heap.size, 0, none⟩) 2 2) [a, b] := by
  refine ⟨⟨some ⟨w.heap.size, 0, none⟩, w.heap.size, 0, 2, rfl, fun _ => rfl, fun i hi => ?_⟩, ?_, by simp⟩
  · have : i = 0 ∨ i = 1 := by simp at hi; omega
    rcases this with rfl | rfl <;> simp [gi]
  · intro x hx
    simp at hx
    rcases hx with rfl | rfl
    · exact ha
    · exact hb
theorem IS.lit1v' {w : World} {a : Int} {n : Nat} (ha : I64 a) (E : TypeId) (hn : w.heap.size = n) : IS (w.alloc (.cells #[.int .i64 a] E)) (.slice (some ⟨n, 0, none⟩) 1 1) [a] := by
  subst hn; exact IS.lit1v w ha E
theorem IS.lit2v' {w : World} {a b : Int} {n : Nat} (ha : I64 a) (hb : I64 b) (E : TypeId) (hn : w.heap.size = n) : IS (w.alloc (.cells #[.int .i64 a, .int .i64 b] E)) (.slice (some ⟨n, 0, none⟩) 2 2) [a, b] := by
  subst hn; exact IS.lit2v w ha hb E
theorem codeA_zero {c : Cat} {xs : List Int} (h : codeA c xs = 0) : catB c = true ∧ allIn c.m xs = true := by
  unfold codeA at h
  split at h
  · rename_i h1
    split at h
    · rename_i h2; exact ⟨h1, h2⟩
    · cases h
  · cases h
theorem codeO_zero {c : Cat} {xs : List Int} (h : codeO c xs = 0) : catB c = true ∧ allIn c.n xs = true := by
  unfold codeO at h
  split at h
  · rename_i h1
    split at h
    · rename_i h2; exact ⟨h1, h2⟩
    · cases h
  · cases h
theorem codeA_one {c : Cat} {f : Int} (h : codeA c [f] = 0) : CatOk c ∧ c.Arr f := by
  obtain ⟨h1, h2⟩ := codeA_zero h
  simp [allIn] at h2
  exact ⟨catB_s h1, h2⟩
theorem codeA_two {c : Cat} {f g : Int} (h : codeA c [f, g] = 0) : CatOk c ∧ c.Arr f ∧ c.Arr g := by
  obtain ⟨h1, h2⟩ := codeA_zero h
  simp [allIn] at h2
  exact ⟨catB_s h1, h2.1, h2.2⟩
theorem codeO_two {c : Cat} {f g : Int} (h : codeO c [f, g] = 0) : CatOk c ∧ c.Obj f ∧ c.Obj g := by
  obtain ⟨h1, h2⟩ := codeO_zero h
  simp [allIn] at h2
  exact ⟨catB_s h1, h2.1, h2.2⟩
theorem codeO_1 {c : Cat} {f : Int} (h : codeO c [f] = 0) : CatOk c ∧ c.Obj f := by
  obtain ⟨h1, h2⟩ := codeO_zero h
  simp [allIn] at h2
  exact ⟨catB_s h1, h2⟩
theorem ret_ii {r : Int × Int} {a b : Int} (h : r = (a, b)) : Ending.returned (.tuple #[.int .i64 a, .int .i64 b]) = .returned (.tuple #[.int .i64 r.1, .int .i64 r.2]) := by rw [h]
theorem ret_bi {r : Bool × Int} {a : Bool} {b : Int} (h : r = (a, b)) : Ending.returned (.tuple #[.bool a, .int .i64 b]) = .returned (.tuple #[.bool r.1, .int .i64 r.2]) := by rw [h]
theorem ne_neg {c : Cat} (S : Shape c) {f g : Int} (hf : c.Arr f) (hg : c.Arr g) : c.M f g < 0 ↔ ¬ c.T f = c.F g := by
  constructor
  · intro h e
    have := (S.mA f g hf hg e).1.1
    omega
  · intro h
    rw [S.mN f g hf hg h]; decide
theorem c_l02Then {w : World} {v : Value} {c : Cat} (h : IC w v c) (S : Shape c) {f g : Int} (hf : c.Arr f) (hg : c.Arr g) : Calls Try.prog 65 #[v, .int .i64 f, .int .i64 g] w (Ret w (.int .i64 (c.M f g))) := by
  have f0 := hf.1
  have f1 : f < (c.fr.length : Int) := hf.2
  have g0 := hg.1
  have g1 : g < (c.fr.length : Int) := hg.2
  have f2 : f < (c.cm.length : Int) := by rw [S.cl]; exact f1
  obtain ⟨aF, aT, aI, aC, bF, oF, kF, bT, oT, kT, bI, oI, kI, bC, oC, kC, bR, oR, kR, rfl, V⟩ := h.boxed 28
  obtain ⟨rfl, rfl, rfl, rfl⟩ := V.som S (by omega)
  have c4 := V.c4
  have cR := V.row S hf
  have cM := V.cM S hf hg
  clear h
  go_enter Try.func65, Try.ntmps65
  go_wp2_with fail
  go_ret
  exact ⟨rfl, (bel_box _ _).trans (Drawn.below (by repeat (first | exact Drawn.refl _ | refine Drawn.step ?_ _ | refine Drawn.one ?_)) _)⟩
/-- What CompositeOf returns. -/
noncomputable def compR (c : Cat) (f g : Int) : Int × Int := if codeA c [f, g] = 0 then (if c.M f g < 0 then (0, 5) else (c.M f g, 0)) else (0, codeA c [f, g])
theorem i_CompositeOf {w : World} {v : Value} {c : Cat} (h : IC w v c) (f : Int) (hf : I64 f) (g : Int) (hg : I64 g) : Calls Try.prog 29 #[v, .int .i64 f, .int .i64 g] w (Ret w (.tuple #[.int .i64 (compR c f g).1, .int .i64 (compR c f g).2])) := by
  obtain ⟨aF, aT, aI, aC, bF, oF, kF, bT, oT, kT, bI, oI, kI, bC, oC, kC, bR, oR, kR, rfl, V⟩ := h.boxed 28
  have B : Bel w (w.alloc (.cells #[.int .i64 c.n, .slice aF c.fr.length kF, .slice aT c.to.length kT, .slice aI c.id.length kI, .slice aC c.cm.length kC] 28)) := bel_box w _
  have ZB := Lib.hid (show (w.alloc (.cells #[.int .i64 c.n, .slice aF c.fr.length kF, .slice aT c.to.length kT, .slice aI c.id.length kI, .slice aC c.cm.length kC] 28)).heap.size = w.heap.size + 1 from by simp)
  clear h
  go_enter Try.func29, Try.ntmps29
  go_wp2_with fail
  generalize w.alloc (.cells #[.int .i64 c.n, .slice aF c.fr.length kF, .slice aT c.to.length kT, .slice aI c.id.length kI, .slice aC c.cm.length kC] 28) = w1 at *
  generalize w.heap.size = b at *
  have c0 := V.c0
  have c1 := V.c1
  have c2 := V.c2
  have c3 := V.c3
  have c4 := V.c4
  clear c0 c1 c2 c3 c4
  refine (c_arrowCode (V.pc.kept (bel_box _ _)) (IS.lit2v' hf hg _ ZB.out)).mono ?_
  rintro e w2 ⟨rfl, b2⟩
  replace b2 := bel_next (bel_box w1 _) b2
  by_cases hc : codeA c [f, g] = 0
  · obtain ⟨C, fA, gA⟩ := codeA_two hc
    have S := C.s
    have hcb : (codeA c [f, g] != 0) = false := by simp [hc]
    have HC := Lib.hid hc
    clear hc hf hg C
    go_wp2_with fail
    refine (c_then (V.kept b2).pc S fA gA).mono ?_
    rintro e w3 ⟨rfl, d3⟩
    have b3 := bel_next b2 d3.bel0
    by_cases hm : c.M f g < 0
    · have hmb : decide (c.M f g < 0) = true := by simp [hm]
      have HM := Lib.hid hm
      clear hm S
      go_wp2_with fail
      go_ret2
      exact ⟨ret_ii (by rw [compR, if_pos HC.out, if_pos HM.out]), B.next b3⟩
    · have hmb : decide (c.M f g < 0) = false := by simp; omega
      have HM := Lib.hid hm
      clear hm S
      go_wp2_with fail
      go_ret2
      exact ⟨ret_ii (by rw [compR, if_pos HC.out, if_neg (by have := HM.out; omega)]), B.next b3⟩
  · have hcb : (codeA c [f, g] != 0) = true := by simp [hc]
    have HC := Lib.hid hc
    clear hc
    go_wp2_with fail
    go_ret2
    exact ⟨ret_ii (by rw [compR, if_neg HC.out]), B.next b2⟩
theorem s_CompositeOf {w : World} {v : Value} {c : Cat} (h : IC w v c) (f : Int) (hf : I64 f) (g : Int) (hg : I64 g) : Calls Try.prog 28 #[v, .int .i64 f, .int .i64 g] w (Ret w (.tuple #[.int .i64 (compR c f g).1, .int .i64 (compR c f g).2])) := by
  obtain ⟨aF, aT, aI, aC, bF, oF, kF, bT, oT, kT, bI, oI, kI, bC, oC, kC, bR, oR, kR, rfl, V⟩ := h.boxed 28
  have B : Bel w (w.alloc (.cells #[.int .i64 c.n, .slice aF c.fr.length kF, .slice aT c.to.length kT, .slice aI c.id.length kI, .slice aC c.cm.length kC] 28)) := bel_box w _
  have ZB := Lib.hid (show (w.alloc (.cells #[.int .i64 c.n, .slice aF c.fr.length kF, .slice aT c.to.length kT, .slice aI c.id.length kI, .slice aC c.cm.length kC] 28)).heap.size = w.heap.size + 1 from by simp)
  clear h
  go_enter Try.func28, Try.ntmps28
  go_wp2_with fail
  generalize w.alloc (.cells #[.int .i64 c.n, .slice aF c.fr.length kF, .slice aT c.to.length kT, .slice aI c.id.length kI, .slice aC c.cm.length kC] 28) = w1 at *
  generalize w.heap.size = b at *
  have c0 := V.c0
  have c1 := V.c1
  have c2 := V.c2
  have c3 := V.c3
  have c4 := V.c4
  clear c0 c1 c2 c3 c4
  refine (c_l02Arrows (V.ic.kept (bel_box _ _)) (IS.lit2v' hf hg _ ZB.out)).mono ?_
  rintro e w2 ⟨rfl, b2⟩
  replace b2 := bel_next (bel_box w1 _) b2
  by_cases hc : codeA c [f, g] = 0
  · obtain ⟨C, fA, gA⟩ := codeA_two hc
    have S := C.s
    have hcb : (codeA c [f, g] != 0) = false := by simp [hc]
    have HC := Lib.hid hc
    clear hc hf hg C
    obtain ⟨rfl, rfl, rfl, rfl⟩ := V.som S (by have := fA.1; have := fA.2; unfold Cat.m at this; omega)
    have V2 := V.kept b2
    have c0 := V2.c0
    have c1 := V2.c1
    have c2 := V2.c2
    have c3 := V2.c3
    have c4 := V2.c4
    have cT := V2.cT S fA
    have cF := V2.cF gA
    have q1 := fA.1
    have q2 := gA.1
    have q3 : f < (c.to.length : Int) := by rw [S.tl]; exact fA.2
    have q4 : g < (c.fr.length : Int) := gA.2
    have HN := Lib.hid (ne_neg S fA gA)
    by_cases ht : c.T f = c.F g
    · have htb : (c.T f != c.F g) = false := by simp [ht]
      have HT := Lib.hid ht
      clear ht
      go_wp2_with fail
      go_quiet (fail)
      have d3 := Drawn.step (Drawn.refl w2) nq
      have V3 := V2.drawn d3
      try clear c0
      try clear c1
      try clear c2
      try clear c3
      try clear c4
      generalize w2.drewN nq = w3 at *
      have c0 := V3.c0
      have c1 := V3.c1
      have c2 := V3.c2
      have c3 := V3.c3
      have c4 := V3.c4
      go_wp2_with fail
      refine (c_l02Then V3.ic S fA gA).mono ?_
      rintro e w4 ⟨rfl, b4⟩
      clear c0 c1 c2 c3 c4 cT cF
      go_wp2_with fail
      go_ret2
      exact ⟨ret_ii (by rw [compR, if_pos HC.out, if_neg (fun q => HN.out.1 q HT.out)]), B.next (bel_next b2 (d3.bel b4))⟩
    · have htb : (c.T f != c.F g) = true := by simp [ht]
      have HT := Lib.hid ht
      clear ht
      go_wp2_with fail
      go_quiet (fail)
      go_wp2_with fail
      go_ret2
      exact ⟨ret_ii (by rw [compR, if_pos HC.out, if_pos (HN.out.2 HT.out)]), B.next (bel_next b2 (Drawn.bel0 (by repeat (first | exact Drawn.refl _ | refine Drawn.step ?_ _ | refine Drawn.one ?_))))⟩
  · have hcb : (codeA c [f, g] != 0) = true := by simp [hc]
    have HC := Lib.hid hc
    clear hc
    go_wp2_with fail
    go_ret2
    exact ⟨ret_ii (by rw [compR, if_neg HC.out]), B.next b2⟩
/-- What IsIdempotent returns. -/
noncomputable def idemR (c : Cat) (f : Int) : Bool × Int := if codeA c [f] = 0 then (c.M f f == f, 0) else (false, codeA c [f])
theorem i_IsIdempotent {w : World} {v : Value} {c : Cat} (h : IC w v c) (f : Int) (hf : I64 f) : Calls Try.prog 27 #[v, .int .i64 f] w (Ret w (.tuple #[.bool (idemR c f).1, .int .i64 (idemR c f).2])) := by
  obtain ⟨aF, aT, aI, aC, bF, oF, kF, bT, oT, kT, bI, oI, kI, bC, oC, kC, bR, oR, kR, rfl, V⟩ := h.boxed 28
  have B : Bel w (w.alloc (.cells #[.int .i64 c.n, .slice aF c.fr.length kF, .slice aT c.to.length kT, .slice aI c.id.length kI, .slice aC c.cm.length kC] 28)) := bel_box w _
  have ZB := Lib.hid (show (w.alloc (.cells #[.int .i64 c.n, .slice aF c.fr.length kF, .slice aT c.to.length kT, .slice aI c.id.length kI, .slice aC c.cm.length kC] 28)).heap.size = w.heap.size + 1 from by simp)
  clear h
  go_enter Try.func27, Try.ntmps27
  go_wp2_with fail
  generalize w.alloc (.cells #[.int .i64 c.n, .slice aF c.fr.length kF, .slice aT c.to.length kT, .slice aI c.id.length kI, .slice aC c.cm.length kC] 28) = w1 at *
  generalize w.heap.size = b at *
  have c0 := V.c0
  have c1 := V.c1
  have c2 := V.c2
  have c3 := V.c3
  have c4 := V.c4
  clear c0 c1 c2 c3 c4
  refine (c_arrowCode (V.pc.kept (bel_box _ _)) (IS.lit1v' hf _ ZB.out)).mono ?_
  rintro e w2 ⟨rfl, b2⟩
  replace b2 := bel_next (bel_box w1 _) b2
  by_cases hc : codeA c [f] = 0
  · obtain ⟨C, fA⟩ := codeA_one hc
    have S := C.s
    have hcb : (codeA c [f] != 0) = false := by simp [hc]
    have HC := Lib.hid hc
    clear hc hf C
    go_wp2_with fail
    refine (c_then (V.kept b2).pc S fA fA).mono ?_
    rintro e w3 ⟨rfl, d3⟩
    clear S
    go_wp2_with fail
    go_ret2
    exact ⟨ret_bi (by rw [idemR, if_pos HC.out]), B.next (bel_next b2 d3.bel0)⟩
  · have hcb : (codeA c [f] != 0) = true := by simp [hc]
    have HC := Lib.hid hc
    clear hc
    go_wp2_with fail
    go_ret2
    exact ⟨ret_bi (by rw [idemR, if_neg HC.out]), B.next b2⟩
theorem allIn_one (n f : Int) : allIn n [f] = (decide (f ≥ 0) && decide (f < n)) := by
  unfold allIn
  by_cases a : 0 ≤ f <;> by_cases b : f < n <;> simp [a, b]
theorem c_l05Arrow {w : World} {v : Value} {c : Cat} (h : IC w v c) (f : Int) : Calls Try.prog 82 #[v, .int .i64 f] w (Ret w (.bool (allIn c.m [f]))) := by
  by_cases h0 : f ≥ 0 <;> by_cases h1 : f < (c.fr.length : Int)
  all_goals
    have HN : Hid (allIn c.m [f] = (decide (f ≥ 0) && decide (f < (c.fr.length : Int)))) := allIn_one _ _
    have b0 : decide (f ≥ 0) = decide (0 ≤ f) := rfl
    obtain ⟨aF, aT, aI, aC, bF, oF, kF, bT, oT, kT, bI, oI, kI, bC, oC, kC, bR, oR, kR, rfl, V⟩ := h.boxed 28
    have B : Bel w (w.alloc (.cells #[.int .i64 c.n, .slice aF c.fr.length kF, .slice aT c.to.length kT, .slice aI c.id.length kI, .slice aC c.cm.length kC] 28)) := bel_box w _
    have ZB := Lib.hid (show (w.alloc (.cells #[.int .i64 c.n, .slice aF c.fr.length kF, .slice aT c.to.length kT, .slice aI c.id.length kI, .slice aC c.cm.length kC] 28)).heap.size = w.heap.size + 1 from by simp)
    clear h
    go_enter Try.func82, Try.ntmps82
    go_wp2_with fail
    generalize w.alloc (.cells #[.int .i64 c.n, .slice aF c.fr.length kF, .slice aT c.to.length kT, .slice aI c.id.length kI, .slice aC c.cm.length kC] 28) = w1 at *
    generalize w.heap.size = b at *
    have c0 := V.c0
    have c1 := V.c1
    have c2 := V.c2
    have c3 := V.c3
    have c4 := V.c4
    go_wp2_with fail
    go_ret
    exact ⟨ret_b (by rw [HN.out]; simp [*]), B.drawn (by repeat (first | exact Drawn.refl _ | refine Drawn.step ?_ _ | refine Drawn.one ?_))⟩
theorem c_l05Code {w : World} {v : Value} {c : Cat} (h : IC w v c) (f : Int) : Calls Try.prog 60 #[v, .int .i64 f] w (Ret w (.int .i64 (codeA c [f]))) := by
  by_cases hc : catB c = true
  · by_cases ha : allIn c.m [f] = true
    all_goals
      first | have HC := Lib.hid (codeA_ok hc ha) | have HC := Lib.hid (codeA_bad hc (by simpa using ha))
      try simp only [Bool.not_eq_true] at ha
      obtain ⟨aF, aT, aI, aC, bF, oF, kF, bT, oT, kT, bI, oI, kI, bC, oC, kC, bR, oR, kR, rfl, V⟩ := h.boxed 28
      have B : Bel w (w.alloc (.cells #[.int .i64 c.n, .slice aF c.fr.length kF, .slice aT c.to.length kT, .slice aI c.id.length kI, .slice aC c.cm.length kC] 28)) := bel_box w _
      have ZB := Lib.hid (show (w.alloc (.cells #[.int .i64 c.n, .slice aF c.fr.length kF, .slice aT c.to.length kT, .slice aI c.id.length kI, .slice aC c.cm.length kC] 28)).heap.size = w.heap.size + 1 from by simp)
      clear h
      go_enter Try.func60, Try.ntmps60
      go_wp2_with fail
      generalize w.alloc (.cells #[.int .i64 c.n, .slice aF c.fr.length kF, .slice aT c.to.length kT, .slice aI c.id.length kI, .slice aC c.cm.length kC] 28) = w1 at *
      generalize w.heap.size = b at *
      have c0 := V.c0
      have c1 := V.c1
      have c2 := V.c2
      have c3 := V.c3
      have c4 := V.c4
      refine (c_l02Is V.ic).mono ?_
      rintro e w2 ⟨rfl, b2⟩
      have V2 := V.kept b2
      clear c0 c1 c2 c3 c4
      have c0 := V2.c0
      have c1 := V2.c1
      have c2 := V2.c2
      have c3 := V2.c3
      have c4 := V2.c4
      go_wp2_with fail
      refine (c_l05Arrow V2.ic f).mono ?_
      rintro e w3 ⟨rfl, b3⟩
      clear c0 c1 c2 c3 c4
      go_wp2_with fail
      go_ret
      exact ⟨ret_i HC.out, B.next (bel_next b2 b3)⟩
  · have hn : catB c = false := by simpa using hc
    have HC := Lib.hid (codeA_no (xs := [f]) hn)
    clear hc
    obtain ⟨aF, aT, aI, aC, bF, oF, kF, bT, oT, kT, bI, oI, kI, bC, oC, kC, bR, oR, kR, rfl, V⟩ := h.boxed 28
    have B : Bel w (w.alloc (.cells #[.int .i64 c.n, .slice aF c.fr.length kF, .slice aT c.to.length kT, .slice aI c.id.length kI, .slice aC c.cm.length kC] 28)) := bel_box w _
    have ZB := Lib.hid (show (w.alloc (.cells #[.int .i64 c.n, .slice aF c.fr.length kF, .slice aT c.to.length kT, .slice aI c.id.length kI, .slice aC c.cm.length kC] 28)).heap.size = w.heap.size + 1 from by simp)
    clear h
    go_enter Try.func60, Try.ntmps60
    go_wp2_with fail
    generalize w.alloc (.cells #[.int .i64 c.n, .slice aF c.fr.length kF, .slice aT c.to.length kT, .slice aI c.id.length kI, .slice aC c.cm.length kC] 28) = w1 at *
    generalize w.heap.size = b at *
    have c0 := V.c0
    have c1 := V.c1
    have c2 := V.c2
    have c3 := V.c3
    have c4 := V.c4
    refine (c_l02Is V.ic).mono ?_
    rintro e w2 ⟨rfl, b2⟩
    clear c0 c1 c2 c3 c4
    go_wp2_with fail
    go_ret
    exact ⟨ret_i HC.out, B.next b2⟩
theorem c_l05Idempotent {w : World} {v : Value} {c : Cat} (h : IC w v c) (S : Shape c) {f : Int} (fA : c.Arr f) : Calls Try.prog 61 #[v, .int .i64 f] w (Ret w (.bool (c.M f f == f))) := by
  have HN := Lib.hid (ne_neg S fA fA)
  by_cases ht : c.F f = c.T f
  all_goals
    first | have htb : (c.F f == c.T f) = true := by simp [ht] | have htb : (c.F f == c.T f) = false := by simp [ht]
    have HT := Lib.hid ht
    clear ht
    obtain ⟨aF, aT, aI, aC, bF, oF, kF, bT, oT, kT, bI, oI, kI, bC, oC, kC, bR, oR, kR, rfl, V⟩ := h.boxed 28
    have B : Bel w (w.alloc (.cells #[.int .i64 c.n, .slice aF c.fr.length kF, .slice aT c.to.length kT, .slice aI c.id.length kI, .slice aC c.cm.length kC] 28)) := bel_box w _
    have ZB := Lib.hid (show (w.alloc (.cells #[.int .i64 c.n, .slice aF c.fr.length kF, .slice aT c.to.length kT, .slice aI c.id.length kI, .slice aC c.cm.length kC] 28)).heap.size = w.heap.size + 1 from by simp)
    clear h
    go_enter Try.func61, Try.ntmps61
    go_wp2_with fail
    generalize w.alloc (.cells #[.int .i64 c.n, .slice aF c.fr.length kF, .slice aT c.to.length kT, .slice aI c.id.length kI, .slice aC c.cm.length kC] 28) = w1 at *
    generalize w.heap.size = b at *
    have c0 := V.c0
    have c1 := V.c1
    have c2 := V.c2
    have c3 := V.c3
    have c4 := V.c4
    clear c0 c1 c2 c3 c4
    obtain ⟨rfl, rfl, rfl, rfl⟩ := V.som S (by have := fA.1; have := fA.2; unfold Cat.m at this; omega)
    have c0 := V.c0
    have c1 := V.c1
    have c2 := V.c2
    have c3 := V.c3
    have c4 := V.c4
    have cT := V.cT S fA
    have cF := V.cF fA
    have cR := V.row S fA
    have cM := V.cM S fA fA
    have q1 := fA.1
    have q3 : f < (c.to.length : Int) := by rw [S.tl]; exact fA.2
    have q4 : f < (c.fr.length : Int) := fA.2
    have q5 : f < (c.cm.length : Int) := by rw [S.cl]; exact fA.2
    go_wp2_with fail
    go_quiet (fail)
    go_wp2_with fail
    go_ret
    refine ⟨?_, B.drawn (by repeat (first | exact Drawn.refl _ | refine Drawn.step ?_ _ | refine Drawn.one ?_))⟩
    first
      | rfl
      | (refine ret_b ?_
         have := HN.out.2 (fun q => HT.out q.symm)
         have h2 : c.M f f ≠ f := by omega
         simp [h2])
theorem s_IsIdempotent {w : World} {v : Value} {c : Cat} (h : IC w v c) (f : Int) (_ : I64 f) : Calls Try.prog 26 #[v, .int .i64 f] w (Ret w (.tuple #[.bool (idemR c f).1, .int .i64 (idemR c f).2])) := by
  obtain ⟨aF, aT, aI, aC, bF, oF, kF, bT, oT, kT, bI, oI, kI, bC, oC, kC, bR, oR, kR, rfl, V⟩ := h.boxed 28
  have B : Bel w (w.alloc (.cells #[.int .i64 c.n, .slice aF c.fr.length kF, .slice aT c.to.length kT, .slice aI c.id.length kI, .slice aC c.cm.length kC] 28)) := bel_box w _
  have ZB := Lib.hid (show (w.alloc (.cells #[.int .i64 c.n, .slice aF c.fr.length kF, .slice aT c.to.length kT, .slice aI c.id.length kI, .slice aC c.cm.length kC] 28)).heap.size = w.heap.size + 1 from by simp)
  clear h
  go_enter Try.func26, Try.ntmps26
  go_wp2_with fail
  generalize w.alloc (.cells #[.int .i64 c.n, .slice aF c.fr.length kF, .slice aT c.to.length kT, .slice aI c.id.length kI, .slice aC c.cm.length kC] 28) = w1 at *
  generalize w.heap.size = b at *
  have c0 := V.c0
  have c1 := V.c1
  have c2 := V.c2
  have c3 := V.c3
  have c4 := V.c4
  refine (c_l05Code V.ic f).mono ?_
  rintro e w2 ⟨rfl, b2⟩
  have V2 := V.kept b2
  clear c0 c1 c2 c3 c4
  by_cases hc : codeA c [f] = 0
  · obtain ⟨C, fA⟩ := codeA_one hc
    have S := C.s
    have hcb : (codeA c [f] != 0) = false := by simp [hc]
    have HC := Lib.hid hc
    clear hc C
    have c0 := V2.c0
    have c1 := V2.c1
    have c2 := V2.c2
    have c3 := V2.c3
    have c4 := V2.c4
    go_wp2_with fail
    refine (c_l05Idempotent V2.ic S fA).mono ?_
    rintro e w3 ⟨rfl, b3⟩
    clear c0 c1 c2 c3 c4
    go_wp2_with fail
    go_ret2
    exact ⟨ret_bi (by rw [idemR, if_pos HC.out]), B.next (bel_next b2 b3)⟩
  · have hcb : (codeA c [f] != 0) = true := by simp [hc]
    have HC := Lib.hid hc
    clear hc
    go_wp2_with fail
    go_ret2
    exact ⟨ret_bi (by rw [idemR, if_neg HC.out]), B.next b2⟩
/-- The hom set of two objects. -/
def homP (c : Cat) (x y : Int) (f : Nat) : Bool := decide (c.F f = x ∧ c.T f = y)
def homL (c : Cat) (x y : Int) : List Int := sel (homP c x y) c.fr.length
theorem c_hom {w1 : World} {b : Nat} {c : Cat} (P : PC w1 b c) (hT : c.to.length = c.fr.length) (x y : Int) : Calls Try.prog 76 #[.pointer (some ⟨b, 0, none⟩), .int .i64 x, .int .i64 y] w1 (Mk w1 fun w' u => OwnT 2 w1.heap.size w'.heap.size w' u (homL c x y)) := by
  obtain ⟨aF, aT, aI, aC, bF, oF, kF, bT, oT, kT, bI, oI, kI, bC, oC, kC, bR, oR, kR, V⟩ := P.opens
  have lF := V.iF.len
  have hTl : c.to.length ≤ c.fr.length ∧ c.fr.length ≤ c.to.length := by omega
  have c1 := V.c1
  have lb : b < w1.heap.size := World.block_lt_of_cell? _ _ c1
  clear P hT
  go_enter Try.func76, Try.ntmps76
  go_wp2_with fail
  clear c1
  go_loopw [7, 8, 15] (fun out _ i wr => ∃ (k : Nat) (os : List Int), k ≤ c.fr.length ∧ i = .int .i64 k ∧ Below w1.heap.size w1 wr ∧ Own 2 wr w1.heap.size out os ∧ os.length ≤ k ∧ Hid (os = sel (homP c x y) k)) (fun _ _ i _ => c.fr.length - (intOf i).toNat)
  case atStart => exact ⟨0, [], Nat.zero_le _, rfl, bel_alloc (Below.refl _ _) _, Own.empty _ _ _ (Nat.le_refl _), Nat.le_refl _, rfl⟩
  case round =>
    obtain ⟨k, os, hk, rfl, hb, ho, hol, hp⟩ := hrel
    have c1 := (V.kept hb).c1
    by_cases hlt : k < c.fr.length
    · have hw0 := hb.size
      obtain rfl := V.gF (by omega)
      obtain rfl := V.gT (by omega)
      have c2 := (V.kept hb).c2
      have cF := (V.kept hb).F k (by omega) (by omega)
      have cT := (V.kept hb).T k (by omega) (by omega)
      simp only [Int.toNat_natCast] at cF cT
      have l2 : k < c.to.length := by omega
      by_cases hx : c.F k = x
      · have hxb : (c.F k == x) = true := by simp [hx]
        have HX := Lib.hid hx
        clear hx
        by_cases hy : c.T k = y
        · have hyb : (c.T k == y) = true := by simp [hy]
          have HY := Lib.hid hy
          clear hy
          go_wp2_with (at_builtin; refine hold ?_)
          refine app1 ho (by constructor <;> omega) (by omega) (by first | omega | (simp; omega)) Try.underlying22 infoInt64 (by rfl) _ _ (by rfl) (by rfl) (by rfl) ?_
          intro v' w2 ho2 g2
          have hb2 := g2.below hb (by first | omega | (simp; omega)) (fun k hk => (ho.lt k hk).1)
          clear ho g2 hb c1 c2 cF cT
          go_wp2_with fail
          go_roundw
          case rel => exact ⟨k + 1, _, by omega, by go_num, hb2, ho2, by simp; omega, by unfold Hid; rw [sel_yes (by simp [homP, HX.out, HY.out]), ← hp.out]⟩
          case measure => simp [intOf]; omega
        · have hyb : (c.T k == y) = false := by simp [hy]
          have HY := Lib.hid hy
          clear hy
          go_wp2_with fail
          go_roundw
          case rel => exact ⟨k + 1, _, by omega, by go_num, hb, ho, by omega, by unfold Hid; rw [sel_no (by simp [homP, HY.out]), ← hp.out]⟩
          case measure => simp [intOf]; omega
      · have hxb : (c.F k == x) = false := by simp [hx]
        have HX := Lib.hid hx
        clear hx
        go_wp2_with fail
        go_roundw
        case rel => exact ⟨k + 1, _, by omega, by go_num, hb, ho, by omega, by unfold Hid; rw [sel_no (by simp [homP, HX.out]), ← hp.out]⟩
        case measure => simp [intOf]; omega
    · have hke : c.fr.length = k := by omega
      have HE : Hid (os = homL c x y) := by unfold Hid homL; rw [hke]; exact hp.out
      have hkb : decide ((k : Int) < (c.fr.length : Int)) = false := by simp; omega
      go_wp2_with fail
      go_ret
      refine ⟨_, rfl, ?_, hb⟩
      rw [← HE.out]
      exact (ho).top
theorem c_l02Hom {w : World} {v : Value} {c : Cat} (h : IC w v c) (hT : c.to.length = c.fr.length) (x y : Int) : Calls Try.prog 74 #[v, .int .i64 x, .int .i64 y] w (Mk w fun w' u => OwnT 2 w.heap.size w'.heap.size w' u (homL c x y)) := by
  have lF := h.lF
  have hTl : c.to.length ≤ c.fr.length ∧ c.fr.length ≤ c.to.length := by omega
  clear hT
  obtain ⟨aF, aT, aI, aC, bF, oF, kF, bT, oT, kT, bI, oI, kI, bC, oC, kC, bR, oR, kR, rfl, V⟩ := h.boxed 28
  have B : Bel w (w.alloc (.cells #[.int .i64 c.n, .slice aF c.fr.length kF, .slice aT c.to.length kT, .slice aI c.id.length kI, .slice aC c.cm.length kC] 28)) := bel_box w _
  have ZB := Lib.hid (show (w.alloc (.cells #[.int .i64 c.n, .slice aF c.fr.length kF, .slice aT c.to.length kT, .slice aI c.id.length kI, .slice aC c.cm.length kC] 28)).heap.size = w.heap.size + 1 from by simp)
  clear h
  go_enter Try.func74, Try.ntmps74
  go_wp2_with fail
  generalize w.alloc (.cells #[.int .i64 c.n, .slice aF c.fr.length kF, .slice aT c.to.length kT, .slice aI c.id.length kI, .slice aC c.cm.length kC] 28) = w1 at *
  generalize w.heap.size = b at *
  have c0 := V.c0
  have c1 := V.c1
  have c2 := V.c2
  have c3 := V.c3
  have c4 := V.c4
  clear c0 c1 c2 c3 c4
  have HB : Hid (w.heap.size ≤ w1.heap.size) := B.size
  try go_wp2_with fail
  go_loopw [7, 8] (fun out i wr => ∃ (k : Nat) (os : List Int), k ≤ c.fr.length ∧ i = .int .i64 k ∧ Below w1.heap.size w1 wr ∧ Own 2 wr w1.heap.size out os ∧ os.length ≤ k ∧ Hid (os = sel (homP c x y) k)) (fun _ i _ => c.fr.length - (intOf i).toNat)
  case atStart => exact ⟨0, [], Nat.zero_le _, rfl, bel_alloc (Below.refl _ _) _, Own.empty' (Nat.le_refl _) ZB.out, Nat.le_refl _, rfl⟩
  case round =>
    obtain ⟨k, os, hk, rfl, hb, ho, hol, hp⟩ := hrel
    have c1 := (V.kept hb).c1
    by_cases hlt : k < c.fr.length
    · have hw0 := hb.size
      obtain rfl := V.gF (by omega)
      obtain rfl := V.gT (by omega)
      have c2 := (V.kept hb).c2
      have cF := (V.kept hb).F k (by omega) (by omega)
      have cT := (V.kept hb).T k (by omega) (by omega)
      simp only [Int.toNat_natCast] at cF cT
      have l2 : k < c.to.length := by omega
      by_cases hx : c.F k = x
      · have hxb : (c.F k == x) = true := by simp [hx]
        have HX := Lib.hid hx
        clear hx
        by_cases hy : c.T k = y
        · have hyb : (c.T k == y) = true := by simp [hy]
          have HY := Lib.hid hy
          clear hy
          go_wp2_with (at_builtin; refine hold ?_)
          refine app1 ho (by constructor <;> omega) (by omega) (by first | omega | (simp; omega)) Try.underlying22 infoInt64 (by rfl) _ _ (by rfl) (by rfl) (by rfl) ?_
          intro v' w2 ho2 g2
          have hb2 := g2.below hb (by first | omega | (simp; omega)) (fun k hk => (ho.lt k hk).1)
          clear ho g2 hb c1 c2 cF cT
          go_wp2_with fail
          go_roundw
          case rel => exact ⟨k + 1, _, by omega, by go_num, hb2, ho2, by simp; omega, by unfold Hid; rw [sel_yes (by simp [homP, HX.out, HY.out]), ← hp.out]⟩
          case measure => simp [intOf]; omega
        · have hyb : (c.T k == y) = false := by simp [hy]
          have HY := Lib.hid hy
          clear hy
          go_wp2_with fail
          go_roundw
          case rel => exact ⟨k + 1, _, by omega, by go_num, hb, ho, by omega, by unfold Hid; rw [sel_no (by simp [homP, HY.out]), ← hp.out]⟩
          case measure => simp [intOf]; omega
      · have hxb : (c.F k == x) = false := by simp [hx]
        have HX := Lib.hid hx
        clear hx
        go_wp2_with fail
        go_roundw
        case rel => exact ⟨k + 1, _, by omega, by go_num, hb, ho, by omega, by unfold Hid; rw [sel_no (by simp [homP, HX.out]), ← hp.out]⟩
        case measure => simp [intOf]; omega
    · have hke : c.fr.length = k := by omega
      have HE : Hid (os = homL c x y) := by unfold Hid homL; rw [hke]; exact hp.out
      have hkb : decide ((k : Int) < (c.fr.length : Int)) = false := by simp; omega
      go_wp2_with fail
      go_ret
      refine ⟨_, rfl, ?_, B.next hb⟩
      rw [← HE.out]
      exact (ho.base HB.out).top
/-- What HomSet returns. -/
noncomputable def homR (c : Cat) (x y : Int) : List Int × Int := if codeO c [x, y] = 0 then (homL c x y, 0) else ([], codeO c [x, y])
theorem i_HomSet {w : World} {v : Value} {c : Cat} (h : IC w v c) (x : Int) (hx : I64 x) (y : Int) (hy : I64 y) : Calls Try.prog 44 #[v, .int .i64 x, .int .i64 y] w (Mk2 2 w (homR c x y)) := by
  obtain ⟨aF, aT, aI, aC, bF, oF, kF, bT, oT, kT, bI, oI, kI, bC, oC, kC, bR, oR, kR, rfl, V⟩ := h.boxed 28
  have B : Bel w (w.alloc (.cells #[.int .i64 c.n, .slice aF c.fr.length kF, .slice aT c.to.length kT, .slice aI c.id.length kI, .slice aC c.cm.length kC] 28)) := bel_box w _
  have ZB := Lib.hid (show (w.alloc (.cells #[.int .i64 c.n, .slice aF c.fr.length kF, .slice aT c.to.length kT, .slice aI c.id.length kI, .slice aC c.cm.length kC] 28)).heap.size = w.heap.size + 1 from by simp)
  clear h
  go_enter Try.func44, Try.ntmps44
  go_wp2_with fail
  generalize w.alloc (.cells #[.int .i64 c.n, .slice aF c.fr.length kF, .slice aT c.to.length kT, .slice aI c.id.length kI, .slice aC c.cm.length kC] 28) = w1 at *
  generalize w.heap.size = b at *
  have c0 := V.c0
  have c1 := V.c1
  have c2 := V.c2
  have c3 := V.c3
  have c4 := V.c4
  clear c0 c1 c2 c3 c4
  refine (c_objectCode (V.pc.kept (bel_box _ _)) (IS.lit2v' hx hy _ ZB.out)).mono ?_
  rintro e w2 ⟨rfl, b2⟩
  replace b2 := bel_next (bel_box w1 _) b2
  by_cases hc : codeO c [x, y] = 0
  · obtain ⟨C, -, -⟩ := codeO_two hc
    have S := C.s
    have hcb : (codeO c [x, y] != 0) = false := by simp [hc]
    have HC := Lib.hid hc
    clear hc hx hy C
    go_wp2_with fail
    refine (c_hom (V.kept b2).pc S.tl x y).mono ?_
    rintro e w3 ⟨u, rfl, o3, b3⟩
    have HB : Hid (w.heap.size ≤ w2.heap.size) := (B.next b2).size
    clear S
    go_wp2_with fail
    go_ret2
    exact mk2_own (by rw [homR, if_pos HC.out]) (o3.own.base HB.out) (B.next (bel_next b2 b3))
  · have hcb : (codeO c [x, y] != 0) = true := by simp [hc]
    have HC := Lib.hid hc
    clear hc
    go_wp2_with fail
    go_ret2
    exact mk2_nil (by rw [homR, if_neg HC.out]) (B.next b2)
theorem s_HomSet {w : World} {v : Value} {c : Cat} (h : IC w v c) (x : Int) (hx : I64 x) (y : Int) (hy : I64 y) : Calls Try.prog 43 #[v, .int .i64 x, .int .i64 y] w (Mk2 2 w (homR c x y)) := by
  obtain ⟨aF, aT, aI, aC, bF, oF, kF, bT, oT, kT, bI, oI, kI, bC, oC, kC, bR, oR, kR, rfl, V⟩ := h.boxed 28
  have B : Bel w (w.alloc (.cells #[.int .i64 c.n, .slice aF c.fr.length kF, .slice aT c.to.length kT, .slice aI c.id.length kI, .slice aC c.cm.length kC] 28)) := bel_box w _
  have ZB := Lib.hid (show (w.alloc (.cells #[.int .i64 c.n, .slice aF c.fr.length kF, .slice aT c.to.length kT, .slice aI c.id.length kI, .slice aC c.cm.length kC] 28)).heap.size = w.heap.size + 1 from by simp)
  clear h
  go_enter Try.func43, Try.ntmps43
  go_wp2_with fail
  generalize w.alloc (.cells #[.int .i64 c.n, .slice aF c.fr.length kF, .slice aT c.to.length kT, .slice aI c.id.length kI, .slice aC c.cm.length kC] 28) = w1 at *
  generalize w.heap.size = b at *
  have c0 := V.c0
  have c1 := V.c1
  have c2 := V.c2
  have c3 := V.c3
  have c4 := V.c4
  clear c0 c1 c2 c3 c4
  refine (c_l02Objects (V.ic.kept (bel_box _ _)) (IS.lit2v' hx hy _ ZB.out)).mono ?_
  rintro e w2 ⟨rfl, b2⟩
  replace b2 := bel_next (bel_box w1 _) b2
  by_cases hc : codeO c [x, y] = 0
  · obtain ⟨C, -, -⟩ := codeO_two hc
    have S := C.s
    have hcb : (codeO c [x, y] != 0) = false := by simp [hc]
    have HC := Lib.hid hc
    clear hc hx hy C
    have V2 := V.kept b2
    have c0 := V2.c0
    have c1 := V2.c1
    have c2 := V2.c2
    have c3 := V2.c3
    have c4 := V2.c4
    go_wp2_with fail
    refine (c_l02Hom V2.ic S.tl x y).mono ?_
    rintro e w3 ⟨u, rfl, o3, b3⟩
    have HB : Hid (w.heap.size ≤ w2.heap.size) := (B.next b2).size
    clear S c0 c1 c2 c3 c4
    go_wp2_with fail
    go_ret2
    exact mk2_own (by rw [homR, if_pos HC.out]) (o3.own.base HB.out) (B.next (bel_next b2 b3))
  · have hcb : (codeO c [x, y] != 0) = true := by simp [hc]
    have HC := Lib.hid hc
    clear hc
    go_wp2_with fail
    go_ret2
    exact mk2_nil (by rw [homR, if_neg HC.out]) (B.next b2)
end Go.Proofs.Ytampdoccljkdhaa
