/-
  Chapter 2: the tests of a category and its numbers: isCategory, arrowCode, objectCode of the program; l02Is, l02Arrows, l02Objects, l05Code of the reference; IsCategory, FirstFault.
-/
import Derived.Test.YtkmkbmhpdnddnaaCat4
namespace Go.Proofs.Ytkmkbmhpdnddnaa
open Go.RowKit

theorem catB_shape {c : Cat} (h : ¬ shapeB c = true) : catB c = false := catB_f fun C => h (shapeB_t C.s)
theorem c_isCategory {w : World} {b : Nat} {c : Cat} (P : PC w b c) : Calls Try.prog 49 #[.pointer (some ⟨b, 0, none⟩)] w (Ret w (.bool (catB c))) := by
  have HP := Lib.hid P
  clear P
  by_cases hs : shapeB c = true
  · have S := shapeB_s hs
    go_enter Try.func49, Try.ntmps49
    go_wp2_with fail
    refine (c_isShape HP.out).mono ?_
    rintro e w1 ⟨rfl, b1⟩
    go_wp2_with fail
    refine (c_fault (HP.out.kept b1) S).mono ?_
    rintro e w2 ⟨⟨k1, k2, k3, k4⟩, hf, rfl, b2⟩
    have HF := Lib.hid (fault_kind S hf)
    clear hf
    simp only [tup4]
    go_wp2_with fail
    go_ret
    exact ⟨ret_b HF.out.symm, bel_next b1 b2⟩
  · have hn : shapeB c = false := by simpa using hs
    have HC := Lib.hid (catB_shape hs)
    go_enter Try.func49, Try.ntmps49
    go_wp2_with fail
    refine (c_isShape HP.out).mono ?_
    rintro e w1 ⟨rfl, b1⟩
    go_wp2_with fail
    go_ret
    exact ⟨ret_b HC.out, b1⟩
theorem ret_t5 {r s : Int × Int × Int × Int × Int} (h : r = s) : Ending.returned (.tuple #[.int .i64 s.1, .int .i64 s.2.1, .int .i64 s.2.2.1, .int .i64 s.2.2.2.1, .int .i64 s.2.2.2.2]) = .returned (.tuple #[.int .i64 r.1, .int .i64 r.2.1, .int .i64 r.2.2.1, .int .i64 r.2.2.2.1, .int .i64 r.2.2.2.2]) := by rw [h]
theorem firstFault_of {c : Cat} {r : Int × Int × Int × Int} (S : shapeB c = true) (h : FaultIs c r) : firstFault c = (r.1, r.2.1, r.2.2.1, r.2.2.2, 0) := by
  unfold firstFault; rw [if_pos S, faultOf_eq h]
theorem firstFault_no {c : Cat} (S : ¬ shapeB c = true) : firstFault c = (0, 0, 0, 0, 1) := by
  unfold firstFault; rw [if_neg S]
/-- The end of FirstFault. -/
def FF (c : Cat) (w : World) : Ending → World → Prop := fun e w' => e = .returned (.tuple #[.int .i64 (firstFault c).1, .int .i64 (firstFault c).2.1, .int .i64 (firstFault c).2.2.1, .int .i64 (firstFault c).2.2.2.1, .int .i64 (firstFault c).2.2.2.2]) ∧ Below w.heap.size w w'
theorem c_l02Is {w : World} {v : Value} {c : Cat} (h : IC w v c) : Calls Try.prog 45 #[v] w (Ret w (.bool (catB c))) := by
  by_cases hs : shapeB c = true
  · have S := shapeB_s hs
    obtain ⟨aF, aT, aI, aC, bF, oF, kF, bT, oT, kT, bI, oI, kI, bC, oC, kC, bR, oR, kR, rfl, V⟩ := h.boxed 29
    have B : Bel w (w.alloc (.cells #[.int .i64 c.n, .slice aF c.fr.length kF, .slice aT c.to.length kT, .slice aI c.id.length kI, .slice aC c.cm.length kC] 29)) := bel_box w _
    have ZB := Lib.hid (show (w.alloc (.cells #[.int .i64 c.n, .slice aF c.fr.length kF, .slice aT c.to.length kT, .slice aI c.id.length kI, .slice aC c.cm.length kC] 29)).heap.size = w.heap.size + 1 from by simp)
    clear h
    go_enter Try.func45, Try.ntmps45
    go_wp2_with fail
    generalize w.alloc (.cells #[.int .i64 c.n, .slice aF c.fr.length kF, .slice aT c.to.length kT, .slice aI c.id.length kI, .slice aC c.cm.length kC] 29) = w1 at *
    generalize w.heap.size = b at *
    have c0 := V.c0
    have c1 := V.c1
    have c2 := V.c2
    have c3 := V.c3
    have c4 := V.c4
    refine (s_IsShape V.ic).mono ?_
    rintro e w2 ⟨rfl, b2⟩
    have V2 := V.kept b2
    clear c0 c1 c2 c3 c4
    have c0 := V2.c0
    have c1 := V2.c1
    have c2 := V2.c2
    have c3 := V2.c3
    have c4 := V2.c4
    go_wp2_with fail
    refine (c_l02Fault V2.ic S).mono ?_
    rintro e w3 ⟨⟨k1, k2, k3, k4⟩, hf, rfl, b3⟩
    have HF := Lib.hid (fault_kind S hf)
    clear hf c0 c1 c2 c3 c4
    simp only [tup4]
    go_wp2_with fail
    go_ret
    exact ⟨ret_b HF.out.symm, B.next (bel_next b2 b3)⟩
  · have hn : shapeB c = false := by simpa using hs
    have HC := Lib.hid (catB_shape hs)
    clear hs
    obtain ⟨aF, aT, aI, aC, bF, oF, kF, bT, oT, kT, bI, oI, kI, bC, oC, kC, bR, oR, kR, rfl, V⟩ := h.boxed 29
    have B : Bel w (w.alloc (.cells #[.int .i64 c.n, .slice aF c.fr.length kF, .slice aT c.to.length kT, .slice aI c.id.length kI, .slice aC c.cm.length kC] 29)) := bel_box w _
    have ZB := Lib.hid (show (w.alloc (.cells #[.int .i64 c.n, .slice aF c.fr.length kF, .slice aT c.to.length kT, .slice aI c.id.length kI, .slice aC c.cm.length kC] 29)).heap.size = w.heap.size + 1 from by simp)
    clear h
    go_enter Try.func45, Try.ntmps45
    go_wp2_with fail
    generalize w.alloc (.cells #[.int .i64 c.n, .slice aF c.fr.length kF, .slice aT c.to.length kT, .slice aI c.id.length kI, .slice aC c.cm.length kC] 29) = w1 at *
    generalize w.heap.size = b at *
    have c0 := V.c0
    have c1 := V.c1
    have c2 := V.c2
    have c3 := V.c3
    have c4 := V.c4
    refine (s_IsShape V.ic).mono ?_
    rintro e w2 ⟨rfl, b2⟩
    clear c0 c1 c2 c3 c4
    go_wp2_with fail
    go_ret
    exact ⟨ret_b HC.out, B.next b2⟩
/-- The code of a category and of numbers of arrows, of objects. -/
noncomputable def codeA (c : Cat) (xs : List Int) : Int := if catB c then (if allIn c.m xs then 0 else 2) else 1
noncomputable def codeO (c : Cat) (xs : List Int) : Int := if catB c then (if allIn c.n xs then 0 else 2) else 1
theorem codeA_no {c : Cat} {xs : List Int} (h : catB c = false) : codeA c xs = 1 := by simp [codeA, h]
theorem codeA_ok {c : Cat} {xs : List Int} (h : catB c = true) (h2 : allIn c.m xs = true) : codeA c xs = 0 := by simp [codeA, h, h2]
theorem codeA_bad {c : Cat} {xs : List Int} (h : catB c = true) (h2 : allIn c.m xs = false) : codeA c xs = 2 := by simp [codeA, h, h2]
theorem codeO_no {c : Cat} {xs : List Int} (h : catB c = false) : codeO c xs = 1 := by simp [codeO, h]
theorem codeO_ok {c : Cat} {xs : List Int} (h : catB c = true) (h2 : allIn c.n xs = true) : codeO c xs = 0 := by simp [codeO, h, h2]
theorem codeO_bad {c : Cat} {xs : List Int} (h : catB c = true) (h2 : allIn c.n xs = false) : codeO c xs = 2 := by simp [codeO, h, h2]
theorem c_arrowCode {w : World} {b : Nat} {c : Cat} {v : Value} {xs : List Int} (P : PC w b c) (h : IS w v xs) : Calls Try.prog 56 #[.pointer (some ⟨b, 0, none⟩), v] w (Ret w (.int .i64 (codeA c xs))) := by
  obtain ⟨ao, bb, o, cc, hv, -⟩ := h.ex
  have HP := Lib.hid P
  have HI := Lib.hid h
  clear P h
  subst hv
  by_cases hc : catB c = true
  · have S := (catB_s hc).s
    have m0 : 0 ≤ c.m := by unfold Cat.m; omega
    have m1 := S.m40
    by_cases ha : allIn c.m xs = true
    · have HC := Lib.hid (codeA_ok hc ha)
      go_enter Try.func56, Try.ntmps56
      go_wp2_with fail
      refine (c_isCategory HP.out).mono ?_
      rintro e w1 ⟨rfl, b1⟩
      go_wp2_with (first | (go_at_call 85; (with_reducible refine (c_arrows (HP.out.kept b1)).mono ?_); rintro e w' ⟨rfl, n1, rfl⟩) | (go_at_call 91; (with_reducible refine (c_within ((HI.out.kept b1).drawn (by repeat (first | exact Drawn.refl _ | refine Drawn.step ?_ _ | refine Drawn.one ?_))) c.m m0 (by omega)).mono ?_); rintro e w' ⟨rfl, n1, rfl⟩))
      go_ret
      exact ⟨ret_i HC.out, bel_next b1 (Drawn.bel0 (by repeat (first | exact Drawn.refl _ | refine Drawn.step ?_ _ | refine Drawn.one ?_)))⟩
    · have hn : allIn c.m xs = false := by simpa using ha
      have HC := Lib.hid (codeA_bad hc hn)
      clear ha
      go_enter Try.func56, Try.ntmps56
      go_wp2_with fail
      refine (c_isCategory HP.out).mono ?_
      rintro e w1 ⟨rfl, b1⟩
      go_wp2_with (first | (go_at_call 85; (with_reducible refine (c_arrows (HP.out.kept b1)).mono ?_); rintro e w' ⟨rfl, n1, rfl⟩) | (go_at_call 91; (with_reducible refine (c_within ((HI.out.kept b1).drawn (by repeat (first | exact Drawn.refl _ | refine Drawn.step ?_ _ | refine Drawn.one ?_))) c.m m0 (by omega)).mono ?_); rintro e w' ⟨rfl, n1, rfl⟩))
      go_ret
      exact ⟨ret_i HC.out, bel_next b1 (Drawn.bel0 (by repeat (first | exact Drawn.refl _ | refine Drawn.step ?_ _ | refine Drawn.one ?_)))⟩
  · have hn : catB c = false := by simpa using hc
    have HC := Lib.hid (codeA_no (xs := xs) hn)
    clear hc
    go_enter Try.func56, Try.ntmps56
    go_wp2_with fail
    refine (c_isCategory HP.out).mono ?_
    rintro e w1 ⟨rfl, b1⟩
    go_wp2_with fail
    go_ret
    exact ⟨ret_i HC.out, b1⟩
theorem c_l02Arrows {w : World} {u v : Value} {c : Cat} {xs : List Int} (h : IC w u c) (hx : IS w v xs) : Calls Try.prog 76 #[u, v] w (Ret w (.int .i64 (codeA c xs))) := by
  obtain ⟨ao, bb, o, cc, hv, -⟩ := hx.ex
  have HI := Lib.hid hx
  clear hx
  subst hv
  by_cases hc : catB c = true
  · by_cases ha : allIn c.m xs = true
    all_goals
      first | have HC := Lib.hid (codeA_ok hc ha) | have HC := Lib.hid (codeA_bad hc (by simpa using ha))
      try simp only [Bool.not_eq_true] at ha
      unfold Cat.m at ha
      obtain ⟨aF, aT, aI, aC, bF, oF, kF, bT, oT, kT, bI, oI, kI, bC, oC, kC, bR, oR, kR, rfl, V⟩ := h.boxed 29
      have B : Bel w (w.alloc (.cells #[.int .i64 c.n, .slice aF c.fr.length kF, .slice aT c.to.length kT, .slice aI c.id.length kI, .slice aC c.cm.length kC] 29)) := bel_box w _
      have ZB := Lib.hid (show (w.alloc (.cells #[.int .i64 c.n, .slice aF c.fr.length kF, .slice aT c.to.length kT, .slice aI c.id.length kI, .slice aC c.cm.length kC] 29)).heap.size = w.heap.size + 1 from by simp)
      clear h
      go_enter Try.func76, Try.ntmps76
      go_wp2_with fail
      generalize w.alloc (.cells #[.int .i64 c.n, .slice aF c.fr.length kF, .slice aT c.to.length kT, .slice aI c.id.length kI, .slice aC c.cm.length kC] 29) = w1 at *
      generalize w.heap.size = b at *
      have c0 := V.c0
      have c1 := V.c1
      have c2 := V.c2
      have c3 := V.c3
      have c4 := V.c4
      refine (c_l02Is V.ic).mono ?_
      rintro e w2 ⟨rfl, b2⟩
      clear c0 c1 c2 c3 c4
      have c1 := (V.kept b2).c1
      have B2 := B.next b2
      go_wp2_with (go_at_call 105; (with_reducible refine (c_l01Map ((HI.out.kept B2).drawn (by repeat (first | exact Drawn.refl _ | refine Drawn.step ?_ _ | refine Drawn.one ?_))) _).mono ?_); rintro e w' ⟨rfl, n1, rfl⟩)
      go_ret
      exact ⟨ret_i HC.out, bel_next B2 (Drawn.bel0 (by repeat (first | exact Drawn.refl _ | refine Drawn.step ?_ _ | refine Drawn.one ?_)))⟩
  · have hn : catB c = false := by simpa using hc
    have HC := Lib.hid (codeA_no (xs := xs) hn)
    clear hc
    obtain ⟨aF, aT, aI, aC, bF, oF, kF, bT, oT, kT, bI, oI, kI, bC, oC, kC, bR, oR, kR, rfl, V⟩ := h.boxed 29
    have B : Bel w (w.alloc (.cells #[.int .i64 c.n, .slice aF c.fr.length kF, .slice aT c.to.length kT, .slice aI c.id.length kI, .slice aC c.cm.length kC] 29)) := bel_box w _
    have ZB := Lib.hid (show (w.alloc (.cells #[.int .i64 c.n, .slice aF c.fr.length kF, .slice aT c.to.length kT, .slice aI c.id.length kI, .slice aC c.cm.length kC] 29)).heap.size = w.heap.size + 1 from by simp)
    clear h
    go_enter Try.func76, Try.ntmps76
    go_wp2_with fail
    generalize w.alloc (.cells #[.int .i64 c.n, .slice aF c.fr.length kF, .slice aT c.to.length kT, .slice aI c.id.length kI, .slice aC c.cm.length kC] 29) = w1 at *
    generalize w.heap.size = b at *
    have c0 := V.c0
    have c1 := V.c1
    have c2 := V.c2
    have c3 := V.c3
    have c4 := V.c4
    refine (c_l02Is V.ic).mono ?_
    rintro e w2 ⟨rfl, b2⟩
    clear c0 c1 c2 c3 c4
    go_wp2_with fail
    go_ret
    exact ⟨ret_i HC.out, B.next b2⟩
end Go.Proofs.Ytkmkbmhpdnddnaa
