/-
  Chapter 2: the reference's IsShape; IsShape of the program.
-/
import Derived.Test.YtkmkbmhpdnddnaaCat2
namespace Go.Proofs.Ytkmkbmhpdnddnaa
open Go.RowKit

/-- Below, the heap's size out of sight. -/
def Bel (w w' : World) : Prop := Below w.heap.size w w'
theorem Bel.drawn {w w1 w2 : World} (h : Bel w w1) (d : Drawn w1 w2) : Below w.heap.size w w2 := bel_next h d.bel0
theorem Bel.next {w w1 w2 : World} (h : Bel w w1) (d : Below w1.heap.size w1 w2) : Below w.heap.size w w2 := bel_next h d
theorem IC.lF {w : World} {v : Value} {c : Cat} (h : IC w v c) : c.fr.length ≤ 4294967296 := by
  obtain ⟨_, _, _, _, _, h1, _, _, _⟩ := h.ex; exact h1.len
theorem IC.lI {w : World} {v : Value} {c : Cat} (h : IC w v c) : c.id.length ≤ 4294967296 := by
  obtain ⟨_, _, _, _, _, _, _, h1, _⟩ := h.ex; exact h1.len
theorem IC.lC {w : World} {v : Value} {c : Cat} (h : IC w v c) : c.cm.length ≤ 4294967296 := by
  obtain ⟨_, _, _, _, _, _, _, _, h1⟩ := h.ex; exact h1.len
def endsB (k n : Int) (xs : List Int) : Bool := decide ((xs.length : Int) = k) && allIn n xs
theorem c_l02Ends {w : World} {v : Value} {xs : List Int} (h : IS w v xs) (k n : Int) : Calls Try.prog 108 #[v, .int .i64 k, .int .i64 n] w (Rd w (.bool (endsB k n xs))) := by
  have HC := Lib.hid (c_l01Map h n)
  obtain ⟨ao, b, o, c, rfl, -, -⟩ := h.ex
  have hlen := h.len
  clear h
  by_cases hk : (xs.length : Int) = k
  · have hb : ((xs.length : Int) == k) = true := by simp [hk]
    have HK := Lib.hid hk
    clear hk
    go_enter Try.func108, Try.ntmps108
    go_wp2_with (go_at_call 105; (with_reducible refine (HC.out).mono ?_); rintro e w' ⟨rfl, n1, rfl⟩)
    go_ret
    exact rd_bool (by simp [endsB, HK.out]) (by repeat (first | exact Drawn.refl _ | refine Drawn.step ?_ _ | refine Drawn.one ?_))
  · have hb : ((xs.length : Int) == k) = false := by simp [hk]
    have HK := Lib.hid hk
    clear hk
    go_enter Try.func108, Try.ntmps108
    go_wp2_with fail
    go_ret
    exact rd_bool (by simp [endsB, HK.out]) (by repeat (first | exact Drawn.refl _ | refine Drawn.step ?_ _ | refine Drawn.one ?_))
set_option maxHeartbeats 1600000 in
set_option maxRecDepth 100000 in
theorem s_IsShape {w : World} {v : Value} {c : Cat} (h : IC w v c) : Calls Try.prog 79 #[v] w (Ret w (.bool (shapeB c))) := by
  have lF := h.lF
  have lI := h.lI
  have lC := h.lC
  by_cases h1 : inR c.n 0 8 = true
  · by_cases h2 : decide ((c.fr.length : Int) > 40) = false
    · by_cases h3 : endsB c.fr.length c.n c.fr = true
      · by_cases h4 : endsB c.fr.length c.n c.to = true
        · by_cases h5 : ((c.cm.length : Int) != (c.fr.length : Int)) = false
          · by_cases h6 : ((c.id.length : Int) != c.n) = false
            · by_cases h7 : allIn (c.fr.length : Int) c.id = true
              · have HB : Hid (Sh1 c) := by
                  simp only [endsB, Bool.and_eq_true, decide_eq_true_eq] at h3 h4
                  exact ⟨h1, h2, by simp [Cat.m, h4.1], h3.2, h4.2, h6, h7, h5⟩
                obtain ⟨aF, aT, aI, aC, bF, oF, kF, bT, oT, kT, bI, oI, kI, bC, oC, kC, bR, oR, kR, rfl, V⟩ := h.boxed 29
                have B : Bel w (w.alloc (.cells #[.int .i64 c.n, .slice aF c.fr.length kF, .slice aT c.to.length kT, .slice aI c.id.length kI, .slice aC c.cm.length kC] 29)) := bel_box w _
                have ZB := Lib.hid (show (w.alloc (.cells #[.int .i64 c.n, .slice aF c.fr.length kF, .slice aT c.to.length kT, .slice aI c.id.length kI, .slice aC c.cm.length kC] 29)).heap.size = w.heap.size + 1 from by simp)
                clear h
                go_enter Try.func79, Try.ntmps79
                go_wp2_with fail
                generalize w.alloc (.cells #[.int .i64 c.n, .slice aF c.fr.length kF, .slice aT c.to.length kT, .slice aI c.id.length kI, .slice aC c.cm.length kC] 29) = w1 at *
                generalize w.heap.size = b at *
                have c0 := V.c0
                have c1 := V.c1
                have c2 := V.c2
                have c3 := V.c3
                have c4 := V.c4
                go_wp2_with (first | (go_at_call 94; (with_reducible refine (c_l01In _ _ _ _).mono ?_); rintro e w' ⟨rfl, n1, rfl⟩) | (go_at_call 108; (with_reducible refine (c_l02Ends (V.iF.drawn (by repeat (first | exact Drawn.refl _ | refine Drawn.step ?_ _ | refine Drawn.one ?_))) _ _).mono ?_); rintro e w' ⟨rfl, n1, rfl⟩) | (go_at_call 108; (with_reducible refine (c_l02Ends (V.iT.drawn (by repeat (first | exact Drawn.refl _ | refine Drawn.step ?_ _ | refine Drawn.one ?_))) _ _).mono ?_); rintro e w' ⟨rfl, n1, rfl⟩) | (go_at_call 105; (with_reducible refine (c_l01Map (V.iI.drawn (by repeat (first | exact Drawn.refl _ | refine Drawn.step ?_ _ | refine Drawn.one ?_))) _).mono ?_); rintro e w' ⟨rfl, n1, rfl⟩))
                have HTL : Hid (c.to.length = c.fr.length) := by have := h4; simp [endsB] at this; unfold Hid; omega
                have HIN : Hid ((c.id.length : Int) = c.n) := by have := h6; simp at this; exact this
                have HCM : Hid (c.cm.length = c.fr.length) := by have := h5; simp at this; unfold Hid; omega
                obtain ⟨hn0, hn8⟩ : 0 ≤ c.n ∧ c.n ≤ 8 := by simpa [inR] using h1
                have hm40 : c.fr.length ≤ 40 := by simp at h2; omega
                clear h1 h2 h3 h4 h5 h6 h7 c0 c1 c2 c3 c4
                go_loopw [4] (fun iv wr => ∃ k : Nat, (k : Int) ≤ c.n ∧ iv = .int .i64 k ∧ Drawn w1 wr ∧ Hid (∀ x : Int, 0 ≤ x → x < k → c.F (c.I x) = x ∧ c.T (c.I x) = x)) (fun iv _ => (c.n - intOf iv).toNat)
                case atStart => exact ⟨0, by omega, rfl, (by repeat (first | exact Drawn.refl _ | refine Drawn.step ?_ _ | refine Drawn.one ?_)), fun x _ _ => by omega⟩
                case round =>
                  obtain ⟨k, hk, rfl, hd, hp⟩ := hrel
                  have c0 := (V.drawn hd).c0
                  have c1 := (V.drawn hd).c1
                  have c2 := (V.drawn hd).c2
                  have c3 := (V.drawn hd).c3
                  have c4 := (V.drawn hd).c4
                  by_cases hlt : (k : Int) < c.n
                  · obtain rfl := V.gI (by have := HIN.out; omega)
                    obtain ⟨hA1, hA2⟩ : c.Arr (c.I k) := allIn_at.1 HB.out.e7 k (by omega) (by have := HIN.out; omega)
                    unfold Cat.m at hA2
                    obtain rfl := V.gF (by omega)
                    obtain rfl := V.gT (by have := HTL.out; omega)
                    have cI := (V.drawn hd).I k (by omega) (by have := HIN.out; omega)
                    have cF := (V.drawn hd).F (c.I k) hA1 hA2
                    have hA3 : c.I k < (c.to.length : Int) := by have := HTL.out; omega
                    have cT := (V.drawn hd).T (c.I k) hA1 hA3
                    simp only [Int.toNat_natCast] at cI
                    have hI1 : k < c.id.length := by have := HIN.out; omega
                    by_cases hF : c.F (c.I k) = k
                    · have hFb : (c.F (c.I k) != (k : Int)) = false := by simp [hF]
                      have HF := Lib.hid hF
                      clear hF
                      by_cases hT : c.T (c.I k) = k
                      · have hTb : (c.T (c.I k) != (k : Int)) = false := by simp [hT]
                        have HT := Lib.hid hT
                        clear hT
                        go_wp2_with fail
                        go_quiet (fail)
                        go_wp2_with fail
                        go_roundw
                        case rel => exact ⟨k + 1, by omega, by go_num, hd.step _, fun x h0 h1 => by
                          by_cases e : x = k
                          · subst e; exact ⟨HF.out, HT.out⟩
                          · exact hp.out x h0 (by omega)⟩
                        case measure => simp [intOf]; omega
                      · have hTb : (c.T (c.I k) != (k : Int)) = true := by simp [hT]
                        have HT := Lib.hid hT
                        clear hT
                        go_wp2_with fail
                        go_quiet (fail)
                        go_wp2_with fail
                        go_ret
                        exact ⟨ret_b (shapeB_f fun S => HT.out (S.iE k ⟨by omega, hlt⟩).2), B.drawn (hd.step _)⟩
                    · have hFb : (c.F (c.I k) != (k : Int)) = true := by simp [hF]
                      have HF := Lib.hid hF
                      clear hF
                      go_wp2_with fail
                      go_quiet (fail)
                      go_wp2_with fail
                      go_ret
                      exact ⟨ret_b (shapeB_f fun S => HF.out (S.iE k ⟨by omega, hlt⟩).1), B.drawn (hd.step _)⟩
                  · have hke : (k : Int) = c.n := by omega
                    have HID : Hid (∀ x, c.Obj x → c.F (c.I x) = x ∧ c.T (c.I x) = x) := fun x hx => hp.out x hx.1 (by have := hx.2; omega)
                    clear hp
                    go_wp2_with fail
                    obtain ⟨w9, rfl⟩ : ∃ w9 : World, w9 = wr := ⟨_, rfl⟩
                    have hd9 := hd
                    clear c0 c1 c2 c3 c4 hd
                    go_loopw [5, 6, 7] (fun iv _ _ wr => ∃ k : Nat, k ≤ c.fr.length ∧ iv = .int .i64 k ∧ Drawn w1 wr ∧ Hid (∀ f : Int, 0 ≤ f → f < k → RowOk c f)) (fun iv _ _ _ => c.fr.length - (intOf iv).toNat)
                    case atStart => exact ⟨0, by omega, rfl, hd9, fun x _ _ => by omega⟩
                    case round =>
                      obtain ⟨f, hkf, rfl, hd, hp⟩ := hrel
                      by_cases hltf : f < c.fr.length
                      · have hfA : c.Arr f := ⟨by omega, by unfold Cat.m; omega⟩
                        obtain rfl := V.gF (by omega)
                        obtain rfl := V.gT (by have := HTL.out; omega)
                        obtain rfl := V.gC (by have := HCM.out; omega)
                        have lf1 : f < c.cm.length := by have := HCM.out; omega
                        have lf2 : f < c.to.length := by have := HTL.out; omega
                        obtain ⟨aR, cR, iR, gR⟩ := (V.drawn hd).R f (by omega) (by omega)
                        simp only [Int.toNat_natCast] at cR gR iR
                        have lR := iR.len
                        have c4 := (V.drawn hd).c4
                        by_cases hlr : (((gr c.cm f).length : Int) != (c.fr.length : Int)) = false
                        · have HLR : Hid ((gr c.cm f).length = c.fr.length) := by simp at hlr; unfold Hid; omega
                          go_wp2_with fail
                          obtain ⟨w8, rfl⟩ : ∃ w8 : World, w8 = wr := ⟨_, rfl⟩
                          have hd8 := hd
                          clear c4 hlr
                          have CR : Hid (∀ W, Drawn w8 W → W.cell? ⟨bC, oC + f, none⟩ = some (.slice aR (gr c.cm f).length (kR f))) := fun W h => up_cell h.bel0 cR
                          clear cR hd
                          go_loopw [6, 7] (fun iv _ wr => ∃ k : Nat, k ≤ c.fr.length ∧ iv = .int .i64 k ∧ Drawn w8 wr ∧ Hid (∀ g : Int, 0 ≤ g → g < k → EntOk c f g)) (fun iv _ _ => c.fr.length - (intOf iv).toNat)
                          case atStart => exact ⟨0, by omega, rfl, (by repeat (first | exact Drawn.refl _ | refine Drawn.step ?_ _ | refine Drawn.one ?_)), fun x _ _ => by omega⟩
                          case round =>
                            obtain ⟨g, hkg, rfl, hd, hp2⟩ := hrel
                            by_cases hltg : g < c.fr.length
                            · have hgA : c.Arr g := ⟨by omega, by unfold Cat.m; omega⟩
                              obtain rfl := gR (by have := HLR.out; omega)
                              have hdd := drawn_trans hd8 hd
                              have c1 := (V.drawn hdd).c1
                              have c2 := (V.drawn hdd).c2
                              have c4 := (V.drawn hdd).c4
                              have cR := CR.out _ hd
                              have cM := (V.drawn hdd).M f g (by omega) (by omega) (by omega) (by rw [Int.toNat_natCast]; have := HLR.out; omega)
                              have cT := (V.drawn hdd).T f (by omega) (by omega)
                              have cF := (V.drawn hdd).F g (by omega) (by omega)
                              simp only [Int.toNat_natCast] at cM cT cF
                              have lg1 : g < (gr c.cm f).length := by have := HLR.out; omega
                              have lg2 : g < c.to.length := by have := HTL.out; omega
                              by_cases hTF : c.T f = c.F g
                              · have hTb : (c.T f != c.F g) = false := by simp [hTF]
                                have HTF := Lib.hid hTF
                                clear hTF
                                go_wp2_with fail
                                go_quiet (fail)
                                have hd' := Drawn.step hd nq
                                have hdd' := Drawn.step hdd nq
                                clear c1 c2 c4 cR cM cT cF hd hdd hTb
                                generalize wr.drewN nq = w7 at *
                                have c1 := (V.drawn hdd').c1
                                have c2 := (V.drawn hdd').c2
                                have cFf := (V.drawn hdd').F f (by omega) (by omega)
                                have cTg := (V.drawn hdd').T g (by omega) (by omega)
                                simp only [Int.toNat_natCast] at cFf cTg
                                by_cases q1 : c.M f g < 0
                                · have q1b : decide (c.M f g < 0) = true := by simp [q1]
                                  go_wp2_with fail
                                  go_quiet (fail)
                                  go_wp2_with fail
                                  go_ret
                                  exact ⟨ret_b (shapeB_f fun S => by have := (S.mA f g hfA hgA HTF.out).1.1; omega), B.drawn (hdd'.step _)⟩
                                · have q1b : decide (c.M f g < 0) = false := by simp; omega
                                  by_cases q2 : c.M f g < (c.fr.length : Int)
                                  · have q2b : decide (c.M f g ≥ (c.fr.length : Int)) = false := by simp; omega
                                    have q3' : c.M f g < (c.to.length : Int) := by have := HTL.out; omega
                                    have q10 : 0 ≤ c.M f g := by omega
                                    have cFh := (V.drawn hdd').F (c.M f g) q10 q2
                                    have cTh := (V.drawn hdd').T (c.M f g) q10 q3'
                                    by_cases q3 : c.F (c.M f g) = c.F f
                                    · have q3b : (c.F (c.M f g) != c.F f) = false := by simp [q3]
                                      have Q3 := Lib.hid q3
                                      clear q3
                                      by_cases q4 : c.T (c.M f g) = c.T g
                                      · have q4b : (c.T (c.M f g) != c.T g) = false := by simp [q4]
                                        have Q4 := Lib.hid q4
                                        clear q4
                                        go_wp2_with fail
                                        go_quiet (fail)
                                        go_wp2_with fail
                                        go_roundw
                                        case rel => exact ⟨g + 1, by omega, by go_num, hd'.step _, fun x h0 h1 => by
                                          by_cases e : x = g
                                          · subst e; exact ⟨fun e => absurd HTF.out e, fun _ => ⟨⟨q10, q2⟩, Q3.out, Q4.out⟩⟩
                                          · exact hp2.out x h0 (by omega)⟩
                                        case measure => simp [intOf]; omega
                                      · have q4b : (c.T (c.M f g) != c.T g) = true := by simp [q4]
                                        have Q4 := Lib.hid q4
                                        clear q4
                                        go_wp2_with fail
                                        go_quiet (fail)
                                        go_wp2_with fail
                                        go_ret
                                        exact ⟨ret_b (shapeB_f fun S => Q4.out (S.mA f g hfA hgA HTF.out).2.2), B.drawn (hdd'.step _)⟩
                                    · have q3b : (c.F (c.M f g) != c.F f) = true := by simp [q3]
                                      have Q3 := Lib.hid q3
                                      clear q3
                                      go_wp2_with fail
                                      go_quiet (fail)
                                      go_wp2_with fail
                                      go_ret
                                      exact ⟨ret_b (shapeB_f fun S => Q3.out (S.mA f g hfA hgA HTF.out).2.1), B.drawn (hdd'.step _)⟩
                                  · have q2b : decide (c.M f g ≥ (c.fr.length : Int)) = true := by simp; omega
                                    go_wp2_with fail
                                    go_quiet (fail)
                                    go_wp2_with fail
                                    go_ret
                                    exact ⟨ret_b (shapeB_f fun S => by have := (S.mA f g hfA hgA HTF.out).1.2; unfold Cat.m at this; omega), B.drawn (hdd'.step _)⟩
                              · have hTb : (c.T f != c.F g) = true := by simp [hTF]
                                have HTF := Lib.hid hTF
                                clear hTF
                                by_cases hM : c.M f g = -1
                                · have hMb : (c.M f g != -1) = false := by simp [hM]
                                  have HM := Lib.hid hM
                                  clear hM
                                  go_wp2_with fail
                                  go_quiet (fail)
                                  go_wp2_with fail
                                  go_roundw
                                  case rel => exact ⟨g + 1, by omega, by go_num, hd.step _, fun x h0 h1 => by
                                    by_cases e : x = g
                                    · subst e; exact ⟨fun _ => HM.out, fun e => absurd e HTF.out⟩
                                    · exact hp2.out x h0 (by omega)⟩
                                  case measure => simp [intOf]; omega
                                · have hMb : (c.M f g != -1) = true := by simp [hM]
                                  have HM := Lib.hid hM
                                  clear hM
                                  go_wp2_with fail
                                  go_quiet (fail)
                                  go_wp2_with fail
                                  go_ret
                                  exact ⟨ret_b (shapeB_f fun S => HM.out (S.mN f g hfA hgA HTF.out)), B.drawn (hdd.step _)⟩
                            · have hke : c.fr.length = g := by omega
                              have HROW : Hid (RowOk c f) := ⟨HLR.out, fun x hx => hp2.out x hx.1 (by have := hx.2; unfold Cat.m at this; omega)⟩
                              clear hp2
                              go_wp2_with fail
                              go_roundw
                              case rel => exact ⟨f + 1, by omega, by go_num, drawn_trans hd8 hd, fun x h0 h1 => by
                                by_cases e : x = f
                                · subst e; exact HROW.out
                                · exact hp.out x h0 (by omega)⟩
                              case measure => simp [intOf]; omega
                        · simp only [Bool.not_eq_false] at hlr
                          go_wp2_with fail
                          go_ret
                          refine ⟨ret_b (shapeB_f fun S => ?_), B.drawn hd⟩
                          have := S.rl f hfA
                          simp at hlr
                          simp at this; omega
                      · have hke : c.fr.length = f := by omega
                        have HS : Hid (shapeB c = true) := shapeB_t (HB.out.shape' HID.out fun x hx => hp.out x hx.1 (by have := hx.2; unfold Cat.m at this; omega))
                        clear hp
                        go_wp2_with fail
                        go_ret
                        exact ⟨ret_b HS.out, B.drawn hd⟩
              · first | simp only [Bool.not_eq_true] at * | simp only [Bool.not_eq_false] at *
                have HN : Hid (shapeB c = false) := shapeB_f fun S => by obtain ⟨e1, e2, e3, e4, e5, e6, e7, e8⟩ := S.bs; have := S.tl; ((try unfold Cat.m at *); (try unfold endsB at *); simp_all)
                obtain ⟨aF, aT, aI, aC, bF, oF, kF, bT, oT, kT, bI, oI, kI, bC, oC, kC, bR, oR, kR, rfl, V⟩ := h.boxed 29
                have B : Bel w (w.alloc (.cells #[.int .i64 c.n, .slice aF c.fr.length kF, .slice aT c.to.length kT, .slice aI c.id.length kI, .slice aC c.cm.length kC] 29)) := bel_box w _
                have ZB := Lib.hid (show (w.alloc (.cells #[.int .i64 c.n, .slice aF c.fr.length kF, .slice aT c.to.length kT, .slice aI c.id.length kI, .slice aC c.cm.length kC] 29)).heap.size = w.heap.size + 1 from by simp)
                clear h
                go_enter Try.func79, Try.ntmps79
                go_wp2_with fail
                generalize w.alloc (.cells #[.int .i64 c.n, .slice aF c.fr.length kF, .slice aT c.to.length kT, .slice aI c.id.length kI, .slice aC c.cm.length kC] 29) = w1 at *
                generalize w.heap.size = b at *
                have c0 := V.c0
                have c1 := V.c1
                have c2 := V.c2
                have c3 := V.c3
                have c4 := V.c4
                go_wp2_with (first | (go_at_call 94; (with_reducible refine (c_l01In _ _ _ _).mono ?_); rintro e w' ⟨rfl, n1, rfl⟩) | (go_at_call 108; (with_reducible refine (c_l02Ends (V.iF.drawn (by repeat (first | exact Drawn.refl _ | refine Drawn.step ?_ _ | refine Drawn.one ?_))) _ _).mono ?_); rintro e w' ⟨rfl, n1, rfl⟩) | (go_at_call 108; (with_reducible refine (c_l02Ends (V.iT.drawn (by repeat (first | exact Drawn.refl _ | refine Drawn.step ?_ _ | refine Drawn.one ?_))) _ _).mono ?_); rintro e w' ⟨rfl, n1, rfl⟩) | (go_at_call 105; (with_reducible refine (c_l01Map (V.iI.drawn (by repeat (first | exact Drawn.refl _ | refine Drawn.step ?_ _ | refine Drawn.one ?_))) _).mono ?_); rintro e w' ⟨rfl, n1, rfl⟩))
                go_ret
                exact ⟨ret_b HN.out, B.drawn (by repeat (first | exact Drawn.refl _ | refine Drawn.step ?_ _ | refine Drawn.one ?_))⟩
            · first | simp only [Bool.not_eq_true] at * | simp only [Bool.not_eq_false] at *
              have HN : Hid (shapeB c = false) := shapeB_f fun S => by obtain ⟨e1, e2, e3, e4, e5, e6, e7, e8⟩ := S.bs; have := S.tl; ((try unfold Cat.m at *); (try unfold endsB at *); simp_all)
              obtain ⟨aF, aT, aI, aC, bF, oF, kF, bT, oT, kT, bI, oI, kI, bC, oC, kC, bR, oR, kR, rfl, V⟩ := h.boxed 29
              have B : Bel w (w.alloc (.cells #[.int .i64 c.n, .slice aF c.fr.length kF, .slice aT c.to.length kT, .slice aI c.id.length kI, .slice aC c.cm.length kC] 29)) := bel_box w _
              have ZB := Lib.hid (show (w.alloc (.cells #[.int .i64 c.n, .slice aF c.fr.length kF, .slice aT c.to.length kT, .slice aI c.id.length kI, .slice aC c.cm.length kC] 29)).heap.size = w.heap.size + 1 from by simp)
              clear h
              go_enter Try.func79, Try.ntmps79
              go_wp2_with fail
              generalize w.alloc (.cells #[.int .i64 c.n, .slice aF c.fr.length kF, .slice aT c.to.length kT, .slice aI c.id.length kI, .slice aC c.cm.length kC] 29) = w1 at *
              generalize w.heap.size = b at *
              have c0 := V.c0
              have c1 := V.c1
              have c2 := V.c2
              have c3 := V.c3
              have c4 := V.c4
              go_wp2_with (first | (go_at_call 94; (with_reducible refine (c_l01In _ _ _ _).mono ?_); rintro e w' ⟨rfl, n1, rfl⟩) | (go_at_call 108; (with_reducible refine (c_l02Ends (V.iF.drawn (by repeat (first | exact Drawn.refl _ | refine Drawn.step ?_ _ | refine Drawn.one ?_))) _ _).mono ?_); rintro e w' ⟨rfl, n1, rfl⟩) | (go_at_call 108; (with_reducible refine (c_l02Ends (V.iT.drawn (by repeat (first | exact Drawn.refl _ | refine Drawn.step ?_ _ | refine Drawn.one ?_))) _ _).mono ?_); rintro e w' ⟨rfl, n1, rfl⟩) | (go_at_call 105; (with_reducible refine (c_l01Map (V.iI.drawn (by repeat (first | exact Drawn.refl _ | refine Drawn.step ?_ _ | refine Drawn.one ?_))) _).mono ?_); rintro e w' ⟨rfl, n1, rfl⟩))
              go_ret
              exact ⟨ret_b HN.out, B.drawn (by repeat (first | exact Drawn.refl _ | refine Drawn.step ?_ _ | refine Drawn.one ?_))⟩
          · first | simp only [Bool.not_eq_true] at * | simp only [Bool.not_eq_false] at *
            have HN : Hid (shapeB c = false) := shapeB_f fun S => by obtain ⟨e1, e2, e3, e4, e5, e6, e7, e8⟩ := S.bs; have := S.tl; ((try unfold Cat.m at *); (try unfold endsB at *); simp_all)
            obtain ⟨aF, aT, aI, aC, bF, oF, kF, bT, oT, kT, bI, oI, kI, bC, oC, kC, bR, oR, kR, rfl, V⟩ := h.boxed 29
            have B : Bel w (w.alloc (.cells #[.int .i64 c.n, .slice aF c.fr.length kF, .slice aT c.to.length kT, .slice aI c.id.length kI, .slice aC c.cm.length kC] 29)) := bel_box w _
            have ZB := Lib.hid (show (w.alloc (.cells #[.int .i64 c.n, .slice aF c.fr.length kF, .slice aT c.to.length kT, .slice aI c.id.length kI, .slice aC c.cm.length kC] 29)).heap.size = w.heap.size + 1 from by simp)
            clear h
            go_enter Try.func79, Try.ntmps79
            go_wp2_with fail
            generalize w.alloc (.cells #[.int .i64 c.n, .slice aF c.fr.length kF, .slice aT c.to.length kT, .slice aI c.id.length kI, .slice aC c.cm.length kC] 29) = w1 at *
            generalize w.heap.size = b at *
            have c0 := V.c0
            have c1 := V.c1
            have c2 := V.c2
            have c3 := V.c3
            have c4 := V.c4
            go_wp2_with (first | (go_at_call 94; (with_reducible refine (c_l01In _ _ _ _).mono ?_); rintro e w' ⟨rfl, n1, rfl⟩) | (go_at_call 108; (with_reducible refine (c_l02Ends (V.iF.drawn (by repeat (first | exact Drawn.refl _ | refine Drawn.step ?_ _ | refine Drawn.one ?_))) _ _).mono ?_); rintro e w' ⟨rfl, n1, rfl⟩) | (go_at_call 108; (with_reducible refine (c_l02Ends (V.iT.drawn (by repeat (first | exact Drawn.refl _ | refine Drawn.step ?_ _ | refine Drawn.one ?_))) _ _).mono ?_); rintro e w' ⟨rfl, n1, rfl⟩))
            go_ret
            exact ⟨ret_b HN.out, B.drawn (by repeat (first | exact Drawn.refl _ | refine Drawn.step ?_ _ | refine Drawn.one ?_))⟩
        · first | simp only [Bool.not_eq_true] at * | simp only [Bool.not_eq_false] at *
          have HN : Hid (shapeB c = false) := shapeB_f fun S => by obtain ⟨e1, e2, e3, e4, e5, e6, e7, e8⟩ := S.bs; have := S.tl; ((try unfold Cat.m at *); (try unfold endsB at *); simp_all)
          obtain ⟨aF, aT, aI, aC, bF, oF, kF, bT, oT, kT, bI, oI, kI, bC, oC, kC, bR, oR, kR, rfl, V⟩ := h.boxed 29
          have B : Bel w (w.alloc (.cells #[.int .i64 c.n, .slice aF c.fr.length kF, .slice aT c.to.length kT, .slice aI c.id.length kI, .slice aC c.cm.length kC] 29)) := bel_box w _
          have ZB := Lib.hid (show (w.alloc (.cells #[.int .i64 c.n, .slice aF c.fr.length kF, .slice aT c.to.length kT, .slice aI c.id.length kI, .slice aC c.cm.length kC] 29)).heap.size = w.heap.size + 1 from by simp)
          clear h
          go_enter Try.func79, Try.ntmps79
          go_wp2_with fail
          generalize w.alloc (.cells #[.int .i64 c.n, .slice aF c.fr.length kF, .slice aT c.to.length kT, .slice aI c.id.length kI, .slice aC c.cm.length kC] 29) = w1 at *
          generalize w.heap.size = b at *
          have c0 := V.c0
          have c1 := V.c1
          have c2 := V.c2
          have c3 := V.c3
          have c4 := V.c4
          go_wp2_with (first | (go_at_call 94; (with_reducible refine (c_l01In _ _ _ _).mono ?_); rintro e w' ⟨rfl, n1, rfl⟩) | (go_at_call 108; (with_reducible refine (c_l02Ends (V.iF.drawn (by repeat (first | exact Drawn.refl _ | refine Drawn.step ?_ _ | refine Drawn.one ?_))) _ _).mono ?_); rintro e w' ⟨rfl, n1, rfl⟩) | (go_at_call 108; (with_reducible refine (c_l02Ends (V.iT.drawn (by repeat (first | exact Drawn.refl _ | refine Drawn.step ?_ _ | refine Drawn.one ?_))) _ _).mono ?_); rintro e w' ⟨rfl, n1, rfl⟩))
          go_ret
          exact ⟨ret_b HN.out, B.drawn (by repeat (first | exact Drawn.refl _ | refine Drawn.step ?_ _ | refine Drawn.one ?_))⟩
      · first | simp only [Bool.not_eq_true] at * | simp only [Bool.not_eq_false] at *
        have HN : Hid (shapeB c = false) := shapeB_f fun S => by obtain ⟨e1, e2, e3, e4, e5, e6, e7, e8⟩ := S.bs; have := S.tl; ((try unfold Cat.m at *); (try unfold endsB at *); simp_all)
        obtain ⟨aF, aT, aI, aC, bF, oF, kF, bT, oT, kT, bI, oI, kI, bC, oC, kC, bR, oR, kR, rfl, V⟩ := h.boxed 29
        have B : Bel w (w.alloc (.cells #[.int .i64 c.n, .slice aF c.fr.length kF, .slice aT c.to.length kT, .slice aI c.id.length kI, .slice aC c.cm.length kC] 29)) := bel_box w _
        have ZB := Lib.hid (show (w.alloc (.cells #[.int .i64 c.n, .slice aF c.fr.length kF, .slice aT c.to.length kT, .slice aI c.id.length kI, .slice aC c.cm.length kC] 29)).heap.size = w.heap.size + 1 from by simp)
        clear h
        go_enter Try.func79, Try.ntmps79
        go_wp2_with fail
        generalize w.alloc (.cells #[.int .i64 c.n, .slice aF c.fr.length kF, .slice aT c.to.length kT, .slice aI c.id.length kI, .slice aC c.cm.length kC] 29) = w1 at *
        generalize w.heap.size = b at *
        have c0 := V.c0
        have c1 := V.c1
        have c2 := V.c2
        have c3 := V.c3
        have c4 := V.c4
        go_wp2_with (first | (go_at_call 94; (with_reducible refine (c_l01In _ _ _ _).mono ?_); rintro e w' ⟨rfl, n1, rfl⟩) | (go_at_call 108; (with_reducible refine (c_l02Ends (V.iF.drawn (by repeat (first | exact Drawn.refl _ | refine Drawn.step ?_ _ | refine Drawn.one ?_))) _ _).mono ?_); rintro e w' ⟨rfl, n1, rfl⟩) | (go_at_call 108; (with_reducible refine (c_l02Ends (V.iT.drawn (by repeat (first | exact Drawn.refl _ | refine Drawn.step ?_ _ | refine Drawn.one ?_))) _ _).mono ?_); rintro e w' ⟨rfl, n1, rfl⟩))
        go_ret
        exact ⟨ret_b HN.out, B.drawn (by repeat (first | exact Drawn.refl _ | refine Drawn.step ?_ _ | refine Drawn.one ?_))⟩
    · first | simp only [Bool.not_eq_true] at * | simp only [Bool.not_eq_false] at *
      have HN : Hid (shapeB c = false) := shapeB_f fun S => by obtain ⟨e1, e2, e3, e4, e5, e6, e7, e8⟩ := S.bs; have := S.tl; ((try unfold Cat.m at *); (try unfold endsB at *); simp_all)
      obtain ⟨aF, aT, aI, aC, bF, oF, kF, bT, oT, kT, bI, oI, kI, bC, oC, kC, bR, oR, kR, rfl, V⟩ := h.boxed 29
      have B : Bel w (w.alloc (.cells #[.int .i64 c.n, .slice aF c.fr.length kF, .slice aT c.to.length kT, .slice aI c.id.length kI, .slice aC c.cm.length kC] 29)) := bel_box w _
      have ZB := Lib.hid (show (w.alloc (.cells #[.int .i64 c.n, .slice aF c.fr.length kF, .slice aT c.to.length kT, .slice aI c.id.length kI, .slice aC c.cm.length kC] 29)).heap.size = w.heap.size + 1 from by simp)
      clear h
      go_enter Try.func79, Try.ntmps79
      go_wp2_with fail
      generalize w.alloc (.cells #[.int .i64 c.n, .slice aF c.fr.length kF, .slice aT c.to.length kT, .slice aI c.id.length kI, .slice aC c.cm.length kC] 29) = w1 at *
      generalize w.heap.size = b at *
      have c0 := V.c0
      have c1 := V.c1
      have c2 := V.c2
      have c3 := V.c3
      have c4 := V.c4
      go_wp2_with (first | (go_at_call 94; (with_reducible refine (c_l01In _ _ _ _).mono ?_); rintro e w' ⟨rfl, n1, rfl⟩) | (go_at_call 108; (with_reducible refine (c_l02Ends (V.iF.drawn (by repeat (first | exact Drawn.refl _ | refine Drawn.step ?_ _ | refine Drawn.one ?_))) _ _).mono ?_); rintro e w' ⟨rfl, n1, rfl⟩) | (go_at_call 108; (with_reducible refine (c_l02Ends (V.iT.drawn (by repeat (first | exact Drawn.refl _ | refine Drawn.step ?_ _ | refine Drawn.one ?_))) _ _).mono ?_); rintro e w' ⟨rfl, n1, rfl⟩))
      go_ret
      exact ⟨ret_b HN.out, B.drawn (by repeat (first | exact Drawn.refl _ | refine Drawn.step ?_ _ | refine Drawn.one ?_))⟩
  · first | simp only [Bool.not_eq_true] at * | simp only [Bool.not_eq_false] at *
    have HN : Hid (shapeB c = false) := shapeB_f fun S => by obtain ⟨e1, e2, e3, e4, e5, e6, e7, e8⟩ := S.bs; have := S.tl; ((try unfold Cat.m at *); (try unfold endsB at *); simp_all)
    obtain ⟨aF, aT, aI, aC, bF, oF, kF, bT, oT, kT, bI, oI, kI, bC, oC, kC, bR, oR, kR, rfl, V⟩ := h.boxed 29
    have B : Bel w (w.alloc (.cells #[.int .i64 c.n, .slice aF c.fr.length kF, .slice aT c.to.length kT, .slice aI c.id.length kI, .slice aC c.cm.length kC] 29)) := bel_box w _
    have ZB := Lib.hid (show (w.alloc (.cells #[.int .i64 c.n, .slice aF c.fr.length kF, .slice aT c.to.length kT, .slice aI c.id.length kI, .slice aC c.cm.length kC] 29)).heap.size = w.heap.size + 1 from by simp)
    clear h
    go_enter Try.func79, Try.ntmps79
    go_wp2_with fail
    generalize w.alloc (.cells #[.int .i64 c.n, .slice aF c.fr.length kF, .slice aT c.to.length kT, .slice aI c.id.length kI, .slice aC c.cm.length kC] 29) = w1 at *
    generalize w.heap.size = b at *
    have c0 := V.c0
    have c1 := V.c1
    have c2 := V.c2
    have c3 := V.c3
    have c4 := V.c4
    go_wp2_with (first | (go_at_call 94; (with_reducible refine (c_l01In _ _ _ _).mono ?_); rintro e w' ⟨rfl, n1, rfl⟩) | (go_at_call 108; (with_reducible refine (c_l02Ends (V.iF.drawn (by repeat (first | exact Drawn.refl _ | refine Drawn.step ?_ _ | refine Drawn.one ?_))) _ _).mono ?_); rintro e w' ⟨rfl, n1, rfl⟩) | (go_at_call 108; (with_reducible refine (c_l02Ends (V.iT.drawn (by repeat (first | exact Drawn.refl _ | refine Drawn.step ?_ _ | refine Drawn.one ?_))) _ _).mono ?_); rintro e w' ⟨rfl, n1, rfl⟩))
    go_ret
    exact ⟨ret_b HN.out, B.drawn (by repeat (first | exact Drawn.refl _ | refine Drawn.step ?_ _ | refine Drawn.one ?_))⟩
end Go.Proofs.Ytkmkbmhpdnddnaa
