/-
  Chapter 2: arrows, ends, then, isShape of the program; the reference's IsShape.
-/
import Derived.Test.YtkmkbmhpdnddnaaCat
import Derived.Deep.RegionHeld3
import Derived.StillTailTactics
namespace Go.Proofs.Ytkmkbmhpdnddnaa
open Go.RowKit

theorem inR_t {n lo hi : Int} (h : lo ≤ n ∧ n ≤ hi) : inR n lo hi = true := by unfold inR; exact decide_eq_true h
theorem inR_f {n lo hi : Int} (h : ¬ (lo ≤ n ∧ n ≤ hi)) : inR n lo hi = false := by unfold inR; exact decide_eq_false h
/-- A new block is a row. -/
theorem row_box (w : World) (cs : Array Value) (t : TypeId) : (w.alloc (.cells cs t)).rowIs w.heap.size t cs.size (fun i => cs.getD i undef) :=
  World.rowIs_alloc w cs t _ fun i hi => by simp [hi]
/-- A row known cell by cell, as a block. -/
theorem rowIs_lit {w : World} {b : Nat} {t : TypeId} {cs : Array Value} {f : Nat → Value} (h : w.rowIs b t cs.size f) (hf : ∀ i, i < cs.size → cs[i]? = some (f i)) : w.heap[b]? = some (.cells cs t (0, 0)) := by
  obtain ⟨c, hb, hn, hc⟩ := h
  have : c = cs := by
    apply Array.ext hn
    intro i h1 h2
    have e1 := hc i h2
    have e2 := hf i h2
    rw [Array.getElem?_eq_getElem h1] at e1
    rw [Array.getElem?_eq_getElem h2] at e2
    exact Option.some.inj (e1.trans e2.symm)
  rw [← this]; exact hb
theorem two_rows (a b : Value) {f : Nat → Value} : ∀ i, i < #[a, b].size → #[a, b][i]? = some (if i = 1 then b else if i = 0 then a else f i) := by
  intro i hi
  have : i = 0 ∨ i = 1 := by simp at hi; omega
  rcases this with rfl | rfl <;> rfl
theorem c_arrows {w : World} {b : Nat} {c : Cat} (h : PC w b c) : Calls Try.prog 85 #[.pointer (some ⟨b, 0, none⟩)] w (Rd w (.int .i64 c.m)) := by
  obtain ⟨aF, aT, aI, aC, bF, oF, kF, bT, oT, kT, bI, oI, kI, bC, oC, kC, bR, oR, kR, V⟩ := h.opens
  have c1 := V.c1
  go_enter Try.func85, Try.ntmps85
  go_wp2_with fail
  go_ret
  exact rd_int rfl (by repeat (first | exact Drawn.refl _ | refine Drawn.step ?_ _ | refine Drawn.one ?_))
theorem c_ends {w : World} {b : Nat} {c : Cat} (h : PC w b c) (S : c.to.length = c.fr.length) {f : Int} (hf : c.Arr f) :
    Calls Try.prog 109 #[.pointer (some ⟨b, 0, none⟩), .int .i64 f] w (Ret w (.agg #[.int .i64 (c.F f), .int .i64 (c.T f)])) := by
  obtain ⟨aF, aT, aI, aC, bF, oF, kF, bT, oT, kT, bI, oI, kI, bC, oC, kC, bR, oR, kR, V⟩ := h.opens
  obtain ⟨h0, h1⟩ := hf
  unfold Cat.m at h1
  obtain rfl := V.gF (by omega)
  obtain rfl := V.gT (by omega)
  have V1 := V.kept (bel_box w (.cells #[.int .i64 0, .int .i64 0] 91))
  have hr := row_box w #[.int .i64 0, .int .i64 0] 91
  have B1 := bel_box w (.cells #[.int .i64 0, .int .i64 0] 91)
  have h2 : f < (c.to.length : Int) := by omega
  go_enter Try.func109, Try.ntmps109
  go_wp2_with fail
  generalize w.alloc (.cells #[.int .i64 0, .int .i64 0] 91) = w1 at *
  have c1 := V1.c1
  have c2 := V1.c2
  have cF := V1.F f h0 h1
  have cT := V1.T f h0 (by omega)
  go_still_tail 15, (by kernel_rfl)
  change wpList _ _ _ _ _ w1.drew
  have hr2 := hr.of_block (w' := w1.drew) rfl
  have B2 : Below w.heap.size w w1.drew := B1.trans ((Drawn.one (Drawn.refl _)).below _)
  clear hr B1 V1 V c1 c2 cF cT
  generalize w1.drew = w2 at *
  have hst := hr2.cell (show 0 < 2 by omega)
  have hst1 := hr2.cell (show 1 < 2 by omega)
  have hfz := hr2.frozen 0
  have hfz1 := hr2.frozen 1
  go_wp2_with fail
  refine bodyPost_ret (results_cell_row rfl _ _ w.heap.size 91 #[.int .i64 (c.F f), .int .i64 (c.T f)] (0, 0) _ (by rfl) ?_ Try.underlying91 rfl (by kernel_rfl)) rfl ?_
  · exact rowIs_lit ((hr2.set 0 _).set 1 _) (two_rows _ _)
  · exact ⟨rfl, (B2.setCell (Nat.le_refl _) _).setCell (Nat.le_refl _) _⟩
theorem inR_0 {n : Int} (h : inR n 0 8 = true) : 0 ≤ n := by simp [inR] at h; exact h.1
theorem inR_1 {n : Int} (h : inR n 0 8 = true) : n ≤ 9223372036854775807 := by simp [inR] at h; omega
set_option maxHeartbeats 1600000 in
set_option maxRecDepth 100000 in
theorem c_isShape {w : World} {b : Nat} {c : Cat} (h : PC w b c) : Calls Try.prog 83 #[.pointer (some ⟨b, 0, none⟩)] w (Ret w (.bool (shapeB c))) := by
  have P := Lib.hid h
  obtain ⟨aF, aT, aI, aC, bF, oF, kF, bT, oT, kT, bI, oI, kI, bC, oC, kC, bR, oR, kR, V⟩ := h.opens
  have hm0 : (0 : Int) ≤ c.m := by unfold Cat.m; omega
  have hm1 : c.m ≤ 4294967296 := by have := V.iF.len; unfold Cat.m; omega
  have HI := Lib.hid (fun (lo hi : Int) (x : Int) W (_ : Drawn w W) => calls_q (c_inRange x lo hi W))
  have HF := Lib.hid (fun W (hd : Drawn w W) (h0 : inR c.n 0 8 = true) => calls_q (c_within (V.iF.drawn hd) c.n (inR_0 h0) (inR_1 h0)))
  have HT := Lib.hid (fun W (hd : Drawn w W) (h0 : inR c.n 0 8 = true) => calls_q (c_within (V.iT.drawn hd) c.n (inR_0 h0) (inR_1 h0)))
  have HX := Lib.hid (fun W (hd : Drawn w W) => calls_q (c_within (V.iI.drawn hd) c.m hm0 (by omega)))
  clear h
  by_cases h1 : inR c.n 0 8 = true
  · by_cases h2 : decide (c.m > 40) = false
    · by_cases h3 : ((c.to.length : Int) != c.m) = false
      · by_cases h4 : allIn c.n c.fr = true
        · by_cases h5 : allIn c.n c.to = true
          · by_cases h6 : ((c.id.length : Int) != c.n) = false
            · by_cases h7 : allIn c.m c.id = true
              · by_cases h8 : ((c.cm.length : Int) != c.m) = false
                · go_enter Try.func83, Try.ntmps83
                  go_wp2_with fail
                  refine (c_arrows P.out).mono ?_
                  rintro e w1 ⟨rfl, d1⟩
                  have V1 := V.drawn d1
                  have c0 := V1.c0
                  have c1 := V1.c1
                  have c2 := V1.c2
                  go_wp2_with fail
                  go_quiet ((first | (go_at_call 97; with_reducible exact Calls.quiet_of (HI.out _ _ _ _ (Drawn.step d1 _))) | (go_at_call 91; with_reducible exact Calls.quiet_of (HF.out _ (Drawn.step d1 _) (by assumption))) | (go_at_call 91; with_reducible exact Calls.quiet_of (HT.out _ (Drawn.step d1 _) (by assumption)))))
                  have d2 := Drawn.step d1 nq
                  have V2 := V.drawn d2
                  try clear c0
                  try clear c1
                  try clear c2
                  try clear c3
                  try clear c4
                  generalize w1.drewN nq = w2 at *
                  have c0 := V2.c0
                  have c1 := V2.c1
                  have c3 := V2.c3
                  have c4 := V2.c4
                  go_wp2_with fail
                  go_quiet ((go_at_call 91; with_reducible exact Calls.quiet_of (HX.out _ (Drawn.step d2 _))))
                  go_wp2_with fail
                  have d3 := Drawn.step d2 nq
                  have V3 := V.drawn d3
                  try clear c0
                  try clear c1
                  try clear c2
                  try clear c3
                  try clear c4
                  generalize w2.drewN nq = w3 at *
                  have c3 := V3.c3
                  go_wp2_with fail
                  have HB := Lib.hid (show Sh1 c from ⟨h1, h2, h3, h4, h5, h6, h7, h8⟩)
                  have HTL : Hid (c.to.length = c.fr.length) := by have := h3; simp [Cat.m] at this; unfold Hid; omega
                  have HIN : Hid ((c.id.length : Int) = c.n) := by have := h6; simp at this; exact this
                  have HCM : Hid (c.cm.length = c.fr.length) := by have := h8; simp [Cat.m] at this; unfold Hid; omega
                  have lI := V.iI.len
                  have lC := V.iC.len
                  clear h1 h2 h3 h4 h5 h6 h7 h8 HI HF HT HX c3 d1 d2 V1 V2
                  go_loopw [4, 5, 88] (fun _ _ iv wr => ∃ k : Nat, k ≤ c.id.length ∧ iv = .int .i64 k ∧ Below w3.heap.size w3 wr ∧ Hid (∀ x : Int, 0 ≤ x → x < k → c.F (c.I x) = x ∧ c.T (c.I x) = x)) (fun _ _ iv _ => c.id.length - (intOf iv).toNat)
                  case atStart => exact ⟨0, Nat.zero_le _, rfl, Below.refl _ _, fun x _ _ => by omega⟩
                  case round =>
                    obtain ⟨k, hk, rfl, hb, hp⟩ := hrel
                    by_cases hlt : k < c.id.length
                    · obtain rfl := V3.gI (by omega)
                      have W := V3.kept hb
                      have cI := W.I k (by omega) (by omega)
                      simp only [Int.toNat_natCast] at cI
                      have hA : c.Arr (c.I k) := allIn_at.1 HB.out.e7 k (by omega) (by omega)
                      go_wp2_with fail
                      refine (c_ends W.pc HTL.out hA).mono ?_
                      rintro e w4 ⟨rfl, b4⟩
                      have hb4 := hb.trans (b4.mono hb.size)
                      clear b4 W cI hb
                      go_wp2_with fail
                      all_goals first
                        | (go_roundw
                           case rel => exact ⟨k + 1, by omega, by go_num, hb4, fun x h0 h1 => by
                             by_cases e : x = k
                             · subst e; exact ⟨by assumption, by assumption⟩
                             · exact hp.out x h0 (by omega)⟩
                           case measure => simp [intOf]; omega)
                        | (go_ret
                           refine ⟨ret_b (shapeB_f fun S => ?_), d3.bel hb4⟩
                           have hS := S.iE k ⟨by omega, by have := HIN.out; omega⟩
                           first | exact absurd hS.1 (by assumption) | exact absurd hS.2 (by assumption))
                    · have hke : c.id.length = k := by omega
                      have V4 := V3.kept hb
                      have c4 := V4.c4
                      have d4 := d3.bel hb
                      have HID : Hid (∀ x, c.Obj x → c.F (c.I x) = x ∧ c.T (c.I x) = x) := fun x hx => hp.out x hx.1 (by have := HIN.out; have := hx.2; omega)
                      subst hke
                      clear V3 hb hp hlt hk
                      go_wp2_with fail
                      clear c4 lI
                      obtain ⟨wo, rfl⟩ : ∃ wo : World, wo = wr := ⟨_, rfl⟩
                      go_loopw [6, 7, 8, 9, 106] (fun _ _ _ _ iv wr => ∃ k : Nat, k ≤ c.cm.length ∧ iv = .int .i64 k ∧ Below wo.heap.size wo wr ∧ Hid (∀ f : Int, 0 ≤ f → f < k → RowOk c f)) (fun _ _ _ _ iv _ => c.cm.length - (intOf iv).toNat)
                      case atStart => exact ⟨0, Nat.zero_le _, rfl, Below.refl _ _, fun x _ _ => by omega⟩
                      case round =>
                        obtain ⟨f, hk, rfl, hb, hp⟩ := hrel
                        by_cases hlt : f < c.cm.length
                        · obtain rfl := V4.gC (by omega)
                          obtain ⟨aR, cR, iR, gR⟩ := (V4.kept hb).R f (by omega) (by omega)
                          simp only [Int.toNat_natCast] at cR gR iR
                          have V5 := V4.kept hb
                          have d5 := bel_next d4 hb
                          have lR := iR.len
                          have hfA : c.Arr f := ⟨by omega, by have := HCM.out; unfold Cat.m; omega⟩
                          by_cases hlr : (((gr c.cm f).length : Int) != c.m) = false
                          · go_wp2_with fail
                            have HLR : Hid ((gr c.cm f).length = c.fr.length) := by simp [Cat.m] at hlr; unfold Hid; omega
                            have hbo := hb
                            clear cR hlr iR hb
                            obtain ⟨wi, rfl⟩ : ∃ wi : World, wi = wr := ⟨_, rfl⟩
                            go_loopw [8, 9, 117] (fun _ _ iv wr => ∃ k : Nat, k ≤ (gr c.cm f).length ∧ iv = .int .i64 k ∧ Below wi.heap.size wi wr ∧ Hid (∀ g : Int, 0 ≤ g → g < k → EntOk c f g)) (fun _ _ iv _ => (gr c.cm f).length - (intOf iv).toNat)
                            case atStart => exact ⟨0, Nat.zero_le _, rfl, Below.refl _ _, fun x _ _ => by omega⟩
                            case round =>
                              obtain ⟨g, hg, rfl, hb, hp2⟩ := hrel
                              by_cases hltg : g < (gr c.cm f).length
                              · obtain rfl := gR (by omega)
                                have hm : 0 < c.fr.length := by have := HLR.out; omega
                                obtain rfl := V5.gF hm
                                obtain rfl := V5.gT (by rw [HTL.out]; exact hm)
                                have hgA : c.Arr g := ⟨by omega, by have := HLR.out; unfold Cat.m; omega⟩
                                have W := V5.kept hb
                                have c1 := W.c1
                                have c2 := W.c2
                                have cM := W.M f g (by omega) (by omega) (by omega) (by rw [Int.toNat_natCast]; omega)
                                have cT := W.T f (by omega) (by have := HTL.out; have := HCM.out; omega)
                                have cF := W.F g (by omega) (by have := HLR.out; omega)
                                simp only [Int.toNat_natCast] at cM cT cF
                                have lT1 : f < c.to.length := by have := HTL.out; have := HCM.out; omega
                                have lF1 : g < c.fr.length := by have := HLR.out; omega
                                have d6 := bel_next d5 hb
                                by_cases hTF : c.T f = c.F g
                                · have hTb : (c.T f != c.F g) = false := by simp [hTF]
                                  have HTF := Lib.hid hTF
                                  clear hTF
                                  by_cases hA : inR (c.M f g) 0 (c.m - 1) = true
                                  · have HAA : Hid (c.Arr (c.M f g)) := by have := hA; simp [inR] at this; exact ⟨this.1, by omega⟩
                                    have HQ := Lib.hid (fun W => c_inRange (c.M f g) 0 (c.m - 1) W)
                                    go_wp2_with fail
                                    go_quiet (fail)
                                    have W7 := W.drawn (Drawn.step (Drawn.refl _) nq)
                                    have d7 := hb.trans ((Drawn.step (Drawn.refl _) nq).below _)
                                    clear c1 c2 cM cT cF W hb
                                    generalize wr.drewN nq = w7 at *
                                    have c1 := W7.c1
                                    have c2 := W7.c2
                                    have cF := W7.F f (by omega) (by have := HCM.out; omega)
                                    have cT := W7.T g (by omega) (by have := HTL.out; omega)
                                    simp only [Int.toNat_natCast] at cT cF
                                    have pc := W7.pc
                                    have bel := Below.refl w7.heap.size w7
                                    have bF2 : f < c.fr.length := by have := HCM.out; omega
                                    have bT2 : g < c.to.length := by have := HTL.out; omega
                                    have e1 : IntKind.i64.wrap (c.m - 1) = c.m - 1 := IntWalk.i64_in _ (by omega)
                                    have hq := fun W (hW : PC W b c) => c_ends hW HTL.out HAA.out
                                    by_cases hE1 : c.F (c.M f g) = c.F f
                                    · rw [hE1] at hq
                                      have HE1 := Lib.hid hE1
                                      clear hE1
                                      by_cases hE2 : c.T (c.M f g) = c.T g
                                      · rw [hE2] at hq
                                        have HE2 := Lib.hid hE2
                                        have HE := Lib.hid hq
                                        clear hE2 hq
                                        go_wp2_with fail
                                        go_region_held3 (fun w' => Below w7.heap.size w7 w' ∧ w'.cell? ⟨b, 1, none⟩ = some (.slice (some ⟨bF, oF, none⟩) c.fr.length kF) ∧ w'.cell? ⟨b, 2, none⟩ = some (.slice (some ⟨bT, oT, none⟩) c.to.length kT) ∧ w'.cell? ⟨bF, oF + f, none⟩ = some (.int .i64 (c.F f)) ∧ w'.cell? ⟨bT, oT + g, none⟩ = some (.int .i64 (c.T g)))
                                          (first | exact ⟨(Drawn.one (Drawn.refl _)).bel0, c1, c2, cF, cT⟩ | (refine keep4 ?_ hb7; assumption))
                                          (first | (go_at_call 97; (with_reducible refine (HQ.out _).mono ?_); rintro e w' ⟨rfl, hd7⟩; have hb7 := hd7.bel0; clear hd7) | (go_at_call 109; (with_reducible refine (HE.out _ (pc.kept (And.left (by assumption)))).mono ?_); rintro e w' ⟨rfl, hb7⟩))
                                        obtain ⟨hbl, -, -, -, -⟩ := ‹Below w7.heap.size w7 _ ∧ _›
                                        go_wp2_with fail
                                        go_roundw
                                        case rel => exact ⟨g + 1, by omega, by go_num, bel_next d7 hbl, fun x h0 h1 => by
                                          by_cases e : x = g
                                          · subst e; exact ⟨fun e => absurd HTF.out e, fun _ => ⟨HAA.out, HE1.out, HE2.out⟩⟩
                                          · exact hp2.out x h0 (by omega)⟩
                                        case measure => simp [intOf]; omega
                                      · have HE := Lib.hid hq
                                        clear hq
                                        go_wp2_with fail
                                        go_region_held3 (fun w' => Below w7.heap.size w7 w' ∧ w'.cell? ⟨b, 1, none⟩ = some (.slice (some ⟨bF, oF, none⟩) c.fr.length kF) ∧ w'.cell? ⟨b, 2, none⟩ = some (.slice (some ⟨bT, oT, none⟩) c.to.length kT) ∧ w'.cell? ⟨bF, oF + f, none⟩ = some (.int .i64 (c.F f)) ∧ w'.cell? ⟨bT, oT + g, none⟩ = some (.int .i64 (c.T g)))
                                          (first | exact ⟨(Drawn.one (Drawn.refl _)).bel0, c1, c2, cF, cT⟩ | (refine keep4 ?_ hb7; assumption))
                                          (first | (go_at_call 97; (with_reducible refine (HQ.out _).mono ?_); rintro e w' ⟨rfl, hd7⟩; have hb7 := hd7.bel0; clear hd7) | (go_at_call 109; (with_reducible refine (HE.out _ (pc.kept (And.left (by assumption)))).mono ?_); rintro e w' ⟨rfl, hb7⟩))
                                        obtain ⟨hbl, -, -, -, -⟩ := ‹Below w7.heap.size w7 _ ∧ _›
                                        go_wp2_with fail
                                        go_ret
                                        exact ⟨ret_b (shapeB_f fun S => hE2 (S.mA f g hfA hgA HTF.out).2.2), bel_next d5 (bel_next d7 hbl)⟩
                                    · have HE := Lib.hid hq
                                      clear hq
                                      go_wp2_with fail
                                      go_region_held3 (fun w' => Below w7.heap.size w7 w' ∧ w'.cell? ⟨b, 1, none⟩ = some (.slice (some ⟨bF, oF, none⟩) c.fr.length kF) ∧ w'.cell? ⟨b, 2, none⟩ = some (.slice (some ⟨bT, oT, none⟩) c.to.length kT) ∧ w'.cell? ⟨bF, oF + f, none⟩ = some (.int .i64 (c.F f)) ∧ w'.cell? ⟨bT, oT + g, none⟩ = some (.int .i64 (c.T g)))
                                        (first | exact ⟨(Drawn.one (Drawn.refl _)).bel0, c1, c2, cF, cT⟩ | (refine keep4 ?_ hb7; assumption))
                                        (first | (go_at_call 97; (with_reducible refine (HQ.out _).mono ?_); rintro e w' ⟨rfl, hd7⟩; have hb7 := hd7.bel0; clear hd7) | (go_at_call 109; (with_reducible refine (HE.out _ (pc.kept (And.left (by assumption)))).mono ?_); rintro e w' ⟨rfl, hb7⟩))
                                      obtain ⟨hbl, -, -, -, -⟩ := ‹Below w7.heap.size w7 _ ∧ _›
                                      go_wp2_with fail
                                      go_ret
                                      exact ⟨ret_b (shapeB_f fun S => hE1 (S.mA f g hfA hgA HTF.out).2.1), bel_next d5 (bel_next d7 hbl)⟩
                                  · simp only [Bool.not_eq_true] at hA
                                    have HQ := Lib.hid (fun W => calls_q (c_inRange (c.M f g) 0 (c.m - 1) W))
                                    go_wp2_with fail
                                    go_quiet (fail)
                                    have d7 := d6.trans ((Drawn.step (Drawn.refl _) nq).below _)
                                    clear c1 c2 cM cT cF W hb
                                    generalize wr.drewN nq = w7 at *
                                    go_wp2_with fail
                                    go_quiet ((go_at_call 97; with_reducible exact Calls.quiet_of (HQ.out _)))
                                    go_wp2_with fail
                                    go_ret
                                    refine ⟨ret_b (shapeB_f fun S => ?_), d7.trans ((Drawn.step (Drawn.refl _) nq).below _)⟩
                                    obtain ⟨⟨q1, q2⟩, -⟩ := S.mA f g hfA hgA HTF.out
                                    rw [inR_t ⟨q1, by omega⟩] at hA
                                    cases hA
                                · have hTb : (c.T f != c.F g) = true := by simp [hTF]
                                  have HTF := Lib.hid hTF
                                  clear hTF
                                  by_cases hM : c.M f g = -1
                                  · have hMb : (c.M f g != -1) = false := by simp [hM]
                                    have HM := Lib.hid hM
                                    clear hM
                                    go_wp2_with fail
                                    go_quiet (fail)
                                    go_wp2_with fail
                                    go_roundw
                                    case rel => exact ⟨g + 1, by omega, by go_num, hb.trans ((Drawn.step (Drawn.refl _) nq).below _), fun x h0 h1 => by
                                      by_cases e : x = g
                                      · subst e; exact ⟨fun _ => HM.out, fun e => absurd e HTF.out⟩
                                      · exact hp2.out x h0 (by omega)⟩
                                    case measure => simp [intOf]; omega
                                  · have hMb : (c.M f g != -1) = true := by simp [hM]
                                    have HM := Lib.hid hM
                                    clear hM
                                    go_wp2_with fail
                                    go_quiet (fail)
                                    go_wp2_with fail
                                    go_ret
                                    exact ⟨ret_b (shapeB_f fun S => HM.out (S.mN f g hfA hgA HTF.out)), d6.trans ((Drawn.step (Drawn.refl _) nq).below _)⟩
                              · have hke : (gr c.cm f).length = g := by omega
                                subst hke
                                have HROW : Hid (RowOk c f) := ⟨HLR.out, fun g hg => hp2.out g hg.1 (by have := HLR.out; have := hg.2; unfold Cat.m at this; omega)⟩
                                have hb6 := bel_next hbo hb
                                clear hp2
                                go_wp2_with fail
                                go_roundw
                                case rel => exact ⟨f + 1, by omega, by go_num, hb6, fun x h0 h1 => by
                                  by_cases e : x = f
                                  · subst e; exact HROW.out
                                  · exact hp.out x h0 (by omega)⟩
                                case measure => simp [intOf]; omega
                          · simp only [Bool.not_eq_false] at hlr
                            go_wp2_with fail
                            go_ret
                            refine ⟨ret_b (shapeB_f fun S => ?_), d5⟩
                            have := S.rl f hfA
                            simp [Cat.m] at hlr
                            simp at this; omega
                        · have hke : c.cm.length = f := by omega
                          subst hke
                          go_wp2_with fail
                          go_ret
                          exact ⟨ret_b (shapeB_t (HB.out.shape' HID.out fun f hf => hp.out f hf.1 (by have := HCM.out; have := hf.2; unfold Cat.m at this; omega))), bel_next d4 hb⟩
                · first | simp only [Bool.not_eq_true] at * | simp only [Bool.not_eq_false] at *
                  have HN : Hid (shapeB c = false) := shapeB_f fun S => by obtain ⟨-, -, -, -, -, e6, e7, e8⟩ := S.bs; simp_all
                  go_enter Try.func83, Try.ntmps83
                  go_wp2_with fail
                  refine (c_arrows P.out).mono ?_
                  rintro e w1 ⟨rfl, d1⟩
                  have V1 := V.drawn d1
                  have c0 := V1.c0
                  have c1 := V1.c1
                  have c2 := V1.c2
                  go_wp2_with fail
                  go_quiet ((first | (go_at_call 97; with_reducible exact Calls.quiet_of (HI.out _ _ _ _ (Drawn.step d1 _))) | (go_at_call 91; with_reducible exact Calls.quiet_of (HF.out _ (Drawn.step d1 _) (by assumption))) | (go_at_call 91; with_reducible exact Calls.quiet_of (HT.out _ (Drawn.step d1 _) (by assumption)))))
                  have d2 := Drawn.step d1 nq
                  have V2 := V.drawn d2
                  try clear c0
                  try clear c1
                  try clear c2
                  try clear c3
                  try clear c4
                  generalize w1.drewN nq = w2 at *
                  have c0 := V2.c0
                  have c1 := V2.c1
                  have c3 := V2.c3
                  have c4 := V2.c4
                  go_wp2_with fail
                  go_quiet ((go_at_call 91; with_reducible exact Calls.quiet_of (HX.out _ (Drawn.step d2 _))))
                  go_wp2_with fail
                  go_ret
                  exact ⟨ret_b HN.out, Drawn.below (Drawn.step d2 _) _⟩
              · first | simp only [Bool.not_eq_true] at * | simp only [Bool.not_eq_false] at *
                have HN : Hid (shapeB c = false) := shapeB_f fun S => by obtain ⟨-, -, -, -, -, e6, e7, e8⟩ := S.bs; simp_all
                go_enter Try.func83, Try.ntmps83
                go_wp2_with fail
                refine (c_arrows P.out).mono ?_
                rintro e w1 ⟨rfl, d1⟩
                have V1 := V.drawn d1
                have c0 := V1.c0
                have c1 := V1.c1
                have c2 := V1.c2
                go_wp2_with fail
                go_quiet ((first | (go_at_call 97; with_reducible exact Calls.quiet_of (HI.out _ _ _ _ (Drawn.step d1 _))) | (go_at_call 91; with_reducible exact Calls.quiet_of (HF.out _ (Drawn.step d1 _) (by assumption))) | (go_at_call 91; with_reducible exact Calls.quiet_of (HT.out _ (Drawn.step d1 _) (by assumption)))))
                have d2 := Drawn.step d1 nq
                have V2 := V.drawn d2
                try clear c0
                try clear c1
                try clear c2
                try clear c3
                try clear c4
                generalize w1.drewN nq = w2 at *
                have c0 := V2.c0
                have c1 := V2.c1
                have c3 := V2.c3
                have c4 := V2.c4
                go_wp2_with fail
                go_quiet ((go_at_call 91; with_reducible exact Calls.quiet_of (HX.out _ (Drawn.step d2 _))))
                go_wp2_with fail
                go_ret
                exact ⟨ret_b HN.out, Drawn.below (Drawn.step d2 _) _⟩
            · first | simp only [Bool.not_eq_true] at * | simp only [Bool.not_eq_false] at *
              have HN : Hid (shapeB c = false) := shapeB_f fun S => by obtain ⟨-, -, -, -, -, e6, e7, e8⟩ := S.bs; simp_all
              go_enter Try.func83, Try.ntmps83
              go_wp2_with fail
              refine (c_arrows P.out).mono ?_
              rintro e w1 ⟨rfl, d1⟩
              have V1 := V.drawn d1
              have c0 := V1.c0
              have c1 := V1.c1
              have c2 := V1.c2
              go_wp2_with fail
              go_quiet ((first | (go_at_call 97; with_reducible exact Calls.quiet_of (HI.out _ _ _ _ (Drawn.step d1 _))) | (go_at_call 91; with_reducible exact Calls.quiet_of (HF.out _ (Drawn.step d1 _) (by assumption))) | (go_at_call 91; with_reducible exact Calls.quiet_of (HT.out _ (Drawn.step d1 _) (by assumption)))))
              have d2 := Drawn.step d1 nq
              have V2 := V.drawn d2
              try clear c0
              try clear c1
              try clear c2
              try clear c3
              try clear c4
              generalize w1.drewN nq = w2 at *
              have c0 := V2.c0
              have c1 := V2.c1
              have c3 := V2.c3
              have c4 := V2.c4
              go_wp2_with fail
              go_quiet ((go_at_call 91; with_reducible exact Calls.quiet_of (HX.out _ (Drawn.step d2 _))))
              go_wp2_with fail
              go_ret
              exact ⟨ret_b HN.out, Drawn.below (Drawn.step d2 _) _⟩
          · first | simp only [Bool.not_eq_true] at * | simp only [Bool.not_eq_false] at *
            have HN : Hid (shapeB c = false) := shapeB_f fun S => by obtain ⟨e1, e2, e3, e4, e5, -, -, -⟩ := S.bs; simp_all
            go_enter Try.func83, Try.ntmps83
            go_wp2_with fail
            refine (c_arrows P.out).mono ?_
            rintro e w1 ⟨rfl, d1⟩
            have V1 := V.drawn d1
            have c0 := V1.c0
            have c1 := V1.c1
            have c2 := V1.c2
            go_wp2_with fail
            go_quiet ((first | (go_at_call 97; with_reducible exact Calls.quiet_of (HI.out _ _ _ _ (Drawn.step d1 _))) | (go_at_call 91; with_reducible exact Calls.quiet_of (HF.out _ (Drawn.step d1 _) (by assumption))) | (go_at_call 91; with_reducible exact Calls.quiet_of (HT.out _ (Drawn.step d1 _) (by assumption)))))
            go_wp2_with fail
            go_ret
            exact ⟨ret_b HN.out, Drawn.below (Drawn.step d1 _) _⟩
        · first | simp only [Bool.not_eq_true] at * | simp only [Bool.not_eq_false] at *
          have HN : Hid (shapeB c = false) := shapeB_f fun S => by obtain ⟨e1, e2, e3, e4, e5, -, -, -⟩ := S.bs; simp_all
          go_enter Try.func83, Try.ntmps83
          go_wp2_with fail
          refine (c_arrows P.out).mono ?_
          rintro e w1 ⟨rfl, d1⟩
          have V1 := V.drawn d1
          have c0 := V1.c0
          have c1 := V1.c1
          have c2 := V1.c2
          go_wp2_with fail
          go_quiet ((first | (go_at_call 97; with_reducible exact Calls.quiet_of (HI.out _ _ _ _ (Drawn.step d1 _))) | (go_at_call 91; with_reducible exact Calls.quiet_of (HF.out _ (Drawn.step d1 _) (by assumption))) | (go_at_call 91; with_reducible exact Calls.quiet_of (HT.out _ (Drawn.step d1 _) (by assumption)))))
          go_wp2_with fail
          go_ret
          exact ⟨ret_b HN.out, Drawn.below (Drawn.step d1 _) _⟩
      · first | simp only [Bool.not_eq_true] at * | simp only [Bool.not_eq_false] at *
        have HN : Hid (shapeB c = false) := shapeB_f fun S => by obtain ⟨e1, e2, e3, e4, e5, -, -, -⟩ := S.bs; simp_all
        go_enter Try.func83, Try.ntmps83
        go_wp2_with fail
        refine (c_arrows P.out).mono ?_
        rintro e w1 ⟨rfl, d1⟩
        have V1 := V.drawn d1
        have c0 := V1.c0
        have c1 := V1.c1
        have c2 := V1.c2
        go_wp2_with fail
        go_quiet ((first | (go_at_call 97; with_reducible exact Calls.quiet_of (HI.out _ _ _ _ (Drawn.step d1 _))) | (go_at_call 91; with_reducible exact Calls.quiet_of (HF.out _ (Drawn.step d1 _) (by assumption))) | (go_at_call 91; with_reducible exact Calls.quiet_of (HT.out _ (Drawn.step d1 _) (by assumption)))))
        go_wp2_with fail
        go_ret
        exact ⟨ret_b HN.out, Drawn.below (Drawn.step d1 _) _⟩
    · first | simp only [Bool.not_eq_true] at * | simp only [Bool.not_eq_false] at *
      have HN : Hid (shapeB c = false) := shapeB_f fun S => by obtain ⟨e1, e2, e3, e4, e5, -, -, -⟩ := S.bs; simp_all
      go_enter Try.func83, Try.ntmps83
      go_wp2_with fail
      refine (c_arrows P.out).mono ?_
      rintro e w1 ⟨rfl, d1⟩
      have V1 := V.drawn d1
      have c0 := V1.c0
      have c1 := V1.c1
      have c2 := V1.c2
      go_wp2_with fail
      go_quiet ((first | (go_at_call 97; with_reducible exact Calls.quiet_of (HI.out _ _ _ _ (Drawn.step d1 _))) | (go_at_call 91; with_reducible exact Calls.quiet_of (HF.out _ (Drawn.step d1 _) (by assumption))) | (go_at_call 91; with_reducible exact Calls.quiet_of (HT.out _ (Drawn.step d1 _) (by assumption)))))
      go_wp2_with fail
      go_ret
      exact ⟨ret_b HN.out, Drawn.below (Drawn.step d1 _) _⟩
  · first | simp only [Bool.not_eq_true] at * | simp only [Bool.not_eq_false] at *
    have HN : Hid (shapeB c = false) := shapeB_f fun S => by obtain ⟨e1, e2, e3, e4, e5, -, -, -⟩ := S.bs; simp_all
    go_enter Try.func83, Try.ntmps83
    go_wp2_with fail
    refine (c_arrows P.out).mono ?_
    rintro e w1 ⟨rfl, d1⟩
    have V1 := V.drawn d1
    have c0 := V1.c0
    have c1 := V1.c1
    have c2 := V1.c2
    go_wp2_with fail
    go_quiet ((first | (go_at_call 97; with_reducible exact Calls.quiet_of (HI.out _ _ _ _ (Drawn.step d1 _))) | (go_at_call 91; with_reducible exact Calls.quiet_of (HF.out _ (Drawn.step d1 _) (by assumption))) | (go_at_call 91; with_reducible exact Calls.quiet_of (HT.out _ (Drawn.step d1 _) (by assumption)))))
    go_wp2_with fail
    go_ret
    exact ⟨ret_b HN.out, Drawn.below (Drawn.step d1 _) _⟩
end Go.Proofs.Ytkmkbmhpdnddnaa
