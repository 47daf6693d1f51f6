/-
  SubstituteVariables of program and reference: the calls put together.
-/
import Derived.Test.YtmhhgaggkgcdbaaSubst
namespace Go.Proofs.Ytmhhgaggkgcdbaa
open Go.RowKit

noncomputable def substR (d : List Nd) (im : List Int) (n : Int) : List Nd × Int := if fmB d = true then (if im.length ≤ 4 ∧ inR n 0 4 = true ∧ allIn n im = true then @ite _ (sbOk im n d) (Classical.propDecidable _) (d.map (sbN im n), 0) ([], 3) else ([], 2)) else ([], 1)
theorem substR_1 {d : List Nd} {im : List Int} {n : Int} (h : ¬ fmB d = true) : substR d im n = ([], 1) := by unfold substR; rw [if_neg h]
theorem substR_2 {d : List Nd} {im : List Int} {n : Int} (h : fmB d = true) (h2 : ¬ (im.length ≤ 4 ∧ inR n 0 4 = true ∧ allIn n im = true)) : substR d im n = ([], 2) := by unfold substR; rw [if_pos h, if_neg h2]
theorem substR_3 {d : List Nd} {im : List Int} {n : Int} (h : fmB d = true) (h2 : im.length ≤ 4 ∧ inR n 0 4 = true ∧ allIn n im = true) (h3 : ¬ sbOk im n d) : substR d im n = ([], 3) := by unfold substR; rw [if_pos h, if_pos h2, if_neg h3]
theorem substR_0 {d : List Nd} {im : List Int} {n : Int} (h : fmB d = true) (h2 : im.length ≤ 4 ∧ inR n 0 4 = true ∧ allIn n im = true) (h3 : sbOk im n d) : substR d im n = (d.map (sbN im n), 0) := by unfold substR; rw [if_pos h, if_pos h2, if_pos h3]
set_option maxHeartbeats 1600000 in
theorem i_SubstituteVariables {w : World} {v vi : Value} {d : List Nd} {im : List Int} (h : INS w v d) (hI : IS w vi im) (n : Int) (hn64 : I64 n) :
    Calls Try.prog 17 #[v, vi, .int .i64 n] w (MkN w (substR d im n)) := by
  have HA := Lib.hid (fun W (hW : Below w.heap.size w W) => c_isFormula (h.kept hW))
  have hil := hI.len
  have hlen := h.len
  have hn1 := hn64.1
  have hn2 := hn64.2
  have HW := Lib.hid (fun (h0 : 0 ≤ n) (W : World) (hW : Below w.heap.size w W) => c_within (hI.kept hW) n h0 (by omega))
  have HS := Lib.hid (fun (hf : fmB d = true) (hn : inR n 0 4 = true) (hi : allIn n im = true) (W : World) (hW : Below w.heap.size w W) => c_substitute (h.kept hW) (hI.kept hW) hf hn hi)
  obtain ⟨au, cu, rfl⟩ := h.shape
  obtain ⟨ai, bi, oi, ci, rfl, -⟩ := hI.ex
  clear h hI hn64
  by_cases hA : fmB d = true
  · by_cases hl : im.length ≤ 4
    · have hlb : decide ((4 : Int) < (im.length : Int)) = false := decide_eq_false (by omega)
      by_cases hn : inR n 0 4 = true
      · have hnn : 0 ≤ n ∧ n ≤ 4 := by simpa [inR] using hn
        obtain ⟨hn0, hn4⟩ := hnn
        replace HW := Lib.hid (HW.out hn0)
        by_cases hi : allIn n im = true
        · have HS2 := Lib.hid (HS.out hA hn hi)
          have HC := Lib.hid (show im.length ≤ 4 ∧ inR n 0 4 = true ∧ allIn n im = true from ⟨hl, hn, hi⟩)
          clear HS
          go_enter Try.func17, Try.ntmps17
          go_wp2_with fail
          refine (HA.out _ (Below.refl _ _)).mono ?_
          rintro e w1 ⟨rfl, b1⟩
          go_wp2_with fail
          refine (c_inRange _ _ _ _).mono ?_
          rintro e w2 ⟨rfl, n2, rfl⟩
          have b2 := b1.trans (Drawn.below (w' := w1.drewN n2) ⟨_, rfl⟩ _)
          generalize w1.drewN n2 = w2 at *
          go_wp2_with fail
          refine (HW.out w2 b2).mono ?_
          rintro e w3 ⟨rfl, n3, rfl⟩
          have b3 := b2.trans (Drawn.below (w' := w2.drewN n3) ⟨_, rfl⟩ _)
          generalize w2.drewN n3 = w3 at *
          go_wp2_with fail
          refine (HS2.out _ b3).mono ?_
          rintro e w4 ⟨b4, hh⟩
          have b5 := bel_next b3 b4
          rcases hh with ⟨u, rfl, hok, ho⟩ | ⟨rfl, hno⟩
          · have hr := substR_0 hA HC.out hok
            obtain ⟨a4, c4, rfl⟩ := ho.opened
            have HO := Lib.hid ho
            clear ho
            go_wp2_with fail
            go_ret2
            rw [hr]
            exact ⟨_, rfl, ⟨by rw [dm_length]; exact HO.out.mono b3.size (Nat.le_refl _), by rw [dm_length]; exact hlen, Nat.le_refl _⟩, b5⟩
          · have hr := substR_3 hA HC.out hno
            go_wp2_with fail
            go_ret2
            exact mkN_nil hr b5
        · have hr := substR_2 hA (fun hh => hi hh.2.2)
          simp only [Bool.not_eq_true] at hi
          clear HS
          go_enter Try.func17, Try.ntmps17
          go_wp2_with fail
          refine (HA.out _ (Below.refl _ _)).mono ?_
          rintro e w1 ⟨rfl, b1⟩
          go_wp2_with fail
          refine (c_inRange _ _ _ _).mono ?_
          rintro e w2 ⟨rfl, n2, rfl⟩
          have b2 := b1.trans (Drawn.below (w' := w1.drewN n2) ⟨_, rfl⟩ _)
          generalize w1.drewN n2 = w2 at *
          go_wp2_with fail
          refine (HW.out w2 b2).mono ?_
          rintro e w3 ⟨rfl, n3, rfl⟩
          have b3 := b2.trans (Drawn.below (w' := w2.drewN n3) ⟨_, rfl⟩ _)
          generalize w2.drewN n3 = w3 at *
          go_wp2_with fail
          go_ret2
          exact mkN_nil hr b3
      · have hr := substR_2 (im := im) hA (fun hh => hn hh.2.1)
        simp only [Bool.not_eq_true] at hn
        clear HS HW
        go_enter Try.func17, Try.ntmps17
        go_wp2_with fail
        refine (HA.out _ (Below.refl _ _)).mono ?_
        rintro e w1 ⟨rfl, b1⟩
        go_wp2_with fail
        refine (c_inRange _ _ _ _).mono ?_
        rintro e w2 ⟨rfl, n2, rfl⟩
        have b2 := b1.trans (Drawn.below (w' := w1.drewN n2) ⟨_, rfl⟩ _)
        generalize w1.drewN n2 = w2 at *
        go_wp2_with fail
        go_ret2
        exact mkN_nil hr b2
    · have hlb : decide ((4 : Int) < (im.length : Int)) = true := decide_eq_true (by omega)
      have hr := substR_2 (im := im) (n := n) hA (fun hh => hl hh.1)
      clear HS HW
      go_enter Try.func17, Try.ntmps17
      go_wp2_with fail
      refine (HA.out _ (Below.refl _ _)).mono ?_
      rintro e w1 ⟨rfl, b1⟩
      go_wp2_with fail
      go_ret2
      exact mkN_nil hr b1
  · have hr := substR_1 (im := im) (n := n) hA
    simp only [Bool.not_eq_true] at hA
    clear HS HW
    go_enter Try.func17, Try.ntmps17
    go_wp2_with fail
    refine (HA.out _ (Below.refl _ _)).mono ?_
    rintro e w1 ⟨rfl, b1⟩
    go_wp2_with fail
    go_ret2
    exact mkN_nil hr b1
set_option maxHeartbeats 1600000 in
theorem s_SubstituteVariables {w : World} {v vi : Value} {d : List Nd} {im : List Int} (h : INS w v d) (hI : IS w vi im) (n : Int) (hn64 : I64 n) :
    Calls Try.prog 15 #[v, vi, .int .i64 n] w (MkN w (substR d im n)) := by
  have HA := Lib.hid (fun W (hW : Below w.heap.size w W) => s_IsFormula (h.kept hW))
  have hil := hI.len
  have hlen := h.len
  have hn1 := hn64.1
  have hn2 := hn64.2
  have HW := Lib.hid (fun (W : World) (hW : Below w.heap.size w W) => c_l01Map (hI.kept hW) n)
  have HS := Lib.hid (fun (hf : fmB d = true) (hn : inR n 0 4 = true) (hi : allIn n im = true) (W : World) (hW : Below w.heap.size w W) => c_l29Replace (h.kept hW) (hI.kept hW) hf hn hi)
  obtain ⟨au, cu, rfl⟩ := h.shape
  obtain ⟨ai, bi, oi, ci, rfl, -⟩ := hI.ex
  clear h hI hn64
  by_cases hA : fmB d = true
  · by_cases hl : im.length ≤ 4
    · have hlb : decide ((4 : Int) < (im.length : Int)) = false := decide_eq_false (by omega)
      by_cases hn : inR n 0 4 = true
      · have hnn : 0 ≤ n ∧ n ≤ 4 := by simpa [inR] using hn
        obtain ⟨hn0, hn4⟩ := hnn
        by_cases hi : allIn n im = true
        · have HS2 := Lib.hid (HS.out hA hn hi)
          have HC := Lib.hid (show im.length ≤ 4 ∧ inR n 0 4 = true ∧ allIn n im = true from ⟨hl, hn, hi⟩)
          clear HS
          go_enter Try.func15, Try.ntmps15
          go_wp2_with fail
          refine (HA.out _ (Below.refl _ _)).mono ?_
          rintro e w1 ⟨rfl, b1⟩
          go_wp2_with fail
          refine (c_l01In _ _ _ _).mono ?_
          rintro e w2 ⟨rfl, n2, rfl⟩
          have b2 := b1.trans (Drawn.below (w' := w1.drewN n2) ⟨_, rfl⟩ _)
          generalize w1.drewN n2 = w2 at *
          go_wp2_with fail
          refine (HW.out w2 b2).mono ?_
          rintro e w3 ⟨rfl, n3, rfl⟩
          have b3 := b2.trans (Drawn.below (w' := w2.drewN n3) ⟨_, rfl⟩ _)
          generalize w2.drewN n3 = w3 at *
          go_wp2_with fail
          refine (HS2.out _ b3).mono ?_
          rintro e w4 ⟨b4, hh⟩
          have b5 := bel_next b3 b4
          rcases hh with ⟨u, rfl, hok, ho⟩ | ⟨rfl, hno⟩
          · have hr := substR_0 hA HC.out hok
            obtain ⟨a4, c4, rfl⟩ := ho.opened
            have HO := Lib.hid ho
            clear ho
            go_wp2_with fail
            go_ret2
            rw [hr]
            exact ⟨_, rfl, ⟨by rw [dm_length]; exact HO.out.mono b3.size (Nat.le_refl _), by rw [dm_length]; exact hlen, Nat.le_refl _⟩, b5⟩
          · have hr := substR_3 hA HC.out hno
            go_wp2_with fail
            go_ret2
            exact mkN_nil hr b5
        · have hr := substR_2 hA (fun hh => hi hh.2.2)
          simp only [Bool.not_eq_true] at hi
          clear HS
          go_enter Try.func15, Try.ntmps15
          go_wp2_with fail
          refine (HA.out _ (Below.refl _ _)).mono ?_
          rintro e w1 ⟨rfl, b1⟩
          go_wp2_with fail
          refine (c_l01In _ _ _ _).mono ?_
          rintro e w2 ⟨rfl, n2, rfl⟩
          have b2 := b1.trans (Drawn.below (w' := w1.drewN n2) ⟨_, rfl⟩ _)
          generalize w1.drewN n2 = w2 at *
          go_wp2_with fail
          refine (HW.out w2 b2).mono ?_
          rintro e w3 ⟨rfl, n3, rfl⟩
          have b3 := b2.trans (Drawn.below (w' := w2.drewN n3) ⟨_, rfl⟩ _)
          generalize w2.drewN n3 = w3 at *
          go_wp2_with fail
          go_ret2
          exact mkN_nil hr b3
      · have hr := substR_2 (im := im) hA (fun hh => hn hh.2.1)
        simp only [Bool.not_eq_true] at hn
        clear HS HW
        go_enter Try.func15, Try.ntmps15
        go_wp2_with fail
        refine (HA.out _ (Below.refl _ _)).mono ?_
        rintro e w1 ⟨rfl, b1⟩
        go_wp2_with fail
        refine (c_l01In _ _ _ _).mono ?_
        rintro e w2 ⟨rfl, n2, rfl⟩
        have b2 := b1.trans (Drawn.below (w' := w1.drewN n2) ⟨_, rfl⟩ _)
        generalize w1.drewN n2 = w2 at *
        go_wp2_with fail
        go_ret2
        exact mkN_nil hr b2
    · have hlb : decide ((4 : Int) < (im.length : Int)) = true := decide_eq_true (by omega)
      have hr := substR_2 (im := im) (n := n) hA (fun hh => hl hh.1)
      clear HS HW
      go_enter Try.func15, Try.ntmps15
      go_wp2_with fail
      refine (HA.out _ (Below.refl _ _)).mono ?_
      rintro e w1 ⟨rfl, b1⟩
      go_wp2_with fail
      go_ret2
      exact mkN_nil hr b1
  · have hr := substR_1 (im := im) (n := n) hA
    simp only [Bool.not_eq_true] at hA
    clear HS HW
    go_enter Try.func15, Try.ntmps15
    go_wp2_with fail
    refine (HA.out _ (Below.refl _ _)).mono ?_
    rintro e w1 ⟨rfl, b1⟩
    go_wp2_with fail
    go_ret2
    exact mkN_nil hr b1
end Go.Proofs.Ytmhhgaggkgcdbaa
