/-
  The reference's l03Made and MonoidCategory.
-/
import Derived.Test.YtgjinjenijjiiaaMono2
namespace Go.Proofs.Ytgjinjenijjiiaa
open Go.RowKit

def fitsB (n : Int) (k : Nat) : Bool := decide (n ≤ 8) && decide (k ≤ 40)
theorem c_l03Made_yes {w : World} {n : Int} {a : Option Addr} {k cc : Nat} {aT aI aC : Option Addr} {nT kT nI kI nC kC : Nat} (hk : k ≤ 4294967296) (hf : fitsB n k = true) :
    Calls Try.prog 30 #[.agg #[.int .i64 n, .slice a k cc, .slice aT nT kT, .slice aI nI kI, .slice aC nC kC]] w (fun e w' => e = .returned (.tuple #[.agg #[.int .i64 n, .slice a k cc, .slice aT nT kT, .slice aI nI kI, .slice aC nC kC], .int .i64 0]) ∧ Below w.heap.size w w') := by
  have HF := Lib.hid hf
  have hnew := RS.new (w := w) (W := w.alloc (.cells #[.int .i64 n, .slice a k cc, .slice aT nT kT, .slice aI nI kI, .slice aC nC kC] 26)) (T := 26) (x0 := .int .i64 0) (x1 := .slice none 0 0) (x2 := .slice none 0 0) (x3 := .slice none 0 0) (x4 := .slice none 0 0) (bel_alloc (Below.refl _ _) _)
  have hz : w.heap.size < ((w.alloc (.cells #[.int .i64 n, .slice a k cc, .slice aT nT kT, .slice aI nI kI, .slice aC nC kC] 26)).alloc (.cells #[.int .i64 0, .slice none 0 0, .slice none 0 0, .slice none 0 0, .slice none 0 0] 26)).heap.size := by simp; omega
  have k0 : ((w.alloc (.cells #[.int .i64 n, .slice a k cc, .slice aT nT kT, .slice aI nI kI, .slice aC nC kC] 26)).alloc (.cells #[.int .i64 0, .slice none 0 0, .slice none 0 0, .slice none 0 0, .slice none 0 0] 26)).cell? ⟨w.heap.size, 0, none⟩ = some (.int .i64 n) := by simp
  have k1 : ((w.alloc (.cells #[.int .i64 n, .slice a k cc, .slice aT nT kT, .slice aI nI kI, .slice aC nC kC] 26)).alloc (.cells #[.int .i64 0, .slice none 0 0, .slice none 0 0, .slice none 0 0, .slice none 0 0] 26)).cell? ⟨w.heap.size, 1, none⟩ = some (.slice a k cc) := by simp
  have k2 : ((w.alloc (.cells #[.int .i64 n, .slice a k cc, .slice aT nT kT, .slice aI nI kI, .slice aC nC kC] 26)).alloc (.cells #[.int .i64 0, .slice none 0 0, .slice none 0 0, .slice none 0 0, .slice none 0 0] 26)).cell? ⟨w.heap.size, 2, none⟩ = some (.slice aT nT kT) := by simp
  have k3 : ((w.alloc (.cells #[.int .i64 n, .slice a k cc, .slice aT nT kT, .slice aI nI kI, .slice aC nC kC] 26)).alloc (.cells #[.int .i64 0, .slice none 0 0, .slice none 0 0, .slice none 0 0, .slice none 0 0] 26)).cell? ⟨w.heap.size, 3, none⟩ = some (.slice aI nI kI) := by simp
  have k4 : ((w.alloc (.cells #[.int .i64 n, .slice a k cc, .slice aT nT kT, .slice aI nI kI, .slice aC nC kC] 26)).alloc (.cells #[.int .i64 0, .slice none 0 0, .slice none 0 0, .slice none 0 0, .slice none 0 0] 26)).cell? ⟨w.heap.size, 4, none⟩ = some (.slice aC nC kC) := by simp
  clear hf
  go_enter Try.func30, Try.ntmps30
  go_wp2_with fail
  generalize (w.alloc (.cells #[.int .i64 n, .slice a k cc, .slice aT nT kT, .slice aI nI kI, .slice aC nC kC] 26)).alloc (.cells #[.int .i64 0, .slice none 0 0, .slice none 0 0, .slice none 0 0, .slice none 0 0] 26) = W0 at *
  simp only [World.size_alloc] at hnew
  refine (c_l02Fits (w := W0) (n := n) (a := a) (k := k) (cc := cc) (vt := .slice aT nT kT) (vi := .slice aI nI kI) (vc := .slice aC nC kC) hk).mono ?_
  rintro e w1 ⟨rfl, b1⟩
  rw [show (decide (n ≤ 8) && decide (k ≤ 40)) = fitsB n k from rfl, HF.out]
  have R1 := hnew.call b1
  obtain ⟨-, x0, x1, x2, x3, x4, f0, f1, f2, f3, f4⟩ := R1.all
  replace k0 := upc b1 k0
  replace k1 := upc b1 k1
  replace k2 := upc b1 k2
  replace k3 := upc b1 k3
  replace k4 := upc b1 k4
  clear b1 hnew hz
  go_wp2_with fail
  refine bodyPost_ret (results_cell_row2 rfl _ _ (w.heap.size + 1) 26 #[_, _, _, _, _] (0, 0) _ (by rfl) (RS.five (w := w) R1 _ _ _ _ _) Try.underlying26 rfl (by kernel_rfl)) rfl ?_
  exact ⟨rfl, R1.five_bel _ _ _ _ _⟩
theorem c_l03Made_no {w : World} {n : Int} {a : Option Addr} {k cc : Nat} {aT aI aC : Option Addr} {nT kT nI kI nC kC : Nat} (hk : k ≤ 4294967296) (hf : fitsB n k = false) :
    Calls Try.prog 30 #[.agg #[.int .i64 n, .slice a k cc, .slice aT nT kT, .slice aI nI kI, .slice aC nC kC]] w (fun e w' => e = .returned (.tuple #[.agg #[.int .i64 0, .slice none 0 0, .slice none 0 0, .slice none 0 0, .slice none 0 0], .int .i64 3]) ∧ Below w.heap.size w w') := by
  have HF := Lib.hid hf
  have hnew := RS.new (w := w) (W := w.alloc (.cells #[.int .i64 n, .slice a k cc, .slice aT nT kT, .slice aI nI kI, .slice aC nC kC] 26)) (T := 26) (x0 := .int .i64 0) (x1 := .slice none 0 0) (x2 := .slice none 0 0) (x3 := .slice none 0 0) (x4 := .slice none 0 0) (bel_alloc (Below.refl _ _) _)
  have hz : w.heap.size < ((w.alloc (.cells #[.int .i64 n, .slice a k cc, .slice aT nT kT, .slice aI nI kI, .slice aC nC kC] 26)).alloc (.cells #[.int .i64 0, .slice none 0 0, .slice none 0 0, .slice none 0 0, .slice none 0 0] 26)).heap.size := by simp; omega
  have k0 : ((w.alloc (.cells #[.int .i64 n, .slice a k cc, .slice aT nT kT, .slice aI nI kI, .slice aC nC kC] 26)).alloc (.cells #[.int .i64 0, .slice none 0 0, .slice none 0 0, .slice none 0 0, .slice none 0 0] 26)).cell? ⟨w.heap.size, 0, none⟩ = some (.int .i64 n) := by simp
  have k1 : ((w.alloc (.cells #[.int .i64 n, .slice a k cc, .slice aT nT kT, .slice aI nI kI, .slice aC nC kC] 26)).alloc (.cells #[.int .i64 0, .slice none 0 0, .slice none 0 0, .slice none 0 0, .slice none 0 0] 26)).cell? ⟨w.heap.size, 1, none⟩ = some (.slice a k cc) := by simp
  have k2 : ((w.alloc (.cells #[.int .i64 n, .slice a k cc, .slice aT nT kT, .slice aI nI kI, .slice aC nC kC] 26)).alloc (.cells #[.int .i64 0, .slice none 0 0, .slice none 0 0, .slice none 0 0, .slice none 0 0] 26)).cell? ⟨w.heap.size, 2, none⟩ = some (.slice aT nT kT) := by simp
  have k3 : ((w.alloc (.cells #[.int .i64 n, .slice a k cc, .slice aT nT kT, .slice aI nI kI, .slice aC nC kC] 26)).alloc (.cells #[.int .i64 0, .slice none 0 0, .slice none 0 0, .slice none 0 0, .slice none 0 0] 26)).cell? ⟨w.heap.size, 3, none⟩ = some (.slice aI nI kI) := by simp
  have k4 : ((w.alloc (.cells #[.int .i64 n, .slice a k cc, .slice aT nT kT, .slice aI nI kI, .slice aC nC kC] 26)).alloc (.cells #[.int .i64 0, .slice none 0 0, .slice none 0 0, .slice none 0 0, .slice none 0 0] 26)).cell? ⟨w.heap.size, 4, none⟩ = some (.slice aC nC kC) := by simp
  clear hf
  go_enter Try.func30, Try.ntmps30
  go_wp2_with fail
  generalize (w.alloc (.cells #[.int .i64 n, .slice a k cc, .slice aT nT kT, .slice aI nI kI, .slice aC nC kC] 26)).alloc (.cells #[.int .i64 0, .slice none 0 0, .slice none 0 0, .slice none 0 0, .slice none 0 0] 26) = W0 at *
  simp only [World.size_alloc] at hnew
  refine (c_l02Fits (w := W0) (n := n) (a := a) (k := k) (cc := cc) (vt := .slice aT nT kT) (vi := .slice aI nI kI) (vc := .slice aC nC kC) hk).mono ?_
  rintro e w1 ⟨rfl, b1⟩
  rw [show (decide (n ≤ 8) && decide (k ≤ 40)) = fitsB n k from rfl, HF.out]
  have R1 := hnew.call b1
  obtain ⟨-, x0, x1, x2, x3, x4, f0, f1, f2, f3, f4⟩ := R1.all
  replace k0 := upc b1 k0
  replace k1 := upc b1 k1
  replace k2 := upc b1 k2
  replace k3 := upc b1 k3
  replace k4 := upc b1 k4
  clear b1 hnew hz
  go_wp2_with fail
  refine bodyPost_ret (results_cell_row2 rfl _ _ (w.heap.size + 1) 26 #[_, _, _, _, _] (0, 0) _ (by rfl) (RS.five (w := w) R1 _ _ _ _ _) Try.underlying26 rfl (by kernel_rfl)) rfl ?_
  exact ⟨rfl, R1.five_bel _ _ _ _ _⟩
theorem monR_bad {t : List (List Int)} (h : ¬ Mon t) : monR t = (nilC, 1) := by
  unfold monR
  rw [if_neg]
  exact fun e => h (dB_s e)
set_option maxHeartbeats 3200000 in
theorem s_MonoidCategory {w : World} {v : Value} {t : List (List Int)} (h : ISS w v t) : Calls Try.prog 9 #[v] w (MkC w (monR t)) := by
  have hlen := h.len
  have HI := Lib.hid h
  have HQ := Lib.hid (fun W (hW : Below w.heap.size w W) => c_l03Square (h.kept hW) (t.length : Int))
  have HMo := Lib.hid (fun W (hW : Below w.heap.size w W) => c_l03Monoid (h.kept hW))
  have hz : w.heap.size < (w.alloc (.cells #[.int .i64 0, .slice none 0 0, .slice none 0 0, .slice none 0 0, .slice none 0 0] 26)).heap.size := by simp
  obtain ⟨ao, b, o, c, R, rfl, ha, hc, hr⟩ := h.ex
  clear h
  by_cases h0 : t.length = 0
  · have h0b : ((t.length : Int) == 0) = true := by simp [h0]
    have hr : monR t = (nilC, 1) := monR_bad fun M => by have := M.pos; omega
    clear HQ HMo
    go_enter Try.func9, Try.ntmps9
    go_wp2_with fail
    have B0 : RS w w.heap.size 26 _ := RS.start (x0 := .int .i64 0) (x1 := .slice none 0 0) (x2 := .slice none 0 0) (x3 := .slice none 0 0) (x4 := .slice none 0 0) 0
    refine bodyPost_ret (results_cell_row2 rfl _ _ w.heap.size 26 #[_, _, _, _, _] (0, 0) _ (by rfl) (heap_alloc_new w _) Try.underlying26 rfl (by kernel_rfl)) rfl ?_
    exact mkC_nil hr (bel_alloc (Below.refl _ _) _)
  · have h0b : ((t.length : Int) == 0) = false := by simp [h0]
    have H0 := Lib.hid (show 0 < t.length by omega)
    by_cases hs : dB (Sq t.length t) = true
    · have hsq := dB_s hs
      go_enter Try.func9, Try.ntmps9
      go_wp2_with fail
      refine (HQ.out _ (bel_alloc (Below.refl _ _) _)).mono ?_
      rintro e w' ⟨rfl, n1, rfl⟩
      have B0 : RS w w.heap.size 26 (w.alloc (.cells #[.int .i64 0, .slice none 0 0, .slice none 0 0, .slice none 0 0, .slice none 0 0] 26)) := RS.start (x0 := .int .i64 0) (x1 := .slice none 0 0) (x2 := .slice none 0 0) (x3 := .slice none 0 0) (x4 := .slice none 0 0) 0
      generalize w.alloc (.cells #[.int .i64 0, .slice none 0 0, .slice none 0 0, .slice none 0 0, .slice none 0 0] 26) = W0 at *
      obtain ⟨bR, oR, kR, hv⟩ := rows_view (fun i hi => (hr i hi).kept B0.bel) (fun i hi => (hsq i hi).1)
      have HV := Lib.hid hv
      have HS := Lib.hid hsq
      have hc2 : ∀ i, i < t.length → W0.cell? ⟨b, o + i, none⟩ = some (.slice (some ⟨bR i, oR i, none⟩) t.length (kR i)) := fun i hi => by rw [upc B0.bel (hc i hi), (HV.out i hi).1]
      have HC := Lib.hid hc2
      clear hv hsq hc hc2 hr HQ
      go_wp2_with fail
      go_loopw [4, 5, 6] (fun i _ _ wr => ∃ k m : Nat, k ≤ t.length ∧ i = .int .i64 k ∧ wr = W0.drewN m ∧ Hid (∀ x, x < k → MonRow t x)) (fun i _ _ _ => t.length - (intOf i).toNat)
      case atStart => first | exact ⟨0, 0, Nat.zero_le _, rfl, rfl, fun j hj => by omega⟩ | exact ⟨0, _, Nat.zero_le _, rfl, rfl, fun j hj => by omega⟩
      case round =>
        obtain ⟨x, m2, hx, rfl, rfl, hp⟩ := hrel
        by_cases hltx : x < t.length
        · obtain rfl := ha (by omega)
          have cr := HC.out x hltx
          have c0 := HC.out 0 (by omega)
          have ck := (HV.out x hltx).2 0 (by omega)
          have ck0 := (HV.out 0 (by omega)).2 x hltx
          simp only [Nat.add_zero] at c0 ck
          have p0 : (0 : Int) < (t.length : Int) := by omega
          have q0 : (0 : Int) ≤ (0 : Int) := by omega
          by_cases h1 : ge t 0 x = x
          · have h1b : (ge t 0 x != (x : Int)) = false := by simp [h1]
            by_cases h2 : ge t x 0 = x
            · have h2b : (ge t x 0 != (x : Int)) = false := by simp [h2]
              have H1 := Lib.hid h1
              have H2 := Lib.hid h2
              clear h1 h2
              go_wp2_with fail
              go_loopw [5, 6] (fun i _ wr => ∃ k m : Nat, k ≤ t.length ∧ i = .int .i64 k ∧ wr = W0.drewN m ∧ Hid (∀ y z, y < k → z < t.length → ge t (ge t x y).toNat z = ge t x (ge t y z).toNat)) (fun i _ _ => t.length - (intOf i).toNat)
              case atStart => exact ⟨0, _, Nat.zero_le _, rfl, rfl, fun y z hj => by omega⟩
              case round =>
                obtain ⟨y, m3, hy, rfl, rfl, hp2⟩ := hrel
                by_cases hlty : y < t.length
                · go_wp2_with fail
                  go_loopw [6] (fun i wr => ∃ k m : Nat, k ≤ t.length ∧ i = .int .i64 k ∧ wr = W0.drewN m ∧ Hid (∀ z, z < k → ge t (ge t x y).toNat z = ge t x (ge t y z).toNat)) (fun i _ => t.length - (intOf i).toNat)
                  case atStart => exact ⟨0, _, Nat.zero_le _, rfl, rfl, fun z hj => by omega⟩
                  case round =>
                    obtain ⟨z, m4, hz, rfl, rfl, hp3⟩ := hrel
                    by_cases hltz : z < t.length
                    · have e1 := HS.out.ent hltx hlty
                      have e2 := HS.out.ent hlty hltz
                      obtain ⟨p, hpe⟩ : ∃ p : Nat, ge t x y = (p : Int) := ⟨(ge t x y).toNat, by omega⟩
                      obtain ⟨q, hqe⟩ : ∃ q : Nat, ge t y z = (q : Int) := ⟨(ge t y z).toNat, by omega⟩
                      have hpl : p < t.length := by omega
                      have hql : q < t.length := by omega
                      have rx := HC.out x hltx
                      have ry := HC.out y hlty
                      have rp := HC.out p hpl
                      have cxy := (HV.out x hltx).2 y hlty
                      have cyz := (HV.out y hlty).2 z hltz
                      have cpz := (HV.out p hpl).2 z hltz
                      have cxq := (HV.out x hltx).2 q hql
                      rw [hpe] at cxy
                      rw [hqe] at cyz
                      have HP := Lib.hid hpe
                      have HQ := Lib.hid hqe
                      clear hpe hqe e1 e2 cr c0 ck ck0
                      by_cases he : ge t p z = ge t x q
                      · have heb : (ge t p z != ge t x q) = false := by simp [he]
                        have HE := Lib.hid he
                        clear he
                        go_wp2_with fail
                        go_quiet (fail)
                        go_wp2_with fail
                        go_roundw
                        case rel => exact ⟨z + 1, _, by omega, by go_num, rfl, fun j hj => by
                          by_cases e : j = z
                          · subst e; rw [HP.out, HQ.out]; simpa using HE.out
                          · exact hp3.out j (by omega)⟩
                        case measure => simp [intOf]; omega
                      · have heb : (ge t p z != ge t x q) = true := by simp [he]
                        have HE := Lib.hid he
                        clear he
                        go_wp2_with fail
                        go_quiet (fail)
                        obtain ⟨-, x0, x1, x2, x3, x4, f0, f1, f2, f3, f4⟩ := B0.all
                        go_wp2_with fail
                        refine bodyPost_ret (results_cell_row2 rfl _ _ w.heap.size 26 #[_, _, _, _, _] (0, 0) _ (by rfl) (RS.five (w := w) ?hR _ _ _ _ _) Try.underlying26 rfl (by kernel_rfl)) rfl ?hF
                        case hR => first | exact B0.drawn (by repeat (first | exact Drawn.refl _ | refine Drawn.step ?_ _ | refine Drawn.one ?_)) | exact B0
                        case hF => exact mkC_nil5 (T := 26) (by first | exact B0.drawn (by repeat (first | exact Drawn.refl _ | refine Drawn.step ?_ _ | refine Drawn.one ?_)) | exact B0) (monR_bad fun MM => by have M := (mon_iff.1 MM).2.2; exact (HE.out (by have := (M x hltx).2.2 y z hlty hltz; rw [HP.out, HQ.out] at this; simpa using this)))
                    · have hk' : t.length = z := by omega
                      subst hk'
                      have HZ := Lib.hid (show ∀ z, z < t.length → ge t (ge t x y).toNat z = ge t x (ge t y z).toNat from hp3.out)
                      clear hp3
                      go_wp2_with fail
                      go_roundw
                      case rel => exact ⟨y + 1, _, by omega, by go_num, rfl, fun j z hj hz => by
                        by_cases e : j = y
                        · subst e; exact HZ.out z hz
                        · exact hp2.out j z (by omega) hz⟩
                      case measure => simp [intOf]; omega
                · have hk' : t.length = y := by omega
                  subst hk'
                  have HY := Lib.hid (show ∀ y z, y < t.length → z < t.length → ge t (ge t x y).toNat z = ge t x (ge t y z).toNat from hp2.out)
                  clear hp2
                  go_wp2_with fail
                  go_roundw
                  case rel => exact ⟨x + 1, _, by omega, by go_num, rfl, fun j hj => by
                    by_cases e : j = x
                    · subst e; exact ⟨H2.out, H1.out, HY.out⟩
                    · exact hp.out j (by omega)⟩
                  case measure => simp [intOf]; omega
            · have h2b : (ge t x 0 != (x : Int)) = true := by simp [h2]
              have H2 := Lib.hid h2
              clear h1 h2
              obtain ⟨-, x0, x1, x2, x3, x4, f0, f1, f2, f3, f4⟩ := B0.all
              go_wp2_with fail
              refine bodyPost_ret (results_cell_row2 rfl _ _ w.heap.size 26 #[_, _, _, _, _] (0, 0) _ (by rfl) (RS.five (w := w) ?hR _ _ _ _ _) Try.underlying26 rfl (by kernel_rfl)) rfl ?hF
              case hR => first | exact B0.drawn (by repeat (first | exact Drawn.refl _ | refine Drawn.step ?_ _ | refine Drawn.one ?_)) | exact B0
              case hF => exact mkC_nil5 (T := 26) (by first | exact B0.drawn (by repeat (first | exact Drawn.refl _ | refine Drawn.step ?_ _ | refine Drawn.one ?_)) | exact B0) (monR_bad fun MM => by have M := (mon_iff.1 MM).2.2; exact (H2.out (M x hltx).1))
          · have h1b : (ge t 0 x != (x : Int)) = true := by simp [h1]
            have H1 := Lib.hid h1
            clear h1
            obtain ⟨-, x0, x1, x2, x3, x4, f0, f1, f2, f3, f4⟩ := B0.all
            go_wp2_with fail
            refine bodyPost_ret (results_cell_row2 rfl _ _ w.heap.size 26 #[_, _, _, _, _] (0, 0) _ (by rfl) (RS.five (w := w) ?hR _ _ _ _ _) Try.underlying26 rfl (by kernel_rfl)) rfl ?hF
            case hR => first | exact B0.drawn (by repeat (first | exact Drawn.refl _ | refine Drawn.step ?_ _ | refine Drawn.one ?_)) | exact B0
            case hF => exact mkC_nil5 (T := 26) (by first | exact B0.drawn (by repeat (first | exact Drawn.refl _ | refine Drawn.step ?_ _ | refine Drawn.one ?_)) | exact B0) (monR_bad fun MM => by have M := (mon_iff.1 MM).2.2; exact (H1.out (M x hltx).2.1))
        · have hk' : t.length = x := by omega
          subst hk'
          have HM := Lib.hid (show ∀ x, x < t.length → MonRow t x from hp.out)
          clear hp
          by_cases hl : t.length ≤ 40
          · have hr : monR t = (monC t, 0) := by unfold monR; rw [if_pos (dB_t (mon_iff.2 ⟨H0.out, HS.out, HM.out⟩)), if_pos hl]
            have hff : fitsB 1 t.length = true := by simp [fitsB, hl]
            go_wp2_with fail
            refine (HMo.out _ ?_).mono ?_
            case refine_1 => exact B0.bel.trans (Drawn.below (by repeat (first | exact Drawn.refl _ | refine Drawn.step ?_ _ | refine Drawn.one ?_)) _)
            rintro e w1 ⟨u, rfl, ⟨aF, kF, aT, nT, kT, aI, nI, kI, aC, nC, kC, rfl, ho⟩, b1⟩
            have R1 := RS.call (B0.drawn (by repeat (first | exact Drawn.refl _ | refine Drawn.step ?_ _ | refine Drawn.one ?_))) b1
            replace ho := ho (mon_len HS.out hl)
            have hB : w.heap.size < W0.heap.size := B0.lt
            clear HMo HV HC
            go_wp2_with fail
            refine (c_l03Made_yes hlen hff).mono ?_
            rintro e w2 ⟨rfl, b2⟩
            have R2 := R1.call b2
            replace ho := ho.keptB b2
            obtain ⟨-, x0, x1, x2, x3, x4, f0, f1, f2, f3, f4⟩ := R2.all
            clear b1 b2
            go_wp2_with fail
            refine bodyPost_ret (results_cell_row2 rfl _ _ w.heap.size 26 #[_, _, _, _, _] (0, 0) _ (by rfl) (RS.five (w := w) R2 _ _ _ _ _) Try.underlying26 rfl (by kernel_rfl)) rfl ?_
            rw [hr]
            exact mkC_put R2 0 ho (by simpa using hB)
          · have hr : monR t = (nilC, 3) := by unfold monR; rw [if_pos (dB_t (mon_iff.2 ⟨H0.out, HS.out, HM.out⟩)), if_neg hl]
            have hff : fitsB 1 t.length = false := by simp [fitsB]; omega
            go_wp2_with fail
            refine (HMo.out _ ?_).mono ?_
            case refine_1 => exact B0.bel.trans (Drawn.below (by repeat (first | exact Drawn.refl _ | refine Drawn.step ?_ _ | refine Drawn.one ?_)) _)
            rintro e w1 ⟨u, rfl, ⟨aF, kF, aT, nT, kT, aI, nI, kI, aC, nC, kC, rfl, -⟩, b1⟩
            have R1 := RS.call (B0.drawn (by repeat (first | exact Drawn.refl _ | refine Drawn.step ?_ _ | refine Drawn.one ?_))) b1
            clear HMo HV HC
            go_wp2_with fail
            refine (c_l03Made_no hlen hff).mono ?_
            rintro e w2 ⟨rfl, b2⟩
            have R2 := R1.call b2
            obtain ⟨-, x0, x1, x2, x3, x4, f0, f1, f2, f3, f4⟩ := R2.all
            clear b1 b2
            go_wp2_with fail
            refine bodyPost_ret (results_cell_row2 rfl _ _ w.heap.size 26 #[_, _, _, _, _] (0, 0) _ (by rfl) (RS.five (w := w) R2 _ _ _ _ _) Try.underlying26 rfl (by kernel_rfl)) rfl ?_
            exact mkC_nil5 R2 hr
    · have hr : monR t = (nilC, 1) := monR_bad fun M => hs (dB_t M.sq)
      simp only [Bool.not_eq_true] at hs
      go_enter Try.func9, Try.ntmps9
      go_wp2_with fail
      refine (HQ.out _ (bel_alloc (Below.refl _ _) _)).mono ?_
      rintro e w' ⟨rfl, n1, rfl⟩
      have B0 : RS w w.heap.size 26 (w.alloc (.cells #[.int .i64 0, .slice none 0 0, .slice none 0 0, .slice none 0 0, .slice none 0 0] 26)) := RS.start (x0 := .int .i64 0) (x1 := .slice none 0 0) (x2 := .slice none 0 0) (x3 := .slice none 0 0) (x4 := .slice none 0 0) 0
      generalize w.alloc (.cells #[.int .i64 0, .slice none 0 0, .slice none 0 0, .slice none 0 0, .slice none 0 0] 26) = W0 at *
      obtain ⟨-, x0, x1, x2, x3, x4, f0, f1, f2, f3, f4⟩ := B0.all
      go_wp2_with fail
      refine bodyPost_ret (results_cell_row2 rfl _ _ w.heap.size 26 #[_, _, _, _, _] (0, 0) _ (by rfl) (RS.five (w := w) ?hR _ _ _ _ _) Try.underlying26 rfl (by kernel_rfl)) rfl ?hF
      case hR => first | exact B0.drawn (by repeat (first | exact Drawn.refl _ | refine Drawn.step ?_ _ | refine Drawn.one ?_)) | exact B0
      case hF => exact mkC_nil5 (T := 26) (by first | exact B0.drawn (by repeat (first | exact Drawn.refl _ | refine Drawn.step ?_ _ | refine Drawn.one ?_)) | exact B0) (hr)
end Go.Proofs.Ytgjinjenijjiiaa
