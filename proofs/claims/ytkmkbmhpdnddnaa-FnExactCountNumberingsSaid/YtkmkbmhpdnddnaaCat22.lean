/-
  Chapter 10: CountNumberings: the reference, and both ends.
-/
import Derived.Test.YtkmkbmhpdnddnaaCat21
namespace Go.Proofs.Ytkmkbmhpdnddnaa
open Go.RowKit

/-- A product that was cut off, or not. -/
def CapR (s v : Int) : Prop := 1 ≤ s ∧ s ≤ 300000 ∧ min s 5001 = v
theorem facI_top {v : Int} {j : Nat} (h : facI v j = 5001) : ∀ d, facI v (j + d) = 5001
  | 0 => h
  | d + 1 => by
    have ih := facI_top h d
    show min (facI v (j + d) * (((j + d : Nat) : Int) + 2)) 5001 = 5001
    rw [ih]
    omega
theorem CapR.step {s v : Int} {j : Nat} (h : CapR s (facI v j)) (hs : s ≤ 5000) (hj : j ≤ 40) : CapR (s * ((j : Int) + 2)) (facI v (j + 1)) := by
  obtain ⟨h1, h2, h3⟩ := h
  have e : facI v j = s := by omega
  have m0 : 1 * 1 ≤ s * ((j : Int) + 2) := Int.mul_le_mul h1 (by omega) (by omega) (by omega)
  have m1 : s * ((j : Int) + 2) ≤ 5000 * 42 := Int.mul_le_mul hs (by omega) (by omega) (by omega)
  refine ⟨by omega, by omega, ?_⟩
  show _ = min (facI v j * ((j : Int) + 2)) 5001
  rw [e]
theorem CapR.bd {s v : Int} (h : CapR s v) : 1 ≤ v ∧ v ≤ 5001 := by obtain ⟨h1, h2, h3⟩ := h; omega
set_option maxHeartbeats 800000 in
theorem c_l10Times {w : World} {n k v : Int} (h : CapR n v) (hk : k ≤ 40) : Calls Try.prog 87 #[.int .i64 n, .int .i64 k] w (fun e w' => ∃ s, e = .returned (.int .i64 s) ∧ CapR s (facI v (k - 1).toNat) ∧ Below w.heap.size w w') := by
  have HH := Lib.hid h
  clear h
  go_enter Try.func87, Try.ntmps87
  go_wp2_with fail
  go_loopw [0, 5] (fun nv iv wr => ∃ (j : Nat) (s : Int), iv = .int .i64 ((j : Int) + 2) ∧ nv = .int .i64 s ∧ j ≤ (k - 1).toNat ∧ wr = w ∧ CapR s (facI v j)) (fun _ iv _ => 50 - (intOf iv).toNat)
  case atStart => exact ⟨0, n, rfl, rfl, Nat.zero_le _, rfl, HH.out⟩
  case round =>
    obtain ⟨j, s, rfl, rfl, hj, rfl, hc⟩ := hrel
    by_cases hlt : (j : Int) + 2 ≤ k
    · by_cases hs : s ≤ 5000
      · have HC := Lib.hid (hc.step hs (by omega))
        have hm0 : 0 ≤ s * ((j : Int) + 2) := Int.mul_nonneg (by have := hc.1; omega) (by omega)
        have hm1 : s * ((j : Int) + 2) ≤ 5000 * 42 := Int.mul_le_mul hs (by omega) (by omega) (by omega)
        clear hc
        go_wp2_with fail
        go_roundw
        case rel => exact ⟨j + 1, _, by rw [show ((j + 1 : Nat) : Int) + 2 = (j : Int) + 2 + 1 by omega], rfl, by omega, by first | rfl | trivial, HC.out⟩
        case measure => simp [intOf]; omega
      · have hsb : decide (s ≤ 5000) = false := by simp; omega
        have HC : Hid (CapR s (facI v (k - 1).toNat)) := by
          obtain ⟨h1, h2, h3⟩ := hc
          have e : facI v j = 5001 := by omega
          have e2 := facI_top e ((k - 1).toNat - j)
          rw [show j + ((k - 1).toNat - j) = (k - 1).toNat by omega] at e2
          exact ⟨h1, h2, by rw [e2]; omega⟩
        clear hc
        go_wp2_with fail
        go_ret
        have e : (k - 1).toNat = k.toNat - 1 := by omega
        exact ⟨s, rfl, by first | exact HC.out | (rw [← e]; exact HC.out), Below.refl _ _⟩
    · have hje : j = (k - 1).toNat := by omega
      have hlb : decide ((j : Int) + 2 ≤ k) = false := by simp; omega
      have HC : Hid (CapR s (facI v (k - 1).toNat)) := by unfold Hid; rw [← hje]; exact hc
      clear hje hc
      go_wp2_with fail
      go_ret
      have e : (k - 1).toNat = k.toNat - 1 := by omega
      exact ⟨s, rfl, by first | exact HC.out | (rw [← e]; exact HC.out), Below.refl _ _⟩
theorem hs_hom {c : Cat} (S : Shape c) {x y : Nat} (hy : y < 8) : hs c x y = ((homL c x y).length : Int) := by
  unfold hs homL
  have H : ∀ k, k ≤ c.fr.length → cntA c k (x * 8 + y) = ((sel (homP c x y) k).length : Int) := by
    intro k
    induction k with
    | zero => intro _; simp [cntA, sel]
    | succ k ih =>
      intro hk
      have ih := ih (by omega)
      have hA : c.Arr k := ⟨by omega, by unfold Cat.m; omega⟩
      have hF := S.fO k hA
      have hT := S.tO k hA
      have n8 := S.n8
      have f0 := hF.1
      have t0 := hT.1
      have t1 := hT.2
      unfold cntA
      cases hp : homP c x y k with
      | true =>
        have h2 : c.F k = x ∧ c.T k = y := by simpa [homP] using hp
        rw [if_pos (by rw [h2.1, h2.2]; simp), sel_yes hp, ih]
        simp
      | false =>
        have h2 : ¬ (c.F k = x ∧ c.T k = y) := by simpa [homP] using hp
        rw [if_neg (fun q => h2 (by omega)), sel_no hp, ih]
  exact H _ (Nat.le_refl _)
theorem hom_out {c : Cat} (S : Shape c) {x y : Nat} (h : ¬ ((x : Int) < c.n ∧ (y : Int) < c.n)) : (homL c x y).length = 0 := by
  rw [List.length_eq_zero_iff]
  cases hl : homL c x y with
  | nil => rfl
  | cons g l =>
    have hm : g ∈ homL c x y := by rw [hl]; simp
    obtain ⟨h1, h2, h3⟩ := homL_mem hm
    have hF := S.fO g h1
    have hT := S.tO g h1
    rw [h2] at hF
    rw [h3] at hT
    exact absurd ⟨hF.2, hT.2⟩ h
theorem facI_small {v k : Int} (h : k ≤ 0) : facI v (k - 1).toNat = v := by
  rw [show (k - 1).toNat = 0 by omega]; rfl
theorem hs_small {c : Cat} (S : Shape c) {x y : Nat} (hy : y < 8) (h : ¬ ((x : Int) < c.n ∧ (y : Int) < c.n)) : hs' c x y ≤ 0 := by
  have h1 := hs_hom S (x := x) hy
  rw [hom_out S h] at h1
  unfold hs'
  split <;> omega
theorem numY_from {c : Cat} (S : Shape c) (x : Nat) (v : Int) (N : Nat) (hN : c.n = (N : Int)) : ∀ d, N + d ≤ 8 → numY c x v (N + d) = numY c x v N
  | 0, _ => rfl
  | d + 1, hd => by
    have ih := numY_from S x v N hN d (by omega)
    show facI (numY c x v (N + d)) (hs' c x (N + d) - 1).toNat = _
    rw [ih, facI_small (hs_small S (by omega) (by omega))]
theorem numY_out {c : Cat} (S : Shape c) (x : Nat) (v : Int) (hx : ¬ (x : Int) < c.n) : ∀ y, y ≤ 8 → numY c x v y = v
  | 0, _ => rfl
  | y + 1, hy => by
    have ih := numY_out S x v hx y (by omega)
    show facI (numY c x v y) (hs' c x y - 1).toNat = _
    rw [ih, facI_small (hs_small S (by omega) (by omega))]
theorem numX_from {c : Cat} (S : Shape c) (v : Int) (N : Nat) (hN : c.n = (N : Int)) : ∀ d, N + d ≤ 8 → numX c v (N + d) = numX c v N
  | 0, _ => rfl
  | d + 1, hd => by
    have ih := numX_from S v N hN d (by omega)
    show numY c (N + d) (numX c v (N + d)) 8 = _
    rw [numY_out S _ _ (by omega) 8 (Nat.le_refl _), ih]
theorem numX_row {c : Cat} (S : Shape c) (v : Int) (N : Nat) (hN : c.n = (N : Int)) (h8 : N ≤ 8) (x : Nat) : numX c v (x + 1) = numY c x (numX c v x) N := by
  show numY c x (numX c v x) 8 = _
  have := numY_from S x (numX c v x) N hN (8 - N) (by omega)
  rwa [show N + (8 - N) = 8 by omega] at this
set_option maxHeartbeats 1600000 in
theorem c_l10Count {w : World} {v : Value} {c : Cat} (h : IC w v c) (S : Shape c) : Calls Try.prog 52 #[v] w (fun e w' => ∃ s, e = .returned (.int .i64 s) ∧ CapR s (numV c) ∧ Below w.heap.size w w') := by
  have n0 := S.n0
  have n8 := S.n8
  have m40 : c.fr.length ≤ 40 := by have := S.m40; unfold Cat.m at this; omega
  obtain ⟨N, hN⟩ := Int.eq_ofNat_of_zero_le n0
  have HN := Lib.hid hN
  have hN8 : N ≤ 8 := by omega
  have HROW := Lib.hid (fun v x => numX_row S v N hN hN8 x)
  have HEND : Hid (numX c (facI 1 (c.n - 1).toNat) N = numV c) := by
    unfold Hid numV
    have := numX_from S (facI 1 (c.n - 1).toNat) N hN (8 - N) (by omega)
    rw [show N + (8 - N) = 8 by omega] at this
    exact this.symm
  have SH := Lib.hid S
  clear S hN
  obtain ⟨aF, aT, aI, aC, bF, oF, kF, bT, oT, kT, bI, oI, kI, bC, oC, kC, bR, oR, kR, rfl, V⟩ := h.boxed 29
  have B : Bel w (w.alloc (.cells #[.int .i64 c.n, .slice aF c.fr.length kF, .slice aT c.to.length kT, .slice aI c.id.length kI, .slice aC c.cm.length kC] 29)) := bel_box w _
  have ZB := Lib.hid (show (w.alloc (.cells #[.int .i64 c.n, .slice aF c.fr.length kF, .slice aT c.to.length kT, .slice aI c.id.length kI, .slice aC c.cm.length kC] 29)).heap.size = w.heap.size + 1 from by simp)
  clear h
  go_enter Try.func52, Try.ntmps52
  go_wp2_with fail
  generalize w.alloc (.cells #[.int .i64 c.n, .slice aF c.fr.length kF, .slice aT c.to.length kT, .slice aI c.id.length kI, .slice aC c.cm.length kC] 29) = w1 at *
  generalize w.heap.size = b at *
  have c0 := V.c0
  have c1 := V.c1
  have c2 := V.c2
  have c3 := V.c3
  have c4 := V.c4
  clear c0 c1 c2 c3 c4
  try go_wp2_with fail
  refine (c_l10Times (v := 1) ⟨by omega, by omega, by omega⟩ (by omega)).mono ?_
  rintro e w2 ⟨s0, rfl, hs0, b2⟩
  have HS0 := Lib.hid hs0
  clear hs0
  go_wp2_with fail
  go_loopw [3, 4, 5, 6] (fun nv xv _ _ wr => ∃ (x : Nat) (s : Int), x ≤ N ∧ xv = .int .i64 (x : Int) ∧ nv = .int .i64 s ∧ Below w1.heap.size w1 wr ∧ Hid (CapR s (numX c (facI 1 (c.n - 1).toNat) x))) (fun _ xv _ _ _ => N - (intOf xv).toNat)
  case atStart => exact ⟨0, s0, Nat.zero_le _, rfl, rfl, b2, HS0.out⟩
  case round =>
    clear b2 HS0
    obtain ⟨x, s, hx, rfl, rfl, hb, hp⟩ := hrel
    have c0 := (V.kept hb).c0
    by_cases hlt : x < N
    · have hxb : decide ((x : Int) < c.n) = true := by have := HN.out; simp; omega
      have x8 : (x : Int) < c.n := by have := HN.out; omega
      go_wp2_with fail
      clear c0
      go_loopw [3, 5, 6] (fun nv yv _ wr => ∃ (y : Nat) (s : Int), y ≤ N ∧ yv = .int .i64 (y : Int) ∧ nv = .int .i64 s ∧ Below w1.heap.size w1 wr ∧ Hid (CapR s (numY c x (numX c (facI 1 (c.n - 1).toNat) x) y))) (fun _ yv _ _ => N - (intOf yv).toNat)
      case atStart => exact ⟨0, s, Nat.zero_le _, rfl, rfl, hb, hp.out⟩
      case round =>
        clear hb hp
        obtain ⟨y, s, hy, rfl, rfl, hb, hp⟩ := hrel
        have V2 := V.kept hb
        by_cases hly : y < N
        · have hyb : decide ((y : Int) < c.n) = true := by have := HN.out; simp; omega
          have y8 : (y : Int) < c.n := by have := HN.out; omega
          have HH := Lib.hid (hs_hom SH.out (x := x) (y := y) (by omega))
          have hL := homL_le c x y
          have c0 := V2.c0
          have c1 := V2.c1
          have c2 := V2.c2
          have c3 := V2.c3
          have c4 := V2.c4
          have VI := V2.ic
          go_wp2_with fail
          refine (c_l02Hom VI SH.out.tl _ _).mono ?_
          rintro e w5 ⟨u, rfl, o5, b5⟩
          obtain ⟨ah, ch, rfl⟩ := o5.own.shape
          replace hb := bel_next hb b5
          clear o5 b5 c0 c1 c2 c3 c4 VI V2
          by_cases hxy : x = y
          · have hxyb : ((x : Int) == (y : Int)) = true := by simp [hxy]
            have HS : Hid (numY c x (numX c (facI 1 (c.n - 1).toNat) x) (y + 1) = facI (numY c x (numX c (facI 1 (c.n - 1).toNat) x) y) (((homL c x y).length : Int) - 1 - 1).toNat) := by
              show facI _ (hs' c x y - 1).toNat = _
              rw [hs', if_pos hxy, HH.out]
            clear hxy
            go_wp2_with fail
            refine (c_l10Times hp.out (by omega)).mono ?_
            rintro e w6 ⟨s', rfl, hs', b6⟩
            rw [← HS.out] at hs'
            have HB := Lib.hid (bel_next hb b6)
            have HP := Lib.hid hs'
            clear hb b6 hs'
            go_wp2_with fail
            go_roundw
            case rel => exact ⟨y + 1, s', by omega, by go_num, by first | rfl | trivial, HB.out, HP.out⟩
            case measure => simp [intOf]; omega
          · have hxyb : ((x : Int) == (y : Int)) = false := by simp; omega
            have HS : Hid (numY c x (numX c (facI 1 (c.n - 1).toNat) x) (y + 1) = facI (numY c x (numX c (facI 1 (c.n - 1).toNat) x) y) (((homL c x y).length : Int) - 1).toNat) := by
              show facI _ (hs' c x y - 1).toNat = _
              rw [hs', if_neg hxy, HH.out]
            clear hxy
            go_wp2_with fail
            refine (c_l10Times hp.out (by omega)).mono ?_
            rintro e w6 ⟨s', rfl, hs', b6⟩
            rw [← HS.out] at hs'
            have HB := Lib.hid (bel_next hb b6)
            have HP := Lib.hid hs'
            clear hb b6 hs'
            go_wp2_with fail
            go_roundw
            case rel => exact ⟨y + 1, s', by omega, by go_num, by first | rfl | trivial, HB.out, HP.out⟩
            case measure => simp [intOf]; omega
        · have hyb : decide ((y : Int) < c.n) = false := by have := HN.out; simp; omega
          have c0 := V2.c0
          have HP : Hid (CapR s (numX c (facI 1 (c.n - 1).toNat) (x + 1))) := by
            obtain rfl : y = N := by omega
            unfold Hid; rw [HROW.out]; exact hp.out
          have HB := Lib.hid hb
          clear hb V2
          go_wp2_with fail
          go_roundw
          case rel => exact ⟨x + 1, s, by omega, by go_num, by first | rfl | trivial, HB.out, HP.out⟩
          case measure => simp [intOf]; omega
    · have hxb : decide ((x : Int) < c.n) = false := by have := HN.out; simp; omega
      obtain rfl : x = N := by omega
      go_wp2_with fail
      go_ret
      exact ⟨s, rfl, by rw [← HEND.out]; exact hp.out, B.next hb⟩
theorem cnR_n {c : Cat} (h : ¬ catB c = true) : cnR c = (0, 1) := by rw [cnR, if_neg h]
theorem cnR_l {c : Cat} (h : catB c = true) (h2 : numV c > 5000) : cnR c = (0, 3) := by rw [cnR, if_pos h, if_pos h2]
theorem cnR_t {c : Cat} (h : catB c = true) (h2 : ¬ numV c > 5000) : cnR c = (numV c, 0) := by rw [cnR, if_pos h, if_neg h2]
theorem i_CountNumberings {w : World} {v : Value} {c : Cat} (h : IC w v c) : Calls Try.prog 20 #[v] w (Ret w (.tuple #[.int .i64 (cnR c).1, .int .i64 (cnR c).2])) := by
  obtain ⟨aF, aT, aI, aC, bF, oF, kF, bT, oT, kT, bI, oI, kI, bC, oC, kC, bR, oR, kR, rfl, V⟩ := h.boxed 29
  have B : Bel w (w.alloc (.cells #[.int .i64 c.n, .slice aF c.fr.length kF, .slice aT c.to.length kT, .slice aI c.id.length kI, .slice aC c.cm.length kC] 29)) := bel_box w _
  have ZB := Lib.hid (show (w.alloc (.cells #[.int .i64 c.n, .slice aF c.fr.length kF, .slice aT c.to.length kT, .slice aI c.id.length kI, .slice aC c.cm.length kC] 29)).heap.size = w.heap.size + 1 from by simp)
  clear h
  go_enter Try.func20, Try.ntmps20
  go_wp2_with fail
  generalize w.alloc (.cells #[.int .i64 c.n, .slice aF c.fr.length kF, .slice aT c.to.length kT, .slice aI c.id.length kI, .slice aC c.cm.length kC] 29) = w1 at *
  generalize w.heap.size = b at *
  have c0 := V.c0
  have c1 := V.c1
  have c2 := V.c2
  have c3 := V.c3
  have c4 := V.c4
  clear c0 c1 c2 c3 c4
  refine (c_isCategory V.pc).mono ?_
  rintro e w2 ⟨rfl, b2⟩
  have V2 := V.kept b2
  have B2 := B.next b2
  by_cases hc : catB c = true
  · have S := (catB_s hc).s
    have HC := Lib.hid hc
    go_wp2_with fail
    refine (c_numberings V2.pc S).mono ?_
    rintro e w3 ⟨rfl, b3⟩
    clear S hc
    by_cases hl : numV c > 5000
    · have HG := Lib.hid (cnR_l HC.out hl)
      have hlb : decide (5000 < numV c) = true := by simp; omega
      clear hl
      go_wp2_with fail
      go_ret2
      exact ⟨ret_ii HG.out, bel_next B2 b3⟩
    · have HG := Lib.hid (cnR_t HC.out hl)
      have hlb : decide (5000 < numV c) = false := by simp; omega
      clear hl
      go_wp2_with fail
      go_ret2
      exact ⟨ret_ii HG.out, bel_next B2 b3⟩
  · have HG := Lib.hid (cnR_n hc)
    have hn : catB c = false := by simpa using hc
    clear hc
    go_wp2_with fail
    go_ret2
    exact ⟨ret_ii HG.out, B2⟩
theorem s_CountNumberings {w : World} {v : Value} {c : Cat} (h : IC w v c) : Calls Try.prog 19 #[v] w (Ret w (.tuple #[.int .i64 (cnR c).1, .int .i64 (cnR c).2])) := by
  obtain ⟨aF, aT, aI, aC, bF, oF, kF, bT, oT, kT, bI, oI, kI, bC, oC, kC, bR, oR, kR, rfl, V⟩ := h.boxed 29
  have B : Bel w (w.alloc (.cells #[.int .i64 c.n, .slice aF c.fr.length kF, .slice aT c.to.length kT, .slice aI c.id.length kI, .slice aC c.cm.length kC] 29)) := bel_box w _
  have ZB := Lib.hid (show (w.alloc (.cells #[.int .i64 c.n, .slice aF c.fr.length kF, .slice aT c.to.length kT, .slice aI c.id.length kI, .slice aC c.cm.length kC] 29)).heap.size = w.heap.size + 1 from by simp)
  clear h
  go_enter Try.func19, Try.ntmps19
  go_wp2_with fail
  generalize w.alloc (.cells #[.int .i64 c.n, .slice aF c.fr.length kF, .slice aT c.to.length kT, .slice aI c.id.length kI, .slice aC c.cm.length kC] 29) = w1 at *
  generalize w.heap.size = b at *
  have c0 := V.c0
  have c1 := V.c1
  have c2 := V.c2
  have c3 := V.c3
  have c4 := V.c4
  refine (c_l02Is V.ic).mono ?_
  rintro e w2 ⟨rfl, b2⟩
  have V2 := V.kept b2
  have B2 := B.next b2
  clear c0 c1 c2 c3 c4
  by_cases hc : catB c = true
  · have S := (catB_s hc).s
    have HC := Lib.hid hc
    have c0 := V2.c0
    have c1 := V2.c1
    have c2 := V2.c2
    have c3 := V2.c3
    have c4 := V2.c4
    go_wp2_with fail
    refine (c_l10Count V2.ic S).mono ?_
    rintro e w3 ⟨s, rfl, hs, b3⟩
    obtain ⟨s1, s2, s3⟩ := hs
    clear S hc c0 c1 c2 c3 c4
    by_cases hl : s > 5000
    · have HG := Lib.hid (cnR_l HC.out (by omega))
      have hlb : decide (5000 < s) = true := by simp; omega
      clear hl s3
      go_wp2_with fail
      go_ret2
      exact ⟨ret_ii HG.out, bel_next B2 b3⟩
    · have HG : Hid (cnR c = (s, 0)) := by
        unfold Hid
        rw [cnR_t HC.out (by omega), show numV c = s by omega]
      have hlb : decide (5000 < s) = false := by simp; omega
      clear hl s3
      go_wp2_with fail
      go_ret2
      exact ⟨ret_ii HG.out, bel_next B2 b3⟩
  · have HG := Lib.hid (cnR_n hc)
    have hn : catB c = false := by simpa using hc
    clear hc
    go_wp2_with fail
    go_ret2
    exact ⟨ret_ii HG.out, B2⟩
end Go.Proofs.Ytkmkbmhpdnddnaa
