/-
  Chapter 33: CountChains, CountProperChains, EulerCharacteristic: program and reference.
-/
import Derived.Test.YtkmkbmhpdnddnaaCat15b
namespace Go.Proofs.Ytkmkbmhpdnddnaa
open Go.RowKit

theorem chR_t {c : Cat} {p : Int → Bool} {k : Int} (h1 : catB c = true) (h2 : inR k 0 8 = true) : chR c p k = (chn c p k.toNat, 0) := by rw [chR, if_pos h1, if_pos h2]
theorem chR_r {c : Cat} {p : Int → Bool} {k : Int} (h1 : catB c = true) (h2 : inR k 0 8 = false) : chR c p k = (0, 2) := by rw [chR, if_pos h1, if_neg (by rw [h2]; exact Bool.false_ne_true)]
theorem chR_n {c : Cat} {p : Int → Bool} {k : Int} (h1 : ¬ catB c = true) : chR c p k = (0, 1) := by rw [chR, if_neg h1]
theorem chC_0 {c : Cat} {k : Int} (h : chC c k = 0) : catB c = true ∧ inR k 0 8 = true := by
  unfold chC at h
  split at h
  · split at h
    · exact ⟨by assumption, by assumption⟩
    · cases h
  · cases h
theorem chR_c {c : Cat} {p : Int → Bool} {k : Int} (h : ¬ chC c k = 0) : chR c p k = (0, chC c k) := by
  unfold chC at h ⊢
  unfold chR
  split
  · split
    · rename_i h1 h2; rw [if_pos h1, if_pos h2] at h; exact absurd rfl h
    · rfl
  · rfl
theorem IS.of_own {E : TypeId} {w : World} {B : Nat} {v : Value} {xs : List Int} (h : Own E w B v xs) : IS w v xs := h.is
theorem c_chainCode_any {w : World} {b : Nat} {c : Cat} (P : PC w b c) (k : Int) :
    Calls Try.prog 63 #[.pointer (some ⟨b, 0, none⟩), .int .i64 k, (.func (.func 64) #[] #[])] w (Ret w (.tuple #[.int .i64 (chR c anyP k).1, .int .i64 (chR c anyP k).2])) := by
  go_enter Try.func63, Try.ntmps63
  go_wp2_with fail
  refine (c_isCategory P).mono ?_
  rintro e w2 ⟨rfl, b2⟩
  by_cases hc : catB c = true
  · have HC := Lib.hid hc
    go_wp2_with fail
    refine (c_inRange k 0 8 _).mono ?_
    rintro e w3 ⟨rfl, n3, rfl⟩
    clear hc
    have d3 : Drawn w2 (w2.drewN n3) := ⟨n3, rfl⟩
    generalize w2.drewN n3 = w3 at *
    have b3 := bel_next b2 d3.bel0
    cases hi : inR k 0 8 with
    | true =>
      obtain ⟨K, rfl, hK⟩ := inR08 hi
      have HG := Lib.hid (chR_t (p := anyP) HC.out hi)
      clear hi
      go_wp2_with fail
      refine (c_chains_any (P.kept b3) (catB_s HC.out).s hK).mono ?_
      rintro e w4 ⟨rfl, b4⟩
      go_wp2_with fail
      go_ret2
      exact ⟨ret_ii (by rw [HG.out]; simp), bel_next b3 b4⟩
    | false =>
      have HG := Lib.hid (chR_r (p := anyP) HC.out hi)
      clear hi
      go_wp2_with fail
      go_ret2
      exact ⟨ret_ii HG.out, b3⟩
  · have hn : catB c = false := by simpa using hc
    have HG := Lib.hid (chR_n (p := anyP) (k := k) hc)
    clear hc
    go_wp2_with fail
    go_ret2
    exact ⟨ret_ii HG.out, b2⟩
theorem i_CountChains {w : World} {v : Value} {c : Cat} (h : IC w v c) (k : Int) (_ : I64 k) : Calls Try.prog 26 #[v, .int .i64 k] w (Ret w (.tuple #[.int .i64 (chR c anyP k).1, .int .i64 (chR c anyP k).2])) := by
  obtain ⟨aF, aT, aI, aC, bF, oF, kF, bT, oT, kT, bI, oI, kI, bC, oC, kC, bR, oR, kR, rfl, V⟩ := h.boxed 29
  have B : Bel w (w.alloc (.cells #[.int .i64 c.n, .slice aF c.fr.length kF, .slice aT c.to.length kT, .slice aI c.id.length kI, .slice aC c.cm.length kC] 29)) := bel_box w _
  have ZB := Lib.hid (show (w.alloc (.cells #[.int .i64 c.n, .slice aF c.fr.length kF, .slice aT c.to.length kT, .slice aI c.id.length kI, .slice aC c.cm.length kC] 29)).heap.size = w.heap.size + 1 from by simp)
  clear h
  go_enter Try.func26, Try.ntmps26
  go_wp2_with fail
  generalize w.alloc (.cells #[.int .i64 c.n, .slice aF c.fr.length kF, .slice aT c.to.length kT, .slice aI c.id.length kI, .slice aC c.cm.length kC] 29) = w1 at *
  generalize w.heap.size = b at *
  have c0 := V.c0
  have c1 := V.c1
  have c2 := V.c2
  have c3 := V.c3
  have c4 := V.c4
  clear c0 c1 c2 c3 c4
  try go_wp2_with fail
  refine (c_chainCode_any V.pc k).mono ?_
  rintro e w2 ⟨rfl, b2⟩
  go_wp2_with fail
  go_ret2
  exact ⟨rfl, B.next b2⟩
theorem s_CountChains {w : World} {v : Value} {c : Cat} (h : IC w v c) (k : Int) (_ : I64 k) : Calls Try.prog 25 #[v, .int .i64 k] w (Ret w (.tuple #[.int .i64 (chR c anyP k).1, .int .i64 (chR c anyP k).2])) := by
  obtain ⟨aF, aT, aI, aC, bF, oF, kF, bT, oT, kT, bI, oI, kI, bC, oC, kC, bR, oR, kR, rfl, V⟩ := h.boxed 29
  have B : Bel w (w.alloc (.cells #[.int .i64 c.n, .slice aF c.fr.length kF, .slice aT c.to.length kT, .slice aI c.id.length kI, .slice aC c.cm.length kC] 29)) := bel_box w _
  have ZB := Lib.hid (show (w.alloc (.cells #[.int .i64 c.n, .slice aF c.fr.length kF, .slice aT c.to.length kT, .slice aI c.id.length kI, .slice aC c.cm.length kC] 29)).heap.size = w.heap.size + 1 from by simp)
  clear h
  go_enter Try.func25, Try.ntmps25
  go_wp2_with fail
  generalize w.alloc (.cells #[.int .i64 c.n, .slice aF c.fr.length kF, .slice aT c.to.length kT, .slice aI c.id.length kI, .slice aC c.cm.length kC] 29) = w1 at *
  generalize w.heap.size = b at *
  have c0 := V.c0
  have c1 := V.c1
  have c2 := V.c2
  have c3 := V.c3
  have c4 := V.c4
  refine (c_l33Length V.ic k).mono ?_
  rintro e w2 ⟨rfl, b2⟩
  have V2 := V.kept b2
  clear c0 c1 c2 c3 c4
  by_cases hc : chC c k = 0
  · obtain ⟨h1, h2⟩ := chC_0 hc
    have hcb : (chC c k != 0) = false := by simp [hc]
    obtain ⟨K, rfl, hK⟩ := inR08 h2
    have HG := Lib.hid (chR_t (p := anyP) h1 h2)
    have S := (catB_s h1).s
    have hm40 : c.fr.length ≤ 40 := by have := S.m40; unfold Cat.m at this; omega
    have hn8 : (wlk c anyP K).length ≤ 8 := by rw [wlk_length]; have := S.n8; omega
    clear hc h1 h2
    have c0 := V2.c0
    have c1 := V2.c1
    have c2 := V2.c2
    have c3 := V2.c3
    have c4 := V2.c4
    go_wp2_with fail
    refine (c_l33Walks_any V2.ic S hK).mono ?_
    rintro e w3 ⟨u, rfl, o3, b3⟩
    clear c0 c1 c2 c3 c4 S hcb
    go_wp2_with fail
    refine (c_l33Sum o3.is hn8 (wlk_num (c := c) anyP hm40 hK)).mono ?_
    rintro e w4 ⟨rfl, b4⟩
    go_wp2_with fail
    go_ret2
    exact ⟨ret_ii (by rw [HG.out]; simp [chn]), B.next (bel_next b2 (bel_next b3 b4))⟩
  · have hcb : (chC c k != 0) = true := by simp [hc]
    have HG := Lib.hid (chR_c (p := anyP) hc)
    clear hc
    go_wp2_with fail
    go_ret2
    exact ⟨ret_ii HG.out, B.next b2⟩
theorem c_chainCode_mov {w : World} {b : Nat} {c : Cat} (P : PC w b c) (k : Int) :
    Calls Try.prog 63 #[.pointer (some ⟨b, 0, none⟩), .int .i64 k, (.func (.func 65) #[.pointer (some ⟨b, 0, none⟩)] #[])] w (Ret w (.tuple #[.int .i64 (chR c (movP c) k).1, .int .i64 (chR c (movP c) k).2])) := by
  go_enter Try.func63, Try.ntmps63
  go_wp2_with fail
  refine (c_isCategory P).mono ?_
  rintro e w2 ⟨rfl, b2⟩
  by_cases hc : catB c = true
  · have HC := Lib.hid hc
    go_wp2_with fail
    refine (c_inRange k 0 8 _).mono ?_
    rintro e w3 ⟨rfl, n3, rfl⟩
    clear hc
    have d3 : Drawn w2 (w2.drewN n3) := ⟨n3, rfl⟩
    generalize w2.drewN n3 = w3 at *
    have b3 := bel_next b2 d3.bel0
    cases hi : inR k 0 8 with
    | true =>
      obtain ⟨K, rfl, hK⟩ := inR08 hi
      have HG := Lib.hid (chR_t (p := (movP c)) HC.out hi)
      clear hi
      go_wp2_with fail
      refine (c_chains_mov (P.kept b3) (catB_s HC.out).s hK).mono ?_
      rintro e w4 ⟨rfl, b4⟩
      go_wp2_with fail
      go_ret2
      exact ⟨ret_ii (by rw [HG.out]; simp), bel_next b3 b4⟩
    | false =>
      have HG := Lib.hid (chR_r (p := (movP c)) HC.out hi)
      clear hi
      go_wp2_with fail
      go_ret2
      exact ⟨ret_ii HG.out, b3⟩
  · have hn : catB c = false := by simpa using hc
    have HG := Lib.hid (chR_n (p := (movP c)) (k := k) hc)
    clear hc
    go_wp2_with fail
    go_ret2
    exact ⟨ret_ii HG.out, b2⟩
theorem i_CountProperChains {w : World} {v : Value} {c : Cat} (h : IC w v c) (k : Int) (_ : I64 k) : Calls Try.prog 28 #[v, .int .i64 k] w (Ret w (.tuple #[.int .i64 (chR c (movP c) k).1, .int .i64 (chR c (movP c) k).2])) := by
  obtain ⟨aF, aT, aI, aC, bF, oF, kF, bT, oT, kT, bI, oI, kI, bC, oC, kC, bR, oR, kR, rfl, V⟩ := h.boxed 29
  have B : Bel w (w.alloc (.cells #[.int .i64 c.n, .slice aF c.fr.length kF, .slice aT c.to.length kT, .slice aI c.id.length kI, .slice aC c.cm.length kC] 29)) := bel_box w _
  have ZB := Lib.hid (show (w.alloc (.cells #[.int .i64 c.n, .slice aF c.fr.length kF, .slice aT c.to.length kT, .slice aI c.id.length kI, .slice aC c.cm.length kC] 29)).heap.size = w.heap.size + 1 from by simp)
  clear h
  go_enter Try.func28, Try.ntmps28
  go_wp2_with fail
  generalize w.alloc (.cells #[.int .i64 c.n, .slice aF c.fr.length kF, .slice aT c.to.length kT, .slice aI c.id.length kI, .slice aC c.cm.length kC] 29) = w1 at *
  generalize w.heap.size = b at *
  have c0 := V.c0
  have c1 := V.c1
  have c2 := V.c2
  have c3 := V.c3
  have c4 := V.c4
  clear c0 c1 c2 c3 c4
  try go_wp2_with fail
  refine (c_chainCode_mov V.pc k).mono ?_
  rintro e w2 ⟨rfl, b2⟩
  go_wp2_with fail
  go_ret2
  exact ⟨rfl, B.next b2⟩
theorem s_CountProperChains {w : World} {v : Value} {c : Cat} (h : IC w v c) (k : Int) (_ : I64 k) : Calls Try.prog 27 #[v, .int .i64 k] w (Ret w (.tuple #[.int .i64 (chR c (movP c) k).1, .int .i64 (chR c (movP c) k).2])) := by
  obtain ⟨aF, aT, aI, aC, bF, oF, kF, bT, oT, kT, bI, oI, kI, bC, oC, kC, bR, oR, kR, rfl, V⟩ := h.boxed 29
  have B : Bel w (w.alloc (.cells #[.int .i64 c.n, .slice aF c.fr.length kF, .slice aT c.to.length kT, .slice aI c.id.length kI, .slice aC c.cm.length kC] 29)) := bel_box w _
  have ZB := Lib.hid (show (w.alloc (.cells #[.int .i64 c.n, .slice aF c.fr.length kF, .slice aT c.to.length kT, .slice aI c.id.length kI, .slice aC c.cm.length kC] 29)).heap.size = w.heap.size + 1 from by simp)
  clear h
  go_enter Try.func27, Try.ntmps27
  go_wp2_with fail
  generalize w.alloc (.cells #[.int .i64 c.n, .slice aF c.fr.length kF, .slice aT c.to.length kT, .slice aI c.id.length kI, .slice aC c.cm.length kC] 29) = w1 at *
  generalize w.heap.size = b at *
  have c0 := V.c0
  have c1 := V.c1
  have c2 := V.c2
  have c3 := V.c3
  have c4 := V.c4
  refine (c_l33Length V.ic k).mono ?_
  rintro e w2 ⟨rfl, b2⟩
  have V2 := V.kept b2
  clear c0 c1 c2 c3 c4
  by_cases hc : chC c k = 0
  · obtain ⟨h1, h2⟩ := chC_0 hc
    have hcb : (chC c k != 0) = false := by simp [hc]
    obtain ⟨K, rfl, hK⟩ := inR08 h2
    have HG := Lib.hid (chR_t (p := (movP c)) h1 h2)
    have S := (catB_s h1).s
    have hm40 : c.fr.length ≤ 40 := by have := S.m40; unfold Cat.m at this; omega
    have hn8 : (wlk c (movP c) K).length ≤ 8 := by rw [wlk_length]; have := S.n8; omega
    clear hc h1 h2
    have c0 := V2.c0
    have c1 := V2.c1
    have c2 := V2.c2
    have c3 := V2.c3
    have c4 := V2.c4
    go_wp2_with fail
    refine (c_l33Walks_mov V2.ic S hK).mono ?_
    rintro e w3 ⟨u, rfl, o3, b3⟩
    clear c0 c1 c2 c3 c4 S hcb
    go_wp2_with fail
    refine (c_l33Sum o3.is hn8 (wlk_num (c := c) (movP c) hm40 hK)).mono ?_
    rintro e w4 ⟨rfl, b4⟩
    go_wp2_with fail
    go_ret2
    exact ⟨ret_ii (by rw [HG.out]; simp [chn]), B.next (bel_next b2 (bel_next b3 b4))⟩
  · have hcb : (chC c k != 0) = true := by simp [hc]
    have HG := Lib.hid (chR_c (p := (movP c)) hc)
    clear hc
    go_wp2_with fail
    go_ret2
    exact ⟨ret_ii HG.out, B.next b2⟩
/-- The signs and the sums. -/
def sg : Nat → Int
  | 0 => 1
  | k + 1 => -(sg k)
def eul (c : Cat) : Nat → Int
  | 0 => 0
  | k + 1 => eul c k + sg k * chn c (movP c) k
theorem sg_or : ∀ k, sg k = 1 ∨ sg k = -1
  | 0 => .inl rfl
  | k + 1 => by rcases sg_or k with h | h <;> simp [sg, h]
theorem eul_bd {c : Cat} (hm : c.fr.length ≤ 40) (hn : c.n ≤ 8) : ∀ k : Nat, k ≤ 9 → -(k : Int) * 52428800000000 ≤ eul c k ∧ eul c k ≤ (k : Int) * 52428800000000
  | 0, _ => by simp [eul]
  | k + 1, hk => by
    have h1 := eul_bd hm hn k (by omega)
    have h2 := chn_bd (c := c) (movP c) hm hn (k := k) (by omega)
    rcases sg_or k with h | h <;> simp only [eul, h] <;> omega
noncomputable def eulR (c : Cat) : Int × Int := if catB c then (if chn c (movP c) c.n.toNat > 0 then (0, 4) else (eul c c.n.toNat, 0)) else (0, 1)
set_option maxHeartbeats 1600000 in
theorem i_EulerCharacteristic {w : World} {v : Value} {c : Cat} (h : IC w v c) : Calls Try.prog 30 #[v] w (Ret w (.tuple #[.int .i64 (eulR c).1, .int .i64 (eulR c).2])) := by
  obtain ⟨aF, aT, aI, aC, bF, oF, kF, bT, oT, kT, bI, oI, kI, bC, oC, kC, bR, oR, kR, rfl, V⟩ := h.boxed 29
  have B : Bel w (w.alloc (.cells #[.int .i64 c.n, .slice aF c.fr.length kF, .slice aT c.to.length kT, .slice aI c.id.length kI, .slice aC c.cm.length kC] 29)) := bel_box w _
  have ZB := Lib.hid (show (w.alloc (.cells #[.int .i64 c.n, .slice aF c.fr.length kF, .slice aT c.to.length kT, .slice aI c.id.length kI, .slice aC c.cm.length kC] 29)).heap.size = w.heap.size + 1 from by simp)
  clear h
  go_enter Try.func30, Try.ntmps30
  go_wp2_with fail
  generalize w.alloc (.cells #[.int .i64 c.n, .slice aF c.fr.length kF, .slice aT c.to.length kT, .slice aI c.id.length kI, .slice aC c.cm.length kC] 29) = w1 at *
  generalize w.heap.size = b at *
  have c0 := V.c0
  have c1 := V.c1
  have c2 := V.c2
  have c3 := V.c3
  have c4 := V.c4
  clear c0 c1 c2 c3 c4
  refine (c_isCategory V.pc).mono ?_
  rintro e w2 ⟨rfl, b2⟩
  have V2 := V.kept b2
  have B2 := B.next b2
  by_cases hc : catB c = true
  · have SH := Lib.hid (catB_s hc).s
    have HC := Lib.hid hc
    obtain ⟨N, hN⟩ := Int.eq_ofNat_of_zero_le SH.out.n0
    have n8 := SH.out.n8
    have hN8 : N ≤ 8 := by omega
    have hm40 : c.fr.length ≤ 40 := by have := SH.out.m40; unfold Cat.m at this; omega
    have hNN : Hid (c.n.toNat = N) := by unfold Hid; rw [hN]; simp
    have HNN := Lib.hid hN
    have HN8 := Lib.hid n8
    clear hN n8
    go_wp2_with fail
    go_loopw [4, 5, 6, 7] (fun s g kv _ wr => ∃ k : Nat, k ≤ N + 1 ∧ kv = .int .i64 k ∧ s = .int .i64 (eul c k) ∧ g = .int .i64 (sg k) ∧ Below w2.heap.size w2 wr ∧ Hid (k = N + 1 → chn c (movP c) N = 0)) (fun _ _ kv _ _ => N + 1 - (intOf kv).toNat)
    case atStart => exact ⟨0, Nat.zero_le _, rfl, rfl, rfl, Below.refl _ _, fun h => by omega⟩
    case round =>
      obtain ⟨k, hk, rfl, rfl, rfl, hb, hp⟩ := hrel
      have c0 := (V2.kept hb).c0
      rw [HNN.out] at c0
      by_cases hlt : k ≤ N
      · go_wp2_with fail
        refine (c_chains_mov (V2.kept hb).pc SH.out (K := k) (by omega)).mono ?_
        rintro e w4 ⟨rfl, b4⟩
        have c0' := up_cell b4 c0
        have hbd := chn_bd (c := c) (movP c) hm40 HN8.out (k := k) (by omega)
        have hed := eul_bd (c := c) hm40 HN8.out k (by omega)
        have hsg := sg_or k
        have hE : Hid (eul c (k + 1) = eul c k + sg k * chn c (movP c) k) := rfl
        have hS : Hid (sg (k + 1) = -(sg k)) := rfl
        clear c0
        by_cases hkN : k = N
        · subst hkN
          by_cases hpos : chn c (movP c) k > 0
          · have HG : Hid (eulR c = (0, 4)) := by unfold Hid eulR; rw [if_pos HC.out, hNN.out, if_pos hpos]
            have hpb : decide (0 < chn c (movP c) k) = true := by simp; omega
            clear hpos
            go_wp2_with fail
            go_ret2
            exact ⟨ret_ii HG.out, bel_next B2 (bel_next hb b4)⟩
          · have HZ : Hid (chn c (movP c) k = 0) := by unfold Hid; omega
            have hpb : decide (0 < chn c (movP c) k) = false := by simp; omega
            clear hpos
            rcases hsg with hs | hs
            · rw [hs] at hE hS ⊢
              go_wp2_with fail
              go_roundw
              case rel => exact ⟨k + 1, by omega, by go_num, by first | (rw [hE.out]; done) | (rw [hE.out]; rfl) | (rw [hE.out]; congr 1; omega), by first | (rw [hS.out]; done) | (rw [hS.out]; rfl), bel_next hb b4, fun _ => HZ.out⟩
              case measure => simp [intOf] <;> omega
            · rw [hs] at hE hS ⊢
              go_wp2_with fail
              go_roundw
              case rel => exact ⟨k + 1, by omega, by go_num, by first | (rw [hE.out]; done) | (rw [hE.out]; rfl) | (rw [hE.out]; congr 1; omega), by first | (rw [hS.out]; done) | (rw [hS.out]; rfl), bel_next hb b4, fun _ => HZ.out⟩
              case measure => simp [intOf] <;> omega
        · have HZ : Hid (k + 1 = N + 1 → chn c (movP c) N = 0) := fun h => by omega
          have hkb : ((k : Int) == (N : Int)) = false := by simp; omega
          rcases hsg with hs | hs
          · rw [hs] at hE hS ⊢
            go_wp2_with fail
            go_roundw
            case rel => exact ⟨k + 1, by omega, by go_num, by first | (rw [hE.out]; done) | (rw [hE.out]; rfl) | (rw [hE.out]; congr 1; omega), by first | (rw [hS.out]; done) | (rw [hS.out]; rfl), bel_next hb b4, HZ.out⟩
            case measure => simp [intOf] <;> omega
          · rw [hs] at hE hS ⊢
            go_wp2_with fail
            go_roundw
            case rel => exact ⟨k + 1, by omega, by go_num, by first | (rw [hE.out]; done) | (rw [hE.out]; rfl) | (rw [hE.out]; congr 1; omega), by first | (rw [hS.out]; done) | (rw [hS.out]; rfl), bel_next hb b4, HZ.out⟩
            case measure => simp [intOf] <;> omega
      · have hke : k = N + 1 := by omega
        have HG : Hid (eulR c = (eul c k, 0)) := by
          have h0 := hp.out hke
          unfold Hid eulR
          rw [if_pos HC.out, hNN.out, if_neg (by omega), hke, eul, h0]
          simp
        clear hp
        go_wp2_with fail
        go_ret2
        exact ⟨ret_ii HG.out, bel_next B2 hb⟩
  · have HG : Hid (eulR c = (0, 1)) := by unfold Hid eulR; rw [if_neg hc]
    have hn : catB c = false := by simpa using hc
    clear hc
    go_wp2_with fail
    go_ret2
    exact ⟨ret_ii HG.out, B2⟩
set_option maxHeartbeats 1600000 in
theorem s_EulerCharacteristic {w : World} {v : Value} {c : Cat} (h : IC w v c) : Calls Try.prog 29 #[v] w (Ret w (.tuple #[.int .i64 (eulR c).1, .int .i64 (eulR c).2])) := by
  obtain ⟨aF, aT, aI, aC, bF, oF, kF, bT, oT, kT, bI, oI, kI, bC, oC, kC, bR, oR, kR, rfl, V⟩ := h.boxed 29
  have B : Bel w (w.alloc (.cells #[.int .i64 c.n, .slice aF c.fr.length kF, .slice aT c.to.length kT, .slice aI c.id.length kI, .slice aC c.cm.length kC] 29)) := bel_box w _
  have ZB := Lib.hid (show (w.alloc (.cells #[.int .i64 c.n, .slice aF c.fr.length kF, .slice aT c.to.length kT, .slice aI c.id.length kI, .slice aC c.cm.length kC] 29)).heap.size = w.heap.size + 1 from by simp)
  clear h
  go_enter Try.func29, Try.ntmps29
  go_wp2_with fail
  generalize w.alloc (.cells #[.int .i64 c.n, .slice aF c.fr.length kF, .slice aT c.to.length kT, .slice aI c.id.length kI, .slice aC c.cm.length kC] 29) = w1 at *
  generalize w.heap.size = b at *
  have c0 := V.c0
  have c1 := V.c1
  have c2 := V.c2
  have c3 := V.c3
  have c4 := V.c4
  refine (c_l02Is V.ic).mono ?_
  rintro e w2 ⟨rfl, b2⟩
  have V2 := V.kept b2
  have B2 := B.next b2
  clear c0 c1 c2 c3 c4
  by_cases hc : catB c = true
  · have SH := Lib.hid (catB_s hc).s
    have HC := Lib.hid hc
    obtain ⟨N, hN⟩ := Int.eq_ofNat_of_zero_le SH.out.n0
    have n8 := SH.out.n8
    have hN8 : N ≤ 8 := by omega
    have hm40 : c.fr.length ≤ 40 := by have := SH.out.m40; unfold Cat.m at this; omega
    have hNN : Hid (c.n.toNat = N) := by unfold Hid; rw [hN]; simp
    have hw8 : Hid (∀ k, (wlk c (movP c) k).length ≤ 8) := fun k => by rw [wlk_length, hNN.out]; exact hN8
    have HNN := Lib.hid hN
    have HN8 := Lib.hid n8
    clear hN n8
    go_wp2_with fail
    go_loopw [4, 5, 6] (fun s g kv wr => ∃ k : Nat, k ≤ N ∧ kv = .int .i64 k ∧ s = .int .i64 (eul c k) ∧ g = .int .i64 (sg k) ∧ Below w2.heap.size w2 wr) (fun _ _ kv _ => N - (intOf kv).toNat)
    case atStart => exact ⟨0, Nat.zero_le _, rfl, rfl, rfl, Below.refl _ _⟩
    case round =>
      obtain ⟨k, hk, rfl, rfl, rfl, hb⟩ := hrel
      have V3 := V2.kept hb
      have c0 := V3.c0
      have c1 := V3.c1
      have c2 := V3.c2
      have c3 := V3.c3
      have c4 := V3.c4
      rw [HNN.out] at c0
      have VI := V3.ic
      rw [HNN.out] at VI
      by_cases hlt : k < N
      · go_wp2_with fail
        refine (c_l33Walks_mov VI SH.out (K := k) (by omega)).mono ?_
        rintro e w4 ⟨u, rfl, o4, b4⟩
        clear c0 c1 c2 c3 c4
        go_wp2_with fail
        refine (c_l33Sum o4.is (hw8.out k) (wlk_num (c := c) (movP c) hm40 (by omega))).mono ?_
        rintro e w5 ⟨rfl, b5⟩
        have hbd := chn_bd (c := c) (movP c) hm40 HN8.out (k := k) (by omega)
        have hed := eul_bd (c := c) hm40 HN8.out k (by omega)
        have hsg := sg_or k
        have hE : Hid (eul c (k + 1) = eul c k + sg k * chn c (movP c) k) := rfl
        have hS : Hid (sg (k + 1) = -(sg k)) := rfl
        have hch : (wlk c (movP c) k).sum = chn c (movP c) k := rfl
        rw [hch]
        clear hch
        rcases hsg with hs | hs
        · rw [hs] at hE hS ⊢
          go_wp2_with fail
          go_roundw
          case rel => exact ⟨k + 1, by omega, by go_num, by first | (rw [hE.out]; done) | (rw [hE.out]; rfl) | (rw [hE.out]; congr 1; omega), by first | (rw [hS.out]; done) | (rw [hS.out]; rfl), bel_next hb (bel_next b4 b5)⟩
          case measure => simp [intOf] <;> omega
        · rw [hs] at hE hS ⊢
          go_wp2_with fail
          go_roundw
          case rel => exact ⟨k + 1, by omega, by go_num, by first | (rw [hE.out]; done) | (rw [hE.out]; rfl) | (rw [hE.out]; congr 1; omega), by first | (rw [hS.out]; done) | (rw [hS.out]; rfl), bel_next hb (bel_next b4 b5)⟩
          case measure => simp [intOf] <;> omega
      · obtain rfl : k = N := by omega
        have hkb : decide ((k : Int) < (k : Int)) = false := by simp
        go_wp2_with fail
        refine (c_l33Walks_mov VI SH.out (K := k) (by omega)).mono ?_
        rintro e w4 ⟨u, rfl, o4, b4⟩
        clear c0 c1 c2 c3 c4
        go_wp2_with fail
        refine (c_l33Sum o4.is (hw8.out k) (wlk_num (c := c) (movP c) hm40 (by omega))).mono ?_
        rintro e w5 ⟨rfl, b5⟩
        have hch : (wlk c (movP c) k).sum = chn c (movP c) k := rfl
        rw [hch]
        clear hch
        by_cases hpos : chn c (movP c) k > 0
        · have HG : Hid (eulR c = (0, 4)) := by unfold Hid eulR; rw [if_pos HC.out, hNN.out, if_pos hpos]
          have hpb : decide (0 < chn c (movP c) k) = true := by simp; omega
          clear hpos
          go_wp2_with fail
          go_ret2
          exact ⟨ret_ii HG.out, bel_next B2 (bel_next hb (bel_next b4 b5))⟩
        · have HG : Hid (eulR c = (eul c k, 0)) := by unfold Hid eulR; rw [if_pos HC.out, hNN.out, if_neg hpos]
          have hpb : decide (0 < chn c (movP c) k) = false := by simp; omega
          clear hpos
          go_wp2_with fail
          go_ret2
          exact ⟨ret_ii HG.out, bel_next B2 (bel_next hb (bel_next b4 b5))⟩
  · have HG : Hid (eulR c = (0, 1)) := by unfold Hid eulR; rw [if_neg hc]
    have hn : catB c = false := by simpa using hc
    clear hc
    go_wp2_with fail
    go_ret2
    exact ⟨ret_ii HG.out, B2⟩
end Go.Proofs.Ytkmkbmhpdnddnaa
