/-
  FormulaText of the reference.
-/
import Derived.Test.YtjlpmfimbgbcmaaDoorFtx
import Derived.Test.YtjlpmfimbgbcmaaDoorQb
namespace Go.Proofs.YtjlpmfimbgbcmaaDoor
open Go.RowKit

theorem up_cell {w w' : World} {p : Addr} {v : Value} (hb : Below w.heap.size w w') (h : w.cell? p = some v) : w'.cell? p = some v := upN hb h
theorem agTx_size (ag : List Int) : ∀ k, (agTx ag k).size ≤ 3 * k
  | 0 => Nat.le_refl _
  | k + 1 => by
    have h := agTx_size ag k
    have h1 : ∀ x, (dg x).size = 1 := fun _ => rfl
    have h2 : ∀ c, (bt c).size = 1 := fun _ => rfl
    rw [agTx]
    split
    · simp only [ByteArray.size_append, h1, h2]; omega
    · simp only [ByteArray.size_append, h1, h2]; omega
set_option maxHeartbeats 8000000 in
set_option maxRecDepth 100000 in
theorem c_l29Text {w0 : World} {lv : Value} {d : List Nd} (hI : INS w0 lv d) (hd : d.length ≤ 40) {i e : Nat} {tx : ByteArray} (hp : Prt d i e tx) :
    ∀ (w : World), Below w0.heap.size w0 w → Calls Tryd.prog 23 #[lv, .int .i64 (i : Int)] w (Ret w (.string tx)) := by
  have HI := Lib.hid hI
  obtain ⟨ao, b, o, c, A, rfl, ha, hc, hA⟩ := hI.ex
  have HC := Lib.hid hc
  have HA := Lib.hid hA
  clear hI hc hA
  induction hp with
  | leaf i h hn hk =>
    intro w hb
    obtain rfl := ha (by omega)
    have x0 := upN hb (HC.out i h).1
    have x1 := upN hb (HC.out i h).2.1
    have x2 := upN hb (HC.out i h).2.2
    have hsy := ndB_sy hn
    have HN := Lib.hid hn
    have HB := Lib.hid hb
    have kp : (0 : Int) ≤ (i : Int) := by omega
    have kq : (i : Int) < (d.length : Int) := by omega
    have HF := Lib.hid (fun W => c_l01Dec hsy W)
    obtain ⟨aA, bA, oA, cA, hvA, haA, hcA⟩ := (HA.out i h).ex
    rw [hvA] at x2
    have HCA := Lib.hid hcA
    clear hn hb hvA hcA
    rcases hk with hk | hk | hk | hk
    · rw [hk] at x0
      have HT : Hid (lfTx (gn d i) = bt 84) := (by unfold lfTx; rw [if_pos hk] : lfTx (gn d i) = bt 84)
      rw [HT.out]
      clear hk
      go_enter Tryd.func23, Tryd.ntmps23
      go_wp2_with fail
      go_ret
      exact ⟨rfl, bel_alloc (Below.refl _ _) _⟩
    · rw [hk] at x0
      have HT : Hid (lfTx (gn d i) = bt 70) := (by unfold lfTx; rw [if_neg (by omega), if_pos hk] : lfTx (gn d i) = bt 70)
      rw [HT.out]
      clear hk
      go_enter Tryd.func23, Tryd.ntmps23
      go_wp2_with fail
      go_ret
      exact ⟨rfl, bel_alloc (Below.refl _ _) _⟩
    · rw [hk] at x0
      have HT : Hid (lfTx (gn d i) = bt 82 ++ dg (gn d i).sy ++ bt 40 ++ agTx (gn d i).ag (gn d i).ag.length ++ bt 41) := (by unfold lfTx; rw [if_neg (by omega), if_neg (by omega), if_pos hk] : lfTx (gn d i) = bt 82 ++ dg (gn d i).sy ++ bt 40 ++ agTx (gn d i).ag (gn d i).ag.length ++ bt 41)
      have h2 := ndB_2 HN.out hk
      clear hk
      go_enter Tryd.func23, Tryd.ntmps23
      go_wp2_with fail
      refine (HF.out _).mono ?_
      rintro e w1 ⟨rfl, b1⟩
      have b0 := bel_alloc (Below.refl w.heap.size w) (.cells #[.int .i64 2, .int .i64 (gn d i).sy, .slice aA (gn d i).ag.length cA] 47)
      have y2 : (w.alloc (.cells #[.int .i64 2, .int .i64 (gn d i).sy, .slice aA (gn d i).ag.length cA] 47)).cell? ⟨w.heap.size, 2, none⟩ = some (.slice aA (gn d i).ag.length cA) := by simp
      replace y2 := upN b1 y2
      have BB := bel_next b0 b1
      clear b0 b1 x0 x1 x2
      generalize w.alloc (.cells #[.int .i64 2, .int .i64 (gn d i).sy, .slice aA (gn d i).ag.length cA] 47) = W0 at *
      have HY2 := Lib.hid y2
      have HBB := Lib.hid BB
      clear BB y2
      go_wp2_with fail
      go_loopw [6, 7] (fun sv kv wr => ∃ k : Nat, k ≤ (gn d i).ag.length ∧ kv = .int .i64 k ∧ sv = .string (bt 82 ++ dg (gn d i).sy ++ bt 40 ++ agTx (gn d i).ag k) ∧ Below w1.heap.size w1 wr) (fun _ kv _ => (gn d i).ag.length - (intOf kv).toNat)
      case atStart => exact ⟨0, Nat.zero_le _, rfl, by rw [show agTx (gn d i).ag 0 = ⟨#[]⟩ from rfl, ba_empty]; rfl, Below.refl _ _⟩
      case round =>
        obtain ⟨k, hk, rfl, rfl, hb2⟩ := hrel
        have y2 := upN hb2 HY2.out
        by_cases hlk : k < (gn d i).ag.length
        · obtain rfl := haA (by omega)
          have cx := upN (bel_next HB.out (bel_next HBB.out hb2)) (HCA.out k hlk)
          have hax := ndB_ag HN.out hlk
          have HV := Lib.hid (fun W => c_l01Dec hax W)
          have hkk : (k : Int) < ((gn d i).ag.length : Int) := by omega
          have hk0' : (0 : Int) ≤ (k : Int) := by omega
          obtain ⟨S, hS⟩ : ∃ x, x = bt 82 ++ dg (gn d i).sy ++ bt 40 ++ agTx (gn d i).ag k := ⟨_, rfl⟩
          have hSz : S.size ≤ 100 := (by
            rw [hS, ByteArray.size_append, show (bt 82 ++ dg (gn d i).sy ++ bt 40).size = 3 from rfl]
            have := agTx_size (gn d i).ag k
            omega)
          rw [← hS]
          have HS := Lib.hid hS
          have hdz : (dg (gi (gn d i).ag k)).size = 1 := rfl
          clear hS
          by_cases hk0 : k = 0
          · subst hk0
            simp only [Nat.add_zero] at cx
            go_wp2_with fail
            refine (HV.out _).mono ?_
            rintro e w2 ⟨rfl, b2⟩
            have HB2 := Lib.hid (bel_next hb2 b2)
            clear b2 hb2 cx y2
            go_wp2_with fail
            go_roundw
            case rel => exact ⟨1, by omega, by go_num, by rw [HS.out, show agTx (gn d i).ag 0 = ⟨#[]⟩ from rfl, ba_empty, agTx, if_pos rfl]; simp only [ba_assoc]; rfl, HB2.out⟩
            case measure => simp [intOf]; omega
          · have hk1 : decide ((0 : Int) < (k : Int)) = true := decide_eq_true (by omega)
            have hk2 : 0 < k := by omega
            have hk3 : decide (0 < k) = true := decide_eq_true hk2
            go_wp2_with fail
            refine (HV.out _).mono ?_
            rintro e w2 ⟨rfl, b2⟩
            have HB2 := Lib.hid (bel_next hb2 b2)
            clear b2 hb2 cx y2
            go_wp2_with fail
            go_roundw
            case rel => exact ⟨k + 1, by omega, by go_num, by rw [HS.out, agTx, if_neg hk0]; simp only [ba_assoc]; rfl, HB2.out⟩
            case measure => simp [intOf]; omega
        · have hke : (gn d i).ag.length = k := by omega
          have hnl : decide ((k : Int) < ((gn d i).ag.length : Int)) = false := by simp; omega
          have hnl2 : ¬ k < (gn d i).ag.length := by omega
          obtain ⟨S, hS⟩ : ∃ x, x = bt 82 ++ dg (gn d i).sy ++ bt 40 ++ agTx (gn d i).ag k := ⟨_, rfl⟩
          have hSz : S.size ≤ 100 := (by
            rw [hS, ByteArray.size_append, show (bt 82 ++ dg (gn d i).sy ++ bt 40).size = 3 from rfl]
            have := agTx_size (gn d i).ag k
            omega)
          rw [← hS]
          have HS := Lib.hid hS
          have HKE := Lib.hid hke
          have HB2 := Lib.hid hb2
          clear hS hke hb2
          go_wp2_with fail
          go_ret
          exact ⟨by rw [HT.out, HKE.out, HS.out]; rfl, bel_next HBB.out HB2.out⟩
    · rw [hk] at x0
      have HT : Hid (lfTx (gn d i) = bt 118 ++ dg (gi (gn d i).ag 0) ++ ⟨#[61, 118]⟩ ++ dg (gi (gn d i).ag 1)) := (by unfold lfTx; rw [if_neg (by omega), if_neg (by omega), if_neg (by omega)] : lfTx (gn d i) = bt 118 ++ dg (gi (gn d i).ag 0) ++ ⟨#[61, 118]⟩ ++ dg (gi (gn d i).ag 1))
      have h3 := ndB_3 HN.out hk
      have g0 := ndB_ag HN.out (l := 0) (by omega)
      have g1 := ndB_ag HN.out (l := 1) (by omega)
      obtain rfl := haA (by omega)
      have z0 := upN HB.out (HCA.out 0 (by omega))
      have z1 := upN HB.out (HCA.out 1 (by omega))
      simp only [Nat.add_zero] at z0
      rw [h3] at x2
      clear hk haA h3 HCA HF
      generalize gi (gn d i).ag 0 = t0 at *
      generalize gi (gn d i).ag 1 = t1 at *
      have HV0 := Lib.hid (fun W => c_l01Dec g0 W)
      have HV1 := Lib.hid (fun W => c_l01Dec g1 W)
      have sz0 : (dg t0).size = 1 := rfl
      have sz1 : (dg t1).size = 1 := rfl
      have b0 := bel_alloc (Below.refl w.heap.size w) (.cells #[.int .i64 3, .int .i64 (gn d i).sy, .slice (some ⟨bA, oA, none⟩) 2 cA] 47)
      have y0 : (w.alloc (.cells #[.int .i64 3, .int .i64 (gn d i).sy, .slice (some ⟨bA, oA, none⟩) 2 cA] 47)).cell? ⟨w.heap.size, 0, none⟩ = some (.int .i64 3) := by simp
      have y1 : (w.alloc (.cells #[.int .i64 3, .int .i64 (gn d i).sy, .slice (some ⟨bA, oA, none⟩) 2 cA] 47)).cell? ⟨w.heap.size, 1, none⟩ = some (.int .i64 (gn d i).sy) := by simp
      have y2 : (w.alloc (.cells #[.int .i64 3, .int .i64 (gn d i).sy, .slice (some ⟨bA, oA, none⟩) 2 cA] 47)).cell? ⟨w.heap.size, 2, none⟩ = some (.slice (some ⟨bA, oA, none⟩) 2 cA) := by simp
      replace z0 := upN b0 z0
      replace z1 := upN b0 z1
      go_enter Tryd.func23, Tryd.ntmps23
      go_wp2_with fail
      clear x0 x1 x2
      generalize w.alloc (.cells #[.int .i64 3, .int .i64 (gn d i).sy, .slice (some ⟨bA, oA, none⟩) 2 cA] 47) = W0 at *
      refine wp_region_qb (by kernel_rfl) (by kernel_rfl) ?_
      repeat (refine qw_step (fun K hK => ?_); first | (refine qb_no rfl ?_; (try simp only [Act.put, List.setIfInBounds_toArray, List.set_cons_zero, List.set_cons_succ]); refine hK _ ?_; clear hK K) | (refine qb_yes rfl ?_; apply Exists.intro; refine ⟨fun w' hC => ?_, ?_⟩; (· (have x0 := up_cell hC y2; have x1 := up_cell hC z0; have x2 := up_cell hC z1; (try go_simp); (first | done | (go_at_call 46; with_reducible exact calls_qb hC (HV0.out _)) | (go_at_call 46; with_reducible exact calls_qb hC (HV1.out _)) | with_reducible rfl | exact rfl))); (try simp only [Act.put, List.setIfInBounds_toArray, List.set_cons_zero, List.set_cons_succ]); refine hK _ ?_; clear hK K))
      refine qw_nil ?_
      intro wq hbq
      go_wp2_with fail
      go_ret
      exact ⟨by rw [HT.out]; simp only [ba_assoc]; rfl, bel_next b0 hbq⟩
  | quant i e tx h hn hk hp ih =>
    intro w hb
    obtain rfl := ha (by omega)
    have hz := hp.size
    have hlt := hp.lt
    have htx : tx.size ≤ 640 := by omega
    have x0 := upN hb (HC.out i h).1
    have x1 := upN hb (HC.out i h).2.1
    have x2 := upN hb (HC.out i h).2.2
    have hsy := ndB_sy hn
    have HB := Lib.hid hb
    have kp : (0 : Int) ≤ (i : Int) := by omega
    have kq : (i : Int) < (d.length : Int) := by omega
    have hl1 : (i : Int) + 1 ≤ 41 := by omega
    have HF := Lib.hid (fun W => c_l01Dec hsy W)
    obtain ⟨aA, bA, oA, cA, hvA, -, -⟩ := (HA.out i h).ex
    rw [hvA] at x2
    generalize (gn d i).ag.length = lA at *
    have sz0 : (dg (gn d i).sy).size = 1 := rfl
    have HIH := Lib.hid (fun W (hW : Below w.heap.size w W) => ih W (bel_next HB.out hW))
    rw [show ((i + 1 : Nat) : Int) = (i : Int) + 1 by omega] at HIH
    clear hn hb hp hz hvA ih
    rcases hk with hk | hk
    · rw [hk] at x0
      have HT : Hid (qtTx (gn d i) = bt 69 ++ dg (gn d i).sy ++ bt 46) := (by unfold qtTx; rw [hk]; rfl : qtTx (gn d i) = bt 69 ++ dg (gn d i).sy ++ bt 46)
      clear hk
      have b0 := bel_alloc (Below.refl w.heap.size w) (.cells #[.int .i64 7, .int .i64 (gn d i).sy, .slice aA lA cA] 47)
      have y0 : (w.alloc (.cells #[.int .i64 7, .int .i64 (gn d i).sy, .slice aA lA cA] 47)).cell? ⟨w.heap.size, 0, none⟩ = some (.int .i64 7) := by simp
      have y1 : (w.alloc (.cells #[.int .i64 7, .int .i64 (gn d i).sy, .slice aA lA cA] 47)).cell? ⟨w.heap.size, 1, none⟩ = some (.int .i64 (gn d i).sy) := by simp
      have y2 : (w.alloc (.cells #[.int .i64 7, .int .i64 (gn d i).sy, .slice aA lA cA] 47)).cell? ⟨w.heap.size, 2, none⟩ = some (.slice aA lA cA) := by simp
      clear y0 y2
      go_enter Tryd.func23, Tryd.ntmps23
      go_wp2_with fail
      refine (HF.out _).mono ?_
      rintro e' w1 ⟨rfl, b1⟩
      have BB := bel_next b0 b1
      clear b0 b1 x0 x1 x2 y1
      go_wp2_with fail
      refine (HIH.out _ BB).mono ?_
      rintro e' w2 ⟨rfl, b2⟩
      have HBB := Lib.hid (bel_next BB b2)
      clear BB b2
      go_wp2_with fail
      go_ret
      exact ⟨by rw [HT.out]; simp only [ba_assoc]; rfl, HBB.out⟩
    · rw [hk] at x0
      have HT : Hid (qtTx (gn d i) = bt 65 ++ dg (gn d i).sy ++ bt 46) := (by unfold qtTx; rw [hk]; rfl : qtTx (gn d i) = bt 65 ++ dg (gn d i).sy ++ bt 46)
      clear hk
      have b0 := bel_alloc (Below.refl w.heap.size w) (.cells #[.int .i64 8, .int .i64 (gn d i).sy, .slice aA lA cA] 47)
      have y0 : (w.alloc (.cells #[.int .i64 8, .int .i64 (gn d i).sy, .slice aA lA cA] 47)).cell? ⟨w.heap.size, 0, none⟩ = some (.int .i64 8) := by simp
      have y1 : (w.alloc (.cells #[.int .i64 8, .int .i64 (gn d i).sy, .slice aA lA cA] 47)).cell? ⟨w.heap.size, 1, none⟩ = some (.int .i64 (gn d i).sy) := by simp
      have y2 : (w.alloc (.cells #[.int .i64 8, .int .i64 (gn d i).sy, .slice aA lA cA] 47)).cell? ⟨w.heap.size, 2, none⟩ = some (.slice aA lA cA) := by simp
      clear y0 y2
      go_enter Tryd.func23, Tryd.ntmps23
      go_wp2_with fail
      refine (HF.out _).mono ?_
      rintro e' w1 ⟨rfl, b1⟩
      have BB := bel_next b0 b1
      clear b0 b1 x0 x1 x2 y1
      go_wp2_with fail
      refine (HIH.out _ BB).mono ?_
      rintro e' w2 ⟨rfl, b2⟩
      have HBB := Lib.hid (bel_next BB b2)
      clear BB b2
      go_wp2_with fail
      go_ret
      exact ⟨by rw [HT.out]; simp only [ba_assoc]; rfl, HBB.out⟩
  | bin i m e t1 t2 h hn hk h1 h2 ih1 ih2 =>
    intro w hb
    obtain rfl := ha (by omega)
    have hz1 := h1.size
    have hz2 := h2.size
    have hlt1 := h1.lt
    have hlt2 := h2.lt
    have he := h1.endAt
    have ht1 : t1.size ≤ 640 := by omega
    have ht2 : t2.size ≤ 640 := by omega
    have x0 := upN hb (HC.out i h).1
    have x1 := upN hb (HC.out i h).2.1
    have x2 := upN hb (HC.out i h).2.2
    have HB := Lib.hid hb
    have kp : (0 : Int) ≤ (i : Int) := by omega
    have kq : (i : Int) < (d.length : Int) := by omega
    have hl1 : (i : Int) + 1 ≤ 41 := by omega
    obtain ⟨aA, bA, oA, cA, hvA, -, -⟩ := (HA.out i h).ex
    rw [hvA] at x2
    generalize (gn d i).ag.length = lA at *
    have HIH1 := Lib.hid (fun W (hW : Below w.heap.size w W) => ih1 W (bel_next HB.out hW))
    have HIH2 := Lib.hid (fun W (hW : Below w.heap.size w W) => ih2 W (bel_next HB.out hW))
    have HEN := Lib.hid (fun W (hW : Below w.heap.size w W) => c_l29End (HI.out.kept (bel_next HB.out hW)) hd (i + 1) (by omega))
    rw [he] at HEN
    rw [show ((i + 1 : Nat) : Int) = (i : Int) + 1 by omega] at HIH1 HEN
    clear hn hb h1 h2 hz1 hz2 hvA ih1 ih2 he
    rcases hk with hk | hk | hk
    · rw [hk] at x0
      have HT : Hid (sgTx (gn d i) = bt 38) := (by unfold sgTx; rw [hk]; rfl : sgTx (gn d i) = bt 38)
      have hEA : ({ data := #[38, 124, 62] } : ByteArray).extract 0 1 = bt 38 := by first | rfl | decide
      have HEA := Lib.hid hEA
      have szE : (({ data := #[38, 124, 62] } : ByteArray).extract 0 1).size = 1 := by rw [hEA]; rfl
      clear hk hEA
      have b0 := bel_alloc (Below.refl w.heap.size w) (.cells #[.int .i64 4, .int .i64 (gn d i).sy, .slice aA lA cA] 47)
      have y0 : (w.alloc (.cells #[.int .i64 4, .int .i64 (gn d i).sy, .slice aA lA cA] 47)).cell? ⟨w.heap.size, 0, none⟩ = some (.int .i64 4) := by simp
      have y1 : (w.alloc (.cells #[.int .i64 4, .int .i64 (gn d i).sy, .slice aA lA cA] 47)).cell? ⟨w.heap.size, 1, none⟩ = some (.int .i64 (gn d i).sy) := by simp
      have y2 : (w.alloc (.cells #[.int .i64 4, .int .i64 (gn d i).sy, .slice aA lA cA] 47)).cell? ⟨w.heap.size, 2, none⟩ = some (.slice aA lA cA) := by simp
      clear y1 y2
      go_enter Tryd.func23, Tryd.ntmps23
      go_wp2_with fail
      clear x0 x1 x2 y0
      refine (HIH1.out _ b0).mono ?_
      rintro e' w1 ⟨rfl, b1⟩
      have BB := bel_next b0 b1
      clear b0 b1
      go_wp2_with fail
      refine (HEN.out _ BB).mono ?_
      rintro e' w2 ⟨rfl, b2⟩
      have BB2 := bel_next BB b2
      clear BB b2
      go_wp2_with fail
      refine (HIH2.out _ BB2).mono ?_
      rintro e' w3 ⟨rfl, b3⟩
      have HBB := Lib.hid (bel_next BB2 b3)
      clear BB2 b3
      go_wp2_with fail
      go_ret
      exact ⟨by rw [HT.out, ← HEA.out]; simp only [ba_assoc]; rfl, HBB.out⟩
    · rw [hk] at x0
      have HT : Hid (sgTx (gn d i) = bt 124) := (by unfold sgTx; rw [hk]; rfl : sgTx (gn d i) = bt 124)
      have hEA : ({ data := #[38, 124, 62] } : ByteArray).extract 1 2 = bt 124 := by first | rfl | decide
      have HEA := Lib.hid hEA
      have szE : (({ data := #[38, 124, 62] } : ByteArray).extract 1 2).size = 1 := by rw [hEA]; rfl
      clear hk hEA
      have b0 := bel_alloc (Below.refl w.heap.size w) (.cells #[.int .i64 5, .int .i64 (gn d i).sy, .slice aA lA cA] 47)
      have y0 : (w.alloc (.cells #[.int .i64 5, .int .i64 (gn d i).sy, .slice aA lA cA] 47)).cell? ⟨w.heap.size, 0, none⟩ = some (.int .i64 5) := by simp
      have y1 : (w.alloc (.cells #[.int .i64 5, .int .i64 (gn d i).sy, .slice aA lA cA] 47)).cell? ⟨w.heap.size, 1, none⟩ = some (.int .i64 (gn d i).sy) := by simp
      have y2 : (w.alloc (.cells #[.int .i64 5, .int .i64 (gn d i).sy, .slice aA lA cA] 47)).cell? ⟨w.heap.size, 2, none⟩ = some (.slice aA lA cA) := by simp
      clear y1 y2
      go_enter Tryd.func23, Tryd.ntmps23
      go_wp2_with fail
      clear x0 x1 x2 y0
      refine (HIH1.out _ b0).mono ?_
      rintro e' w1 ⟨rfl, b1⟩
      have BB := bel_next b0 b1
      clear b0 b1
      go_wp2_with fail
      refine (HEN.out _ BB).mono ?_
      rintro e' w2 ⟨rfl, b2⟩
      have BB2 := bel_next BB b2
      clear BB b2
      go_wp2_with fail
      refine (HIH2.out _ BB2).mono ?_
      rintro e' w3 ⟨rfl, b3⟩
      have HBB := Lib.hid (bel_next BB2 b3)
      clear BB2 b3
      go_wp2_with fail
      go_ret
      exact ⟨by rw [HT.out, ← HEA.out]; simp only [ba_assoc]; rfl, HBB.out⟩
    · rw [hk] at x0
      have HT : Hid (sgTx (gn d i) = bt 62) := (by unfold sgTx; rw [hk]; rfl : sgTx (gn d i) = bt 62)
      have hEA : ({ data := #[38, 124, 62] } : ByteArray).extract 2 3 = bt 62 := by first | rfl | decide
      have HEA := Lib.hid hEA
      have szE : (({ data := #[38, 124, 62] } : ByteArray).extract 2 3).size = 1 := by rw [hEA]; rfl
      clear hk hEA
      have b0 := bel_alloc (Below.refl w.heap.size w) (.cells #[.int .i64 6, .int .i64 (gn d i).sy, .slice aA lA cA] 47)
      have y0 : (w.alloc (.cells #[.int .i64 6, .int .i64 (gn d i).sy, .slice aA lA cA] 47)).cell? ⟨w.heap.size, 0, none⟩ = some (.int .i64 6) := by simp
      have y1 : (w.alloc (.cells #[.int .i64 6, .int .i64 (gn d i).sy, .slice aA lA cA] 47)).cell? ⟨w.heap.size, 1, none⟩ = some (.int .i64 (gn d i).sy) := by simp
      have y2 : (w.alloc (.cells #[.int .i64 6, .int .i64 (gn d i).sy, .slice aA lA cA] 47)).cell? ⟨w.heap.size, 2, none⟩ = some (.slice aA lA cA) := by simp
      clear y1 y2
      go_enter Tryd.func23, Tryd.ntmps23
      go_wp2_with fail
      clear x0 x1 x2 y0
      refine (HIH1.out _ b0).mono ?_
      rintro e' w1 ⟨rfl, b1⟩
      have BB := bel_next b0 b1
      clear b0 b1
      go_wp2_with fail
      refine (HEN.out _ BB).mono ?_
      rintro e' w2 ⟨rfl, b2⟩
      have BB2 := bel_next BB b2
      clear BB b2
      go_wp2_with fail
      refine (HIH2.out _ BB2).mono ?_
      rintro e' w3 ⟨rfl, b3⟩
      have HBB := Lib.hid (bel_next BB2 b3)
      clear BB2 b3
      go_wp2_with fail
      go_ret
      exact ⟨by rw [HT.out, ← HEA.out]; simp only [ba_assoc]; rfl, HBB.out⟩
theorem s_FormulaText {w : World} {v : Value} {d : List Nd} (h : INS w v d) : Calls Tryd.prog 7 #[v] w (Ret w (.tuple #[.string (ftR d).1, .int .i64 (ftR d).2])) := by
  have HF := Lib.hid (s_IsFormula h)
  have HI := Lib.hid h
  obtain ⟨ao, b, o, c, A, rfl, -⟩ := h.ex
  clear h
  cases hf : fmB d with
  | true =>
    rw [ftR_t hf]
    have HT := Lib.hid (fun W (hW : Below w.heap.size w W) => c_l29Text HI.out (fmB_len hf) (txOf_prt hf) W hW)
    rw [show ((0 : Nat) : Int) = 0 from rfl] at HT
    go_enter Tryd.func7, Tryd.ntmps7
    go_wp2_with fail
    refine HF.out.mono ?_
    rintro e w1 ⟨rfl, b1⟩
    rw [hf]
    go_wp2_with fail
    refine (HT.out _ b1).mono ?_
    rintro e w2 ⟨rfl, b2⟩
    go_wp2_with fail
    go_ret2
    exact ⟨rfl, belN b1 b2 b1.size⟩
  | false =>
    rw [ftR_f hf]
    go_enter Tryd.func7, Tryd.ntmps7
    go_wp2_with fail
    refine HF.out.mono ?_
    rintro e w1 ⟨rfl, b1⟩
    rw [hf]
    go_wp2_with fail
    go_ret2
    exact ⟨rfl, b1⟩
end Go.Proofs.YtjlpmfimbgbcmaaDoor
