/-
  PathCategory: l03Cyclic of the reference.
-/
import Derived.Test.YtllbjckbinolmaaPth
import Derived.Test.YtllbjckbinolmaaIdx
import Derived.StillTailTactics
namespace Go.Proofs.Ytllbjckbinolmaa
open Go.RowKit

theorem rlx_le {f : Nat → Int} {B : Int} (h : ∀ x, f x ≤ B) (u v x : Nat) : rlx f u v x ≤ B + 1 := by
  unfold rlx
  have h1 := h v
  have h2 := h u
  have h3 := h x
  split
  · exact Int.max_le.2 ⟨by omega, by omega⟩
  · omega
theorem ps_le {fr to : List Int} {f : Nat → Int} {B : Int} (h : ∀ x, f x ≤ B) : ∀ (m x : Nat), ps fr to f m x ≤ B + m
  | 0, x => by have := h x; show f x ≤ _; omega
  | m + 1, x => by
    have := rlx_le (f := ps fr to f m) (B := B + m) (ps_le (fr := fr) (to := to) h m) (gi fr m).toNat (gi to m).toNat x
    show rlx _ _ _ x ≤ _
    omega
theorem lps_le {fr to : List Int} {m : Nat} : ∀ k x : Nat, lps fr to m k x ≤ ((k * m : Nat) : Int)
  | 0, x => by show (0 : Int) ≤ _; omega
  | k + 1, x => by
    have := ps_le (fr := fr) (to := to) (f := lps fr to m k) (B := ((k * m : Nat) : Int)) (lps_le (fr := fr) (to := to) (m := m) k) m x
    show ps _ _ _ m x ≤ _
    rw [Nat.succ_mul]
    omega
theorem ps_nn {fr to : List Int} {f : Nat → Int} (h : ∀ x, 0 ≤ f x) (m x : Nat) : 0 ≤ ps fr to f m x := Int.le_trans (h x) (ps_ge fr to f x m)
theorem lps_nn {fr to : List Int} {m : Nat} : ∀ k x, 0 ≤ lps fr to m k x
  | 0, _ => Int.le_refl _
  | k + 1, x => ps_nn (lps_nn k) m x
theorem rowIs_kept {w w' : World} {b n : Nat} {T : TypeId} {f : Nat → Value} (h : w.rowIs b T n f) (hb : Below w.heap.size w w') : w'.rowIs b T n f := h.of_block (hb.block _ h.lt)
/-- The answer from place k on. -/
def cycB (n : Nat) (f : Nat → Int) : Prop := ∃ v, v < n ∧ (n : Int) - 1 < f v
instance (n : Nat) (f : Nat → Int) : Decidable (cycB n f) := decidable_of_iff (∃ v : Fin n, (n : Int) - 1 < f v) ⟨fun ⟨v, h⟩ => ⟨v, v.2, h⟩, fun ⟨v, hv, h⟩ => ⟨⟨v, hv⟩, h⟩⟩
set_option maxRecDepth 1000000 in
set_option maxHeartbeats 1600000 in
theorem c_l03Cyclic {w : World} {vf vt : Value} {fr to : List Int} (hf : IS w vf fr) (ht : IS w vt to) (hl : to.length = fr.length) (hm : fr.length ≤ 1048576) {n : Nat} (hn : n ≤ 8) (he : ∀ j, j < fr.length → (0 ≤ gi fr j ∧ gi fr j < n) ∧ (0 ≤ gi to j ∧ gi to j < n)) :
    Calls Try.prog 14 #[.int .i64 (n : Int), vf, vt] w (Ret w (.bool (decide (cycB n (lps fr to fr.length (n + 1)))))) := by
  obtain ⟨af, bf, of, cf, rfl, haf, hcf⟩ := hf.ex
  obtain ⟨at_, bt, ot, ct, rfl, hat, hct⟩ := ht.ex
  rw [hl] at hct hat ⊢
  have HF := Lib.hid hcf
  have HT := Lib.hid hct
  have HAF := Lib.hid haf
  have HAT := Lib.hid hat
  have HEE := Lib.hid he
  clear hcf hct haf hat he hf ht hl
  have hmk := run_make_row' (P := Try.prog) 22 2 (.int .i64 0) 8 Try.underlying22 infoInt64 rfl .i64 .i64 n (by omega) (by omega)
  go_enter Try.func14, Try.ntmps14
  go_wp2
  clear hmk
  go_loopw [8] (fun i wr => ∃ k : Nat, k ≤ n + 1 ∧ i = .int .i64 k ∧ Below w.heap.size w wr ∧ Hid (wr.rowIs w.heap.size 2 n (fun j => .int .i64 (lps fr to fr.length k j)))) (fun i _ => n + 1 - (intOf i).toNat)
  case atStart => exact ⟨0, Nat.zero_le _, rfl, (Below.refl _ _).alloc (Nat.le_refl _) _, World.rowIs_made w _ _ _⟩
  case round =>
    obtain ⟨k, hk, rfl, hb, HR⟩ := hrel
    by_cases hlt : k < n + 1
    · have d1 : decide ((k : Int) ≤ (n : Int)) = true := decide_eq_true (by omega)
      have HB := Lib.hid hb
      clear hb
      go_wp2_with fail
      go_loopw [9] (fun i wr => ∃ q : Nat, q ≤ fr.length ∧ i = .int .i64 q ∧ Below w.heap.size w wr ∧ Hid (wr.rowIs w.heap.size 2 n (fun j => .int .i64 (ps fr to (lps fr to fr.length k) q j)))) (fun i _ => fr.length - (intOf i).toNat)
      case atStart => exact ⟨0, Nat.zero_le _, rfl, HB.out, HR⟩
      case round =>
        obtain ⟨q, hq, rfl, hb2, HR2⟩ := hrel
        by_cases hlq : q < fr.length
        · have hb2' := hb2
          obtain ⟨⟨hu0, hu1⟩, hv0, hv1⟩ := HEE.out q hlq
          have hgt : w.heap.size < wr.heap.size := HR2.out.lt
          have HB2 := Lib.hid hb2
          clear hb2 hb2'
          have d2 : decide ((q : Int) < (fr.length : Int)) = true := decide_eq_true (by omega)
          go_wp2_with fail
          refine wp_region_still_tail 22 (by kernel_rfl) (by kernel_rfl) ?_
          simp only [List.take_succ_cons, List.take_zero, List.drop_succ_cons, List.drop_zero]
          obtain ⟨wq, hq⟩ : ∃ wq, wq = wr.drew := ⟨_, rfl⟩
          change wpStill _ _ wr.drew _ _ _
          rw [← hq]
          have hdq : Drawn wr wq := by subst hq; exact Drawn.one (Drawn.refl _)
          have Hq := Lib.hid hq
          clear hq
          have hb3 : Below w.heap.size w wq := HB2.out.trans (hdq.below _)
          have HR3 := rowIs_kept HR2.out (hdq.below _)
          have hgt3 : w.heap.size < wq.heap.size := HR3.lt
          clear hdq HB2 HR2
          obtain rfl := HAF.out (by omega)
          obtain rfl := HAT.out (by omega)
          obtain ⟨u, hu⟩ := Int.eq_ofNat_of_zero_le hu0
          obtain ⟨v, hv⟩ := Int.eq_ofNat_of_zero_le hv0
          have hun : u < n := by omega
          have hvn : v < n := by omega
          have cf : wq.cell? ⟨bf, of + q, none⟩ = some (.int .i64 (u : Int)) := by
            rw [← hu]
            exact upc hb3 (HF.out q hlq)
          have ct : wq.cell? ⟨bt, ot + q, none⟩ = some (.int .i64 (v : Int)) := by
            rw [← hv]
            exact upc hb3 (HT.out q hlq)
          have cu : wq.cell? ⟨w.heap.size, u, none⟩ = some (.int .i64 (ps fr to (lps fr to fr.length k) q u)) := HR3.cell hun
          have cv : wq.cell? ⟨w.heap.size, v, none⟩ = some (.int .i64 (ps fr to (lps fr to fr.length k) q v)) := HR3.cell hvn
          have fz := HR3.frozen v
          have hU0 : 0 ≤ ps fr to (lps fr to fr.length k) q u := ps_nn (lps_nn k) q u
          have hU1 : ps fr to (lps fr to fr.length k) q u ≤ 12000000 := by
            have h1 := ps_le (fr := fr) (to := to) (f := lps fr to fr.length k) (B := ((k * fr.length : Nat) : Int)) (lps_le (fr := fr) (to := to) (m := fr.length) k) q u
            have h2 : k * fr.length ≤ 9 * 1048576 := Nat.mul_le_mul (by omega) hm
            omega
          have hS : ps fr to (lps fr to fr.length k) (q + 1) = rlx (ps fr to (lps fr to fr.length k) q) u v := by
            show rlx _ _ _ = _
            rw [hu, hv]; rfl
          obtain ⟨U, hU⟩ : ∃ U, U = ps fr to (lps fr to fr.length k) q u := ⟨_, rfl⟩
          obtain ⟨Y, hY⟩ : ∃ Y, Y = ps fr to (lps fr to fr.length k) q v := ⟨_, rfl⟩
          rw [← hU] at cu hU0 hU1
          rw [← hY] at cv
          have hW : IntKind.i64.wrap (U + 1) = U + 1 := by simp [IntKind.wrap, IntKind.bits, IntKind.signed]; omega
          have HU := Lib.hid hU
          have HY := Lib.hid hY
          have HS := Lib.hid hS
          have HRK := Lib.hid HR3
          have HBK := Lib.hid hb3
          clear hS HR3 hb3 hu hv hu0 hu1 hv0 hv1 hU hY
          repeat still_step
          refine wpStill_nil ?_
          change wpList _ _ _ _ _ wr.drew
          rw [← Hq.out]
          clear Hq cf ct cu
          obtain ⟨M, hM⟩ : ∃ M, M = (if Y < U + 1 then U + 1 else Y) := ⟨_, rfl⟩
          rw [← hM]
          have HM := Lib.hid hM
          clear hM hW hU0 hU1
          go_wp2_with fail
          go_roundw
          case rel => exact ⟨q + 1, by omega, by go_num, HBK.out.setCell (Nat.le_refl _) _, (by
            refine (HRK.out.set v _).congr (fun x hx => ?_)
            rw [HS.out]
            unfold rlx
            rw [← HU.out, ← HY.out, HM.out]
            split
            · congr 1
              rw [Int.max_def]
              split <;> split <;> omega
            · rfl)⟩
          case measure => simp [intOf]; omega
        · have d2 : decide ((q : Int) < (fr.length : Int)) = false := decide_eq_false (by omega)
          have HR3 := Lib.hid HR2.out
          obtain rfl : q = fr.length := by omega
          go_wp2_with fail
          go_roundw
          case rel => exact ⟨k + 1, by omega, by go_num, hb2, HR2⟩
          case measure => simp [intOf]; omega
    · have d1 : decide ((k : Int) ≤ (n : Int)) = false := decide_eq_false (by omega)
      obtain rfl : k = n + 1 := by omega
      have HB := Lib.hid hb
      clear hb
      go_wp2_with fail
      go_loopw [10] (fun i wz => ∃ j : Nat, j ≤ n ∧ i = .int .i64 j ∧ Below w.heap.size w wz ∧ Hid (wz.rowIs w.heap.size 2 n (fun j => .int .i64 (lps fr to fr.length (n + 1) j))) ∧ Hid (∀ v, v < j → ¬ (n : Int) - 1 < lps fr to fr.length (n + 1) v)) (fun i _ => n - (intOf i).toNat)
      case atStart => exact ⟨0, Nat.zero_le _, rfl, HB.out, HR, fun v hv => by omega⟩
      case round =>
        obtain ⟨j, hj, rfl, hb2, HR2, HN⟩ := hrel
        by_cases hlj : j < n
        · have cj : wr.cell? ⟨w.heap.size, j, none⟩ = some (.int .i64 (lps fr to fr.length (n + 1) j)) := HR2.out.cell hlj
          have hU0 : 0 ≤ lps fr to fr.length (n + 1) j := lps_nn _ j
          have HB2 := Lib.hid hb2
          clear hb2
          obtain ⟨L, hL⟩ : ∃ L, L = lps fr to fr.length (n + 1) j := ⟨_, rfl⟩
          rw [← hL] at cj hU0
          have HL := Lib.hid hL
          clear hL
          by_cases hc : (n : Int) - 1 < L
          · have d3 : decide ((n : Int) - 1 < L) = true := decide_eq_true hc
            have hcc : cycB n (lps fr to fr.length (n + 1)) := ⟨j, hlj, by rw [← HL.out]; exact hc⟩
            have HCC := Lib.hid hcc
            clear hcc
            go_wp2_with fail
            go_ret
            exact ⟨by rw [decide_eq_true HCC.out]; rfl, HB2.out⟩
          · have d3 : decide ((n : Int) - 1 < L) = false := decide_eq_false hc
            go_wp2_with fail
            go_roundw
            case rel => exact ⟨j + 1, by omega, by go_num, HB2.out, HR2, fun v hv => by
              by_cases e : v = j
              · rw [e, ← HL.out]; exact hc
              · exact HN.out v (by omega)⟩
            case measure => simp [intOf]; omega
        · have d3 : decide ((j : Int) < (n : Int)) = false := decide_eq_false (by omega)
          have hcc : ¬ cycB n (lps fr to fr.length (n + 1)) := fun ⟨v, hv, hl⟩ => HN.out v (by omega) hl
          have HCC := Lib.hid hcc
          clear hcc
          have HB2 := Lib.hid hb2
          clear hb2
          go_wp2_with fail
          go_ret
          exact ⟨by rw [decide_eq_false HCC.out]; rfl, HB2.out⟩
end Go.Proofs.Ytllbjckbinolmaa
