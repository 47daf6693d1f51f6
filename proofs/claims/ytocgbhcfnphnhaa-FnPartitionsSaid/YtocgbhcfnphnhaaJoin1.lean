/-
  Chapter 1: the joiner: numbers, joinerOf, root, join, partition.
-/
import Derived.Test.YtocgbhcfnphnhaaNormal
import Derived.Test.YtocgbhcfnphnhaaJoinPlain
namespace Go.Proofs.Ytocgbhcfnphnhaa
open Go.RowKit

theorem ret_nat {a b : Nat} (h : b = a) : Ending.returned (.int .i64 (a : Int)) = .returned (.int .i64 (b : Int)) := by rw [h]
theorem ret_bool {a b : Bool} (h : b = a) : Ending.returned (.bool a) = .returned (.bool b) := by rw [h]
/-- Block g holds a list of parents whose roots are R. -/
def JN (w : World) (g n : Nat) (R : Nat → Nat) : Prop := ∃ js, w.rowIs g 2 n (fun i => .int .i64 (gi js i)) ∧ Rep n js R
theorem JN.lt {w : World} {g n : Nat} {R : Nat → Nat} (h : JN w g n R) : g < w.heap.size := by obtain ⟨js, hr, _⟩ := h; exact hr.lt
theorem JN.kept {w w' : World} {g n : Nat} {R : Nat → Nat} (h : JN w g n R) {B T : Nat} (hb : Within B T w w') (hg : g < B ∨ T ≤ g) : JN w' g n R := by
  obtain ⟨js, hr, hp⟩ := h
  exact ⟨js, hr.of_block (hb.block g hg hr.lt), hp⟩

theorem c_numbers (n : Nat) (hn : n ≤ 4294967296) (w : World) : Calls Try.prog 70 #[.int .i64 (n : Int)] w (fun e w' => e = .returned (.slice (some ⟨w.heap.size, 0, none⟩) n n) ∧ w'.rowIs w.heap.size 2 n (fun j => .int .i64 (gi (upto n) j)) ∧ Below w.heap.size w w') := by
  have hmk := run_make_row' (P := Try.prog) 24 2 (.int .i64 0) 8 Try.underlying24 infoInt64 rfl .i64 .i64 n (by omega) (by omega)
  go_enter Try.func70, Try.ntmps70
  go_wp2
  clear hmk
  go_loopw [4, 9] (fun _ i wr => ∃ k : Nat, k ≤ n ∧ i = .int .i64 k ∧ Below w.heap.size w wr ∧ wr.rowIs w.heap.size 2 n (fun j => if j < k then .int .i64 (gi (upto n) j) else .int .i64 0)) (fun _ i _ => n - (intOf i).toNat)
  case atStart => exact ⟨0, Nat.zero_le _, rfl, bel_alloc (Below.refl _ _) _, (World.rowIs_made w _ _ _).congr (fun i _ => by simp)⟩
  case round =>
    obtain ⟨k, hk, rfl, hb, hr⟩ := hrel
    by_cases hlt : k < n
    · have hst := hr.cell hlt
      have hfz := hr.frozen k
      have HG := Lib.hid (gi_upto hlt)
      go_wp2
      go_roundw
      case rel => exact ⟨k + 1, by omega, by go_num, hb.setCell (Nat.le_refl _) _, (hr.set k _).congr (row_step2 _ _ _ _ (fun j => .int .i64 (gi (upto n) j)) (by rw [HG.out]))⟩
      case measure => simp [intOf]; omega
    · have hk : k = n := by omega
      subst hk
      go_wp2
      go_ret
      exact ⟨rfl, hr.congr (fun i hi => if_pos hi), hb⟩
theorem c_joinerOf (n : Nat) (hn : n ≤ 4294967296) (w : World) : Calls Try.prog 49 #[.int .i64 (n : Int)] w (fun e w' => e = .returned (.slice (some ⟨w.heap.size, 0, none⟩) n n) ∧ JN w' w.heap.size n id ∧ Below w.heap.size w w') := by
  go_enter Try.func49, Try.ntmps49
  go_wp2_with fail
  refine (c_numbers n hn w).mono ?_
  rintro e w1 ⟨rfl, hr, hb⟩
  go_wp2_with fail
  go_ret
  exact ⟨rfl, ⟨upto n, hr, Rep.start n⟩, hb⟩

theorem c_root {w : World} {g n : Nat} {R : Nat → Nat} (h : JN w g n R) (hn : n ≤ 4294967296) (x : Nat) (hx : x < n) :
    Calls Try.prog 71 #[.slice (some ⟨g, 0, none⟩) n n, .int .i64 (x : Int)] w (fun e w' => e = .returned (.int .i64 (R x : Int)) ∧ JN w' g n R ∧ Within g (g + 1) w w') := by
  obtain ⟨js0, hr0, hp0⟩ := h
  have HP0 := Lib.hid hp0
  clear hp0
  go_enter Try.func71, Try.ntmps71
  go_wp2
  go_loopw [1] (fun xv wr => ∃ (y : Nat) (js : List Int), y < n ∧ xv = .int .i64 (y : Int) ∧ wr.rowIs g 2 n (fun i => .int .i64 (gi js i)) ∧ Hid (Rep n js R ∧ R y = R x) ∧ Within g (g + 1) w wr) (fun xv _ => (intOf xv).toNat)
  case atStart => exact ⟨x, js0, hx, rfl, hr0, ⟨HP0.out, rfl⟩, Within.refl _ _ _⟩
  case round =>
    obtain ⟨y, js, hy, rfl, hr, hp, hw⟩ := hrel
    have hle := hp.out.1.le y hy
    obtain ⟨p, hpe⟩ := Int.eq_ofNat_of_zero_le hle.1
    have cy := hr.cell hy
    rw [hpe] at cy
    have HE := Lib.hid hpe
    have hle2 : p ≤ y := by omega
    clear hpe hle
    by_cases he : p = y
    · subst he
      go_wp2
      go_ret
      exact ⟨ret_nat (by rw [← hp.out.2, hp.out.1.root p hy HE.out]), ⟨js, hr, hp.out.1⟩, hw⟩
    · have heb : ((p : Int) != (y : Int)) = true := by rw [ne_len]; simp [he]
      have HNE := Lib.hid (show gi js y ≠ (y : Int) by rw [HE.out]; omega)
      have hpn : p < n := by omega
      have cp := hr.cell hpn
      have hh := hp.out.1.halve hy HNE.out
      rw [HE.out, Int.toNat_natCast] at hh
      have hle3 := hp.out.1.le p hpn
      obtain ⟨q, hqe⟩ := Int.eq_ofNat_of_zero_le hle3.1
      rw [hqe] at cp hh
      have HQ := Lib.hid hqe
      have hq : q < y := by have := hh.2.2.1; omega
      have HH := Lib.hid hh
      have hst := hr.frozen y
      have HR := Lib.hid (hr.set y (.int .i64 (q : Int)))
      have cy2 := HR.out.cell hy
      rw [if_pos rfl] at cy2
      clear hh hqe hle3 hr
      go_wp2
      go_roundw
      case rel =>
        refine ⟨q, js.set y q, by omega, rfl, HR.out.congr (fun i hi => ?_), ⟨HH.out.1, ?_⟩, hw.setCell (Nat.le_refl _) (by simp) _⟩
        · rw [gi_set (by rw [hp.out.1.len]; exact hy) (by rw [hp.out.1.len]; exact hi)]
          by_cases e : i = y
          · rw [if_pos e, if_pos e]
          · rw [if_neg e, if_neg e]
        · have := HH.out.2.2.2
          rw [Int.toNat_natCast] at this
          rw [this, hp.out.2]
      case measure => simp [intOf]; omega

theorem c_join {w : World} {g n : Nat} {R : Nat → Nat} (h : JN w g n R) (hn : n ≤ 4294967296) (x y : Nat) (hx : x < n) (hy : y < n) :
    Calls Try.prog 50 #[.slice (some ⟨g, 0, none⟩) n n, .int .i64 (x : Int), .int .i64 (y : Int)] w (fun e w' => (e = .returned (.bool (!decide (R x = R y)))) ∧ JN w' g n (joinR R (R x) (R y)) ∧ Within g (g + 1) w w') := by
  have HJ := Lib.hid h
  clear h
  go_enter Try.func50, Try.ntmps50
  go_wp2_with fail
  refine (c_root HJ.out hn x hx).mono ?_
  rintro e w1 ⟨rfl, j1, n1⟩
  go_wp2_with fail
  refine (c_root j1 hn y hy).mono ?_
  rintro e w2 ⟨rfl, j2, n2⟩
  obtain ⟨js, hr, hp⟩ := j2
  have hrx := hp.rle x hx
  have hry := hp.rle y hy
  have HJN := Lib.hid (hp.join hx hy)
  have HL := Lib.hid hp.len
  have hne := ne_len (R x) (R y)
  have N2 := Lib.hid (n1.trans n2)
  clear j1 n1 n2 hp HJ
  generalize hae : R x = a at *
  generalize hbe : R y = b at *
  have HA := Lib.hid hae
  have HB := Lib.hid hbe
  clear hae hbe
  rcases Nat.lt_trichotomy a b with hab | hab | hab
  · have hb : b < n := by omega
    have cb := hr.cell hb
    have fb := hr.frozen b
    have HR := Lib.hid (hr.set b (.int .i64 (a : Int)))
    clear hr
    go_wp2_with fail
    go_ret
    refine ⟨ret_bool (by first | (rw [HA.out, HB.out]; done) | simp [HA.out, HB.out]), ⟨_, HR.out.congr (fun i hi => ?_), by rw [HA.out, HB.out]; exact HJN.out⟩, N2.out.setCell (Nat.le_refl _) (by simp) _⟩
    rw [show max a b = b from by omega, show min a b = a from by omega, gi_set (by rw [HL.out]; exact hb) (by rw [HL.out]; exact hi)]
    by_cases e : i = b
    · rw [if_pos e, if_pos e]
    · rw [if_neg e, if_neg e]
  · subst hab
    have hb : a < n := by omega
    have cb := hr.cell hb
    have fb := hr.frozen a
    have HR := Lib.hid (hr.set a (.int .i64 (a : Int)))
    clear hr
    go_wp2_with fail
    go_ret
    refine ⟨ret_bool (by first | (rw [HA.out, HB.out]; done) | simp [HA.out, HB.out]), ⟨_, HR.out.congr (fun i hi => ?_), by rw [HA.out, HB.out]; exact HJN.out⟩, N2.out.setCell (Nat.le_refl _) (by simp) _⟩
    rw [show max a a = a from by omega, show min a a = a from by omega, gi_set (by rw [HL.out]; exact hb) (by rw [HL.out]; exact hi)]
    by_cases e : i = a
    · rw [if_pos e, if_pos e]
    · rw [if_neg e, if_neg e]
  · have hb : a < n := by omega
    have cb := hr.cell hb
    have fb := hr.frozen a
    have HR := Lib.hid (hr.set a (.int .i64 (b : Int)))
    clear hr
    go_wp2_with fail
    go_ret
    refine ⟨ret_bool (by first | (rw [HA.out, HB.out]; done) | simp [HA.out, HB.out]), ⟨_, HR.out.congr (fun i hi => ?_), by rw [HA.out, HB.out]; exact HJN.out⟩, N2.out.setCell (Nat.le_refl _) (by simp) _⟩
    rw [show max a b = a from by omega, show min a b = b from by omega, gi_set (by rw [HL.out]; exact hb) (by rw [HL.out]; exact hi)]
    by_cases e : i = a
    · rw [if_pos e, if_pos e]
    · rw [if_neg e, if_neg e]

theorem c_partition {w : World} {g n : Nat} {R : Nat → Nat} (h : JN w g n R) (hn : n ≤ 4294967296) :
    Calls Try.prog 51 #[.slice (some ⟨g, 0, none⟩) n n] w (fun e w' => ∃ u, e = .returned u ∧ OwnT 2 w.heap.size w'.heap.size w' u (cls (tab (fun i => (R i : Int)) n)) ∧ Within g (g + 1) w w') := by
  have HJ := Lib.hid h
  have hg := h.lt
  clear h
  have hmk := run_make_row' (P := Try.prog) 24 2 (.int .i64 0) 8 Try.underlying24 infoInt64 rfl .i64 .i64 n (by omega) (by omega)
  go_enter Try.func51, Try.ntmps51
  go_wp2
  clear hmk
  go_loopw [4, 10] (fun _ i wr => ∃ k : Nat, k ≤ n ∧ i = .int .i64 k ∧ Within g (g + 1) w wr ∧ JN wr g n R ∧ Hid (∀ i, i < n → R i ≤ i) ∧ wr.rowIs w.heap.size 2 n (fun j => if j < k then .int .i64 (R j : Int) else .int .i64 0)) (fun _ i _ => n - (intOf i).toNat)
  case atStart =>
    refine ⟨0, Nat.zero_le _, rfl, (below_within (bel_alloc (Below.refl _ _) _) g).mono (Nat.le_refl _) (by omega), HJ.out.kept (below_within (bel_alloc (Below.refl _ _) _) 0) (.inr (Nat.zero_le _)), ?_, (World.rowIs_made w _ _ _).congr (fun i _ => by simp)⟩
    obtain ⟨js, _, hp⟩ := HJ.out
    exact hp.rle
  case round =>
    obtain ⟨k, hk, rfl, hw, hj, hle, hr⟩ := hrel
    by_cases hlt : k < n
    · have hs := hw.size
      go_wp2_with fail
      refine (c_root hj hn k hlt).mono ?_
      rintro e w1 ⟨rfl, j1, n1⟩
      have hr1 := hr.of_block (n1.block w.heap.size (by omega) hr.lt)
      have hst := hr1.cell hlt
      have hfz := hr1.frozen k
      have HR := Lib.hid (hr1.set k (.int .i64 (R k : Int)))
      have hw1 := hw.trans n1
      have hk0 := hle.out k hlt
      have hwb : Within (w.heap.size) (w.heap.size + 1) w1 (w1.setCell ⟨w.heap.size, k, none⟩ (.int .i64 (R k : Int))) := (Within.refl _ _ _).setCell (p := ⟨w.heap.size, k, none⟩) (Nat.le_refl _) (Nat.lt_succ_self _) _
      have HJ1 := Lib.hid (j1.kept hwb (by omega))
      have HW1 := Lib.hid hw1
      clear hr hw hj hr1 n1 j1 hwb hw1
      go_wp2_with fail
      go_roundw
      case rel =>
        refine ⟨k + 1, by omega, by go_num, ?_, HJ1.out, hle, HR.out.congr (row_step2 _ _ _ _ (fun j => .int .i64 (R j : Int)) rfl)⟩
        exact ⟨HW1.out.os, HW1.out.tape, HW1.out.output, by simpa [World.setCell] using HW1.out.size, fun q hq hs2 => by rw [Below.heap_setCell _ _ _ _ (show q ≠ w.heap.size by have := HW1.out.size; omega)]; exact HW1.out.block q hq hs2⟩
      case measure => simp [intOf]; omega
    · have hk : k = n := by omega
      subst hk
      have e : k = (tab (fun i => (R i : Int)) k).length := (tab_length _ _).symm
      have hI : IS wr (.slice (some ⟨w.heap.size, 0, none⟩) k k) (tab (fun i => (R i : Int)) k) := by
        have hl : ∀ i, i < k → R i ≤ i := hle.out
        have h2 := hr.congr (g := fun j => .int .i64 (gi (tab (fun i => (R i : Int)) k) j)) (fun i hi => by rw [if_pos hi, gi_tab hi])
        have h3 : wr.rowIs w.heap.size 2 (tab (fun i => (R i : Int)) k).length (fun j => .int .i64 (gi (tab (fun i => (R i : Int)) k) j)) := by rw [← e]; exact h2
        have h4 := Own.of_row h3 (Nat.le_refl _) (fun i _ => rfl) (tab_I64 fun i hi => by have := hl i hi; exact ⟨by show _ ≤ (R i : Int); omega, by show (R i : Int) ≤ _; omega⟩) (by rw [← e]; exact hn)
        rw [← e] at h4
        exact h4.is
      have HI := Lib.hid hI
      clear hI hr e
      have hs := hw.size
      go_wp2_with fail
      refine (c_normal HI.out).mono ?_
      rintro e w2 ⟨u2, rfl, o2, b2⟩
      go_wp2_with fail
      go_ret
      exact ⟨_, rfl, ⟨o2.own.base hs, o2.top⟩, hw.trans ((below_within b2 g).mono (Nat.le_refl _) (by omega))⟩
end Go.Proofs.Ytocgbhcfnphnhaa
