/-
  Chapter 29: IsFormula, SubformulaEnd of program and reference.
-/
import Derived.Test.YtjlpmfimbgbcmaaDoorNode
namespace Go.Proofs.YtjlpmfimbgbcmaaDoor
open Go.RowKit

theorem IS.shapeN {w : World} {v : Value} {xs : List Int} (h : IS w v xs) : ∃ ao c, v = .slice ao xs.length c := by
  obtain ⟨ao, b, o, c, rfl, -⟩ := h.ex
  exact ⟨ao, c, rfl⟩
set_option maxHeartbeats 800000 in
theorem c_isNode {w : World} {b p : Nat} {x : Nd} {va : Value} (h0 : w.cell? ⟨b, p, none⟩ = some (.int .i64 x.kd)) (h1 : w.cell? ⟨b, p + 1, none⟩ = some (.int .i64 x.sy)) (h2 : w.cell? ⟨b, p + 2, none⟩ = some va) (hI : IS w va x.ag) :
    Calls Tryd.prog 49 #[.pointer (some ⟨b, p, none⟩)] w (Ret w (.bool (ndB x))) := by
  obtain ⟨ao, c, rfl⟩ := hI.shapeN
  have hlen := hI.len
  have HI := Lib.hid hI
  clear hI
  obtain ⟨kd, sy, ag⟩ := x
  dsimp only at h0 h1 h2 hlen HI ⊢
  go_enter Tryd.func49, Tryd.ntmps49
  go_wp2_with fail
  refine (c_within HI.out 4 (by omega) (by omega)).mono ?_
  rintro e w2 ⟨rfl, n2, rfl⟩
  have d2 : Drawn w (w.drewN n2) := ⟨n2, rfl⟩
  generalize w.drewN n2 = w2 at *
  have b2 := d2.below w.heap.size
  replace h0 := upN b2 h0
  replace h1 := upN b2 h1
  replace h2 := upN b2 h2
  have HB := Lib.hid b2
  clear b2 d2 HI
  cases hal : allIn 4 ag with
  | false =>
    go_wp2_with fail
    go_ret
    exact ⟨by simp [ndB, hal], HB.out⟩
  | true =>
    go_wp2_with (go_at_call 48; (with_reducible refine (c_inRange _ _ _ _).mono ?_); rintro e w' ⟨rfl, n1, rfl⟩)
    all_goals
      go_ret
      refine ⟨?_, HB.out.trans (Drawn.below (by repeat (first | exact Drawn.refl _ | refine Drawn.step ?_ _ | refine Drawn.one ?_)) _)⟩
      simp_all [ndB]
set_option maxHeartbeats 800000 in
theorem c_l29Node {w : World} {x : Nd} {va : Value} (hI : IS w va x.ag) :
    Calls Tryd.prog 44 #[.agg #[.int .i64 x.kd, .int .i64 x.sy, va]] w (Ret w (.bool (ndB x))) := by
  obtain ⟨ao, c, rfl⟩ := hI.shapeN
  have hlen := hI.len
  have BB : Below w.heap.size w (w.alloc (.cells #[.int .i64 x.kd, .int .i64 x.sy, .slice ao x.ag.length c] 47)) := (Below.refl _ _).alloc (Nat.le_refl _) _
  have HI := Lib.hid (hI.kept BB)
  clear hI
  obtain ⟨kd, sy, ag⟩ := x
  dsimp only at hlen HI BB ⊢
  go_enter Tryd.func44, Tryd.ntmps44
  go_wp2_with fail
  refine (c_l01Map HI.out 4).mono ?_
  rintro e w2 ⟨rfl, n2, rfl⟩
  have HB := Lib.hid BB
  clear BB HI
  cases hal : allIn 4 ag with
  | false =>
    go_wp2_with fail
    go_ret
    exact ⟨by simp [ndB, hal], HB.out.trans (Drawn.below (by repeat (first | exact Drawn.refl _ | refine Drawn.step ?_ _ | refine Drawn.one ?_)) _)⟩
  | true =>
    go_wp2_with (go_at_call 43; (with_reducible refine (c_l01In _ _ _ _).mono ?_); rintro e w' ⟨rfl, n1, rfl⟩)
    all_goals
      go_ret
      refine ⟨?_, ((Below.refl w.heap.size w).alloc (Nat.le_refl _) _).trans (Drawn.below (by repeat (first | exact Drawn.refl _ | refine Drawn.step ?_ _ | refine Drawn.one ?_)) _)⟩
      simp_all [ndB]
theorem fmB_len {d : List Nd} (h : fmB d = true) : d.length ≤ 40 := by
  simp [fmB, inR] at h
  omega
def sfR (d : List Nd) (i : Int) : Int × Int := if fmB d = true then (if inR i 0 ((d.length : Int) - 1) = true then (endAt d i.toNat, 0) else (0, 2)) else (0, 1)
set_option maxHeartbeats 800000 in
theorem c_partEnd {w : World} {v : Value} {d : List Nd} (h : INS w v d) (hd : d.length ≤ 40) (k : Nat) (hk : k ≤ d.length) : Calls Tryd.prog 50 #[v, .int .i64 (k : Int)] w (Ret w (.int .i64 (endAt d k))) := by
  obtain ⟨ao, b, o, c, A, rfl, ha, hc, -⟩ := h.ex
  have HC := Lib.hid hc
  clear h hc
  go_enter Tryd.func50, Tryd.ntmps50
  go_wp2_with fail
  go_loopw [1, 5] (fun iv pv wr => ∃ (j : Nat) (q : Int), k ≤ j ∧ j ≤ d.length ∧ iv = .int .i64 (j : Int) ∧ pv = .int .i64 q ∧ 0 ≤ q ∧ q ≤ (j : Int) - k + 1 ∧ Below w.heap.size w wr ∧ Hid (endAt d k = endG (d.drop j) q j)) (fun iv _ _ => d.length - (intOf iv).toNat)
  case atStart => exact ⟨k, 1, Nat.le_refl _, hk, rfl, rfl, by omega, by omega, Below.refl _ _, rfl⟩
  case round =>
    obtain ⟨j, q, hj0, hj, rfl, rfl, hq0, hq1, hb, hp⟩ := hrel
    by_cases hq : 0 < q
    · by_cases hlt : j < d.length
      · obtain rfl := ha (by omega)
        have cx := upN hb (HC.out j hlt).1
        have HS := Lib.hid (endG_step (d := d) (i := (j : Int)) hlt hq)
        have hpb := ndParts_bd (gn d j).kd
        go_wp2_with fail
        refine (c_parts (k := (gn d j).kd) cx).mono ?_
        rintro e w2 ⟨rfl, b2⟩
        have HB := Lib.hid (belN hb b2 hb.size)
        clear hb b2 cx
        go_wp2_with fail
        go_roundw
        case rel => exact ⟨j + 1, q - 1 + ndParts (gn d j).kd, by omega, by omega, by go_num, by first | rfl | (congr 1; omega), by omega, by omega, HB.out, by unfold Hid; rw [hp.out, HS.out]; congr 1⟩
        case measure => simp [intOf]; omega
      · have hje : j = d.length := by omega
        have HE : Hid (endAt d k = -1) := by unfold Hid; rw [hp.out, hje, List.drop_length, endG_nil hq]
        have hlb : decide ((j : Int) ≥ (d.length : Int)) = true := by simp; omega
        clear hje
        go_wp2_with fail
        go_ret
        exact ⟨by first | (rw [HE.out]; done) | (rw [HE.out]; rfl) | (rw [HE.out]; simp), hb⟩
    · have HE : Hid (endAt d k = j) := by unfold Hid; rw [hp.out, endG_done _ (by omega)]
      go_wp2_with fail
      go_ret
      exact ⟨by first | (rw [HE.out]; done) | (rw [HE.out]; rfl) | (rw [HE.out]; simp), hb⟩
set_option maxHeartbeats 800000 in
theorem c_l29End {w : World} {v : Value} {d : List Nd} (h : INS w v d) (hd : d.length ≤ 40) (k : Nat) (hk : k ≤ d.length) : Calls Tryd.prog 45 #[v, .int .i64 (k : Int)] w (Ret w (.int .i64 (endAt d k))) := by
  obtain ⟨ao, b, o, c, A, rfl, ha, hc, -⟩ := h.ex
  have HC := Lib.hid hc
  clear h hc
  go_enter Tryd.func45, Tryd.ntmps45
  go_wp2_with fail
  go_loopw [1, 5] (fun iv pv wr => ∃ (j : Nat) (q : Int), k ≤ j ∧ j ≤ d.length ∧ iv = .int .i64 (j : Int) ∧ pv = .int .i64 q ∧ 0 ≤ q ∧ q ≤ (j : Int) - k + 1 ∧ Below w.heap.size w wr ∧ Hid (endAt d k = endG (d.drop j) q j)) (fun iv _ _ => d.length - (intOf iv).toNat)
  case atStart => exact ⟨k, 1, Nat.le_refl _, hk, rfl, rfl, by omega, by omega, Below.refl _ _, rfl⟩
  case round =>
    obtain ⟨j, q, hj0, hj, rfl, rfl, hq0, hq1, hb, hp⟩ := hrel
    by_cases hq : 0 < q
    · by_cases hlt : j < d.length
      · obtain rfl := ha (by omega)
        have cx := upN hb (HC.out j hlt).1
        have HS := Lib.hid (endG_step (d := d) (i := (j : Int)) hlt hq)
        have hpb := ndParts_bd (gn d j).kd
        go_wp2_with fail
        refine (c_l29Parts _ _).mono ?_
        rintro e w2 ⟨rfl, b2⟩
        have HB := Lib.hid (belN hb b2 hb.size)
        clear hb b2 cx
        go_wp2_with fail
        go_roundw
        case rel => exact ⟨j + 1, q - 1 + ndParts (gn d j).kd, by omega, by omega, by go_num, by first | rfl | (congr 1; omega), by omega, by omega, HB.out, by unfold Hid; rw [hp.out, HS.out]; congr 1⟩
        case measure => simp [intOf]; omega
      · have hje : j = d.length := by omega
        have HE : Hid (endAt d k = -1) := by unfold Hid; rw [hp.out, hje, List.drop_length, endG_nil hq]
        have hlb : decide ((j : Int) ≥ (d.length : Int)) = true := by simp; omega
        clear hje
        go_wp2_with fail
        go_ret
        exact ⟨by first | (rw [HE.out]; done) | (rw [HE.out]; rfl) | (rw [HE.out]; simp), hb⟩
    · have HE : Hid (endAt d k = j) := by unfold Hid; rw [hp.out, endG_done _ (by omega)]
      go_wp2_with fail
      go_ret
      exact ⟨by first | (rw [HE.out]; done) | (rw [HE.out]; rfl) | (rw [HE.out]; simp), hb⟩
set_option maxHeartbeats 800000 in
theorem c_isFormula {w : World} {v : Value} {d : List Nd} (h : INS w v d) : Calls Tryd.prog 25 #[v] w (Ret w (.bool (fmB d))) := by
  have h0 := h
  obtain ⟨ao, b, o, c, A, rfl, ha, hc, hA⟩ := h.ex
  have hlen := h.len
  have HH := Lib.hid h0
  have HC := Lib.hid hc
  have HA := Lib.hid hA
  clear h h0 hc hA
  go_enter Tryd.func25, Tryd.ntmps25
  go_wp2_with fail
  refine (c_inRange _ _ _ _).mono ?_
  rintro e w1 ⟨rfl, n1, rfl⟩
  have b1 := (show Drawn w (w.drewN n1) from ⟨n1, rfl⟩).below w.heap.size
  generalize w.drewN n1 = w1 at *
  cases hin : inR d.length 1 40 with
  | false =>
    go_wp2_with fail
    go_ret
    exact ⟨by simp [fmB, hin], b1⟩
  | true =>
    have hd40 : d.length ≤ 40 := by simp [inR] at hin; omega
    have HIN := Lib.hid hin
    clear hin
    go_wp2_with fail
    go_loopw [3, 10] (fun _ i wr => ∃ k : Nat, k ≤ d.length ∧ i = .int .i64 (k : Int) ∧ Below w.heap.size w wr ∧ Hid (d.all ndB = (d.drop k).all ndB)) (fun _ i _ => d.length - (intOf i).toNat)
    case atStart => exact ⟨0, Nat.zero_le _, rfl, b1, rfl⟩
    case round =>
      clear b1
      obtain ⟨k, hk, rfl, hb, hp⟩ := hrel
      by_cases hlt : k < d.length
      · obtain rfl := ha (by omega)
        obtain ⟨x0, x1, x2⟩ := HC.out k hlt
        have cx0 := upN hb x0
        have cx1 := upN hb x1
        have cx2 := upN hb x2
        have HI := Lib.hid ((HA.out k hlt).kept hb)
        have HS := Lib.hid (all_step hlt)
        clear x0 x1 x2
        go_wp2_with fail
        refine (c_isNode (x := gn d k) cx0 cx1 cx2 HI.out).mono ?_
        rintro e w2 ⟨rfl, b2⟩
        have HB := Lib.hid (belN hb b2 hb.size)
        clear hb b2 cx0 cx1 cx2
        cases hnd : ndB (gn d k) with
        | false =>
          have HE : Hid (fmB d = false) := by unfold Hid fmB; rw [hp.out, HS.out, hnd]; simp
          go_wp2_with fail
          go_ret
          exact ⟨by first | (rw [HE.out]; done) | (rw [HE.out]; rfl) | (rw [HE.out]; simp), HB.out⟩
        | true =>
          have HP : Hid (d.all ndB = (d.drop (k + 1)).all ndB) := by unfold Hid; rw [hp.out, HS.out, hnd]; simp
          clear hnd
          go_wp2_with fail
          go_roundw
          case rel => exact ⟨k + 1, by omega, by go_num, HB.out, HP.out⟩
          case measure => simp [intOf]; omega
      · have hke : k = d.length := by omega
        have HE : Hid (fmB d = (endAt d 0 == (d.length : Int))) := by unfold Hid fmB; rw [hp.out, hke, List.drop_length, HIN.out]; simp
        have HI := Lib.hid (HH.out.kept hb)
        have hlb : decide ((k : Int) < (d.length : Int)) = false := by simp; omega
        clear hke
        go_wp2_with fail
        refine (c_partEnd HI.out hd40 0 (Nat.zero_le _)).mono ?_
        rintro e w2 ⟨rfl, b2⟩
        have HB := Lib.hid (belN hb b2 hb.size)
        clear hb b2
        go_wp2_with fail
        go_ret
        exact ⟨by first | (rw [HE.out]; done) | (rw [HE.out]; rfl) | (rw [HE.out]; simp), HB.out⟩
set_option maxHeartbeats 800000 in
theorem s_IsFormula {w : World} {v : Value} {d : List Nd} (h : INS w v d) : Calls Tryd.prog 22 #[v] w (Ret w (.bool (fmB d))) := by
  have h0 := h
  obtain ⟨ao, b, o, c, A, rfl, ha, hc, hA⟩ := h.ex
  have hlen := h.len
  have HH := Lib.hid h0
  have HC := Lib.hid hc
  have HA := Lib.hid hA
  clear h h0 hc hA
  go_enter Tryd.func22, Tryd.ntmps22
  go_wp2_with fail
  refine (c_l01In _ _ _ _).mono ?_
  rintro e w1 ⟨rfl, n1, rfl⟩
  have b1 := (show Drawn w (w.drewN n1) from ⟨n1, rfl⟩).below w.heap.size
  generalize w.drewN n1 = w1 at *
  cases hin : inR d.length 1 40 with
  | false =>
    go_wp2_with fail
    go_ret
    exact ⟨by simp [fmB, hin], b1⟩
  | true =>
    have hd40 : d.length ≤ 40 := by simp [inR] at hin; omega
    have HIN := Lib.hid hin
    clear hin
    go_wp2_with fail
    go_loopw [3] (fun i wr => ∃ k : Nat, k ≤ d.length ∧ i = .int .i64 (k : Int) ∧ Below w.heap.size w wr ∧ Hid (d.all ndB = (d.drop k).all ndB)) (fun i _ => d.length - (intOf i).toNat)
    case atStart => exact ⟨0, Nat.zero_le _, rfl, b1, rfl⟩
    case round =>
      clear b1
      obtain ⟨k, hk, rfl, hb, hp⟩ := hrel
      by_cases hlt : k < d.length
      · obtain rfl := ha (by omega)
        obtain ⟨x0, x1, x2⟩ := HC.out k hlt
        have cx0 := upN hb x0
        have cx1 := upN hb x1
        have cx2 := upN hb x2
        have HI := Lib.hid ((HA.out k hlt).kept hb)
        have HS := Lib.hid (all_step hlt)
        clear x0 x1 x2
        go_wp2_with fail
        refine (c_l29Node (x := gn d k) HI.out).mono ?_
        rintro e w2 ⟨rfl, b2⟩
        have HB := Lib.hid (belN hb b2 hb.size)
        clear hb b2 cx0 cx1 cx2
        cases hnd : ndB (gn d k) with
        | false =>
          have HE : Hid (fmB d = false) := by unfold Hid fmB; rw [hp.out, HS.out, hnd]; simp
          go_wp2_with fail
          go_ret
          exact ⟨by first | (rw [HE.out]; done) | (rw [HE.out]; rfl) | (rw [HE.out]; simp), HB.out⟩
        | true =>
          have HP : Hid (d.all ndB = (d.drop (k + 1)).all ndB) := by unfold Hid; rw [hp.out, HS.out, hnd]; simp
          clear hnd
          go_wp2_with fail
          go_roundw
          case rel => exact ⟨k + 1, by omega, by go_num, HB.out, HP.out⟩
          case measure => simp [intOf]; omega
      · have hke : k = d.length := by omega
        have HE : Hid (fmB d = (endAt d 0 == (d.length : Int))) := by unfold Hid fmB; rw [hp.out, hke, List.drop_length, HIN.out]; simp
        have HI := Lib.hid (HH.out.kept hb)
        have hlb : decide ((k : Int) < (d.length : Int)) = false := by simp; omega
        clear hke
        go_wp2_with fail
        refine (c_l29End HI.out hd40 0 (Nat.zero_le _)).mono ?_
        rintro e w2 ⟨rfl, b2⟩
        have HB := Lib.hid (belN hb b2 hb.size)
        clear hb b2
        go_wp2_with fail
        go_ret
        exact ⟨by first | (rw [HE.out]; done) | (rw [HE.out]; rfl) | (rw [HE.out]; simp), HB.out⟩
end Go.Proofs.YtjlpmfimbgbcmaaDoor
