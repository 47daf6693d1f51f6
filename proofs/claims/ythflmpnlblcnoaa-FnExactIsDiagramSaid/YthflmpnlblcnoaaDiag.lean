/-
  Chapter 35: IsDiagram of program and reference. A diagram is a list of (kind, number).
-/
import Derived.Test.YthflmpnlblcnoaaApp
import Derived.Test.YthflmpnlblcnoaaSets1
namespace Go.Proofs.Ythflmpnlblcnoaa
open Go.RowKit

def gp (d : List (Int × Int)) (i : Nat) : Int × Int := d.getD i (0, 0)
theorem gp_lt {d : List (Int × Int)} {i : Nat} (h : i < d.length) : gp d i = d[i] := by
  unfold gp; rw [List.getD_eq_getElem?_getD, List.getElem?_eq_getElem h]; rfl
theorem drop_gp {d : List (Int × Int)} {i : Nat} (h : i < d.length) : d.drop i = gp d i :: d.drop (i + 1) := by
  rw [gp_lt h]; exact List.drop_eq_getElem_cons h
/-- A slice of pairs of numbers reads as a list. -/
structure IDN (w : World) (v : Value) (d : List (Int × Int)) : Prop where
  ex : ∃ (ao : Option Addr) (b o c : Nat), v = .slice ao d.length c ∧ (0 < d.length → ao = some ⟨b, o, none⟩) ∧ ∀ i, i < d.length → w.cell? ⟨b, o + i * 2, none⟩ = some (.int .i64 (gp d i).1) ∧ w.cell? ⟨b, o + i * 2 + 1, none⟩ = some (.int .i64 (gp d i).2)
  wf : ∀ i, i < d.length → I64 (gp d i).1 ∧ I64 (gp d i).2
  len : d.length ≤ 4294967296
theorem IDN.kept {w w' : World} {v : Value} {d : List (Int × Int)} (h : IDN w v d) (hb : Below w.heap.size w w') : IDN w' v d := by
  obtain ⟨ao, b, o, c, rfl, ha, hc⟩ := h.ex
  exact ⟨⟨ao, b, o, c, rfl, ha, fun i hi => ⟨(hb.cell (World.block_lt_of_cell? _ _ (hc i hi).1)).trans (hc i hi).1, (hb.cell (World.block_lt_of_cell? _ _ (hc i hi).2)).trans (hc i hi).2⟩⟩, h.wf, h.len⟩
/-- How many operands a node has, or -1. -/
def nodeN (x : Int × Int) : Int := if x.1 = 0 then (if inR x.2 0 39 = true then 0 else -1) else if x.1 = 1 then (if inR x.2 0 7 = true then 0 else -1) else if x.1 = 2 ∨ x.1 = 3 then (if x.2 = 0 then 2 else -1) else -1
/-- The reference's loop. -/
def diaG : List (Int × Int) → Int → Bool
  | [], k => decide (k = 0)
  | x :: r, k => if nodeN x < 0 ∨ k = 0 then false else diaG r (k - 1 + nodeN x)
def isDia (d : List (Int × Int)) : Bool := decide (d.length ≤ 40) && diaG d 1
theorem c_l35Node (x : Int × Int) (h1 : I64 x.1) (h2 : I64 x.2) (w : World) : Calls Try.prog 38 #[.agg #[.int .i64 x.1, .int .i64 x.2]] w (Ret w (.int .i64 (nodeN x))) := by
  obtain ⟨a, b⟩ := x
  dsimp only at h1 h2 ⊢
  go_enter Try.func38, Try.ntmps38
  go_wp2_with (go_at_call 42; (with_reducible refine (c_l01In _ _ _ _).mono ?_); rintro e w' ⟨rfl, n1, rfl⟩)
  all_goals
    go_ret
    refine ⟨?_, (bel_alloc (Below.refl _ _) _).trans (Drawn.below (by repeat (first | exact Drawn.refl _ | refine Drawn.step ?_ _ | refine Drawn.one ?_)) _)⟩
    simp_all [nodeN]
theorem nodeN_bd (x : Int × Int) : nodeN x = -1 ∨ nodeN x = 0 ∨ nodeN x = 2 := by
  unfold nodeN; repeat' split
  all_goals simp
theorem gp_mk (d : List (Int × Int)) (i : Nat) : nodeN ((gp d i).1, (gp d i).2) = nodeN (gp d i) := rfl
set_option maxHeartbeats 400000 in
theorem s_IsDiagram {w : World} {v : Value} {d : List (Int × Int)} (h : IDN w v d) : Calls Try.prog 22 #[v] w (Ret w (.bool (isDia d))) := by
  obtain ⟨ao, b, o, c, rfl, ha, hc⟩ := h.ex
  have hlen := h.len
  have HWF := Lib.hid h.wf
  clear h
  by_cases h1 : d.length ≤ 40
  · have h1b : decide ((d.length : Int) > 40) = false := by simp; omega
    go_enter Try.func22, Try.ntmps22
    go_wp2_with fail
    go_loopw [3, 4, 5] (fun ov i _ wr => ∃ (k : Nat) (q : Int), k ≤ d.length ∧ i = .int .i64 k ∧ ov = .int .i64 q ∧ 0 ≤ q ∧ q ≤ k + 1 ∧ Below w.heap.size w wr ∧ Hid (diaG d 1 = diaG (d.drop k) q)) (fun _ i _ _ => d.length - (intOf i).toNat)
    case atStart => exact ⟨0, 1, Nat.zero_le _, rfl, rfl, by omega, by omega, Below.refl _ _, rfl⟩
    case round =>
      obtain ⟨k, q, hk, rfl, rfl, hq0, hq1, hb, hp⟩ := hrel
      by_cases hlt : k < d.length
      · obtain rfl := ha (by omega)
        obtain ⟨hx, hy⟩ := hc k hlt
        have cx := (hb.cell (World.block_lt_of_cell? _ _ hx)).trans hx
        have cy := (hb.cell (World.block_lt_of_cell? _ _ hy)).trans hy
        have HST : Hid (diaG (d.drop k) q = if nodeN (gp d k) < 0 ∨ q = 0 then false else diaG (d.drop (k + 1)) (q - 1 + nodeN (gp d k))) := by unfold Hid; rw [drop_gp hlt]; rfl
        clear hc hx hy
        go_wp2_with fail
        refine (c_l35Node (gp d k) (HWF.out k hlt).1 (HWF.out k hlt).2 _).mono ?_
        rintro e w2 ⟨rfl, b2⟩
        have hb2 := hb.trans (b2.mono hb.size)
        clear b2 hb cx cy
        rcases nodeN_bd (gp d k) with hn | hn | hn
        all_goals
          have HN := Lib.hid hn
          rw [hn]
          clear hn
        · go_wp2_with fail
          go_ret
          exact ⟨by rw [isDia, hp.out, HST.out, HN.out]; simp, hb2⟩
        · by_cases hq : q = 0
          · subst hq
            go_wp2_with fail
            go_ret
            exact ⟨by rw [isDia, hp.out, HST.out, HN.out]; simp, hb2⟩
          · have e1 : IntKind.i64.wrap (q - 1) = q - 1 := IntWalk.i64_in _ (by omega)
            have e2 : IntKind.i64.wrap (q - 1 + 0) = q - 1 := by rw [Int.add_zero]; exact e1
            have hqb : (q == 0) = false := by simp [hq]
            have HQ := Lib.hid hq
            clear hq
            go_wp2_with fail
            go_roundw
            case rel => exact ⟨k + 1, q - 1, by omega, by go_num, rfl, by have := HQ.out; omega, by omega, hb2, by unfold Hid; have := HQ.out; rw [hp.out, HST.out, HN.out, if_neg (by omega), Int.add_zero]⟩
            case measure => simp [intOf]; omega
        · by_cases hq : q = 0
          · subst hq
            go_wp2_with fail
            go_ret
            exact ⟨by rw [isDia, hp.out, HST.out, HN.out]; simp, hb2⟩
          · have e1 : IntKind.i64.wrap (q - 1) = q - 1 := IntWalk.i64_in _ (by omega)
            have e2 : IntKind.i64.wrap (q - 1 + 2) = q - 1 + 2 := IntWalk.i64_in _ (by omega)
            have hqb : (q == 0) = false := by simp [hq]
            have HQ := Lib.hid hq
            clear hq
            go_wp2_with fail
            go_roundw
            case rel => exact ⟨k + 1, q - 1 + 2, by omega, by go_num, rfl, by have := HQ.out; omega, by omega, hb2, by unfold Hid; have := HQ.out; rw [hp.out, HST.out, HN.out, if_neg (by omega)]⟩
            case measure => simp [intOf]; omega
      · have hke : d.length = k := by omega
        subst hke
        go_wp2_with fail
        go_ret
        exact ⟨by rw [isDia, hp.out, List.drop_length, diaG]; simp [h1]; rfl, hb⟩
  · have h1b : decide ((d.length : Int) > 40) = true := by simp; omega
    go_enter Try.func22, Try.ntmps22
    go_wp2_with fail
    go_ret
    exact ⟨by simp [isDia, h1], Below.refl _ _⟩
/-- The program's two loops. -/
def nodesB (d : List (Int × Int)) : Bool := d.all fun x => decide (0 ≤ nodeN x)
def endG : List (Int × Int) → Int → Nat → Int
  | [], k, i => if k ≤ 0 then i else -1
  | x :: r, k, i => if k ≤ 0 then i else endG r ((if 2 ≤ x.1 then k + 2 else k) - 1) (i + 1)
theorem endG_bd : ∀ (d : List (Int × Int)) (k : Int) (i : Nat), -1 ≤ endG d k i ∧ endG d k i ≤ i + d.length := by
  intro d
  induction d with
  | nil => intro k i; unfold endG; split <;> simp <;> omega
  | cons x r ih =>
    intro k i
    unfold endG
    split
    · simp <;> omega
    · have := ih ((if 2 ≤ x.1 then k + 2 else k) - 1) (i + 1)
      simp at this ⊢; omega
theorem node_kind {x : Int × Int} (h : 0 ≤ nodeN x) : nodeN x = if 2 ≤ x.1 then 2 else 0 := by
  unfold nodeN at *
  by_cases h0 : x.1 = 0
  · simp only [if_pos h0] at *
    split at h
    · rw [if_pos (by assumption), if_neg (by omega)]
    · omega
  · by_cases h1 : x.1 = 1
    · simp only [if_neg h0, if_pos h1] at *
      split at h
      · rw [if_pos (by assumption), if_neg (by omega)]
      · omega
    · by_cases h2 : x.1 = 2 ∨ x.1 = 3
      · simp only [if_neg h0, if_neg h1, if_pos h2] at *
        split at h
        · rw [if_pos (by assumption), if_pos (by omega)]
        · omega
      · simp only [if_neg h0, if_neg h1, if_neg h2] at *
        omega
theorem dia_end : ∀ (d : List (Int × Int)) (k : Int) (i : Nat), 0 ≤ k → nodesB d = true → (diaG d k = decide (endG d k i = (i + d.length : Nat))) := by
  intro d
  induction d with
  | nil =>
    intro k i hk _
    unfold diaG endG
    by_cases e : k = 0
    · subst e; simp
    · rw [if_neg (by omega)]; simp [e] <;> omega
  | cons x r ih =>
    intro k i hk hn
    simp only [nodesB, List.all_cons, Bool.and_eq_true, decide_eq_true_eq] at hn
    obtain ⟨hn1, hn2⟩ := hn
    unfold diaG endG
    by_cases e : k = 0
    · subst e
      rw [if_pos (by omega), if_pos (by omega)]
      simp <;> omega
    · rw [if_neg (by omega), if_neg (by omega)]
      have hkk := node_kind hn1
      have e2 : k - 1 + nodeN x = (if 2 ≤ x.1 then k + 2 else k) - 1 := by rw [hkk]; split <;> omega
      rw [e2, ih _ (i + 1) (by split <;> omega) hn2]
      congr 1
      simp only [List.length_cons]
      rw [show i + 1 + r.length = i + (r.length + 1) from by omega]
theorem dia_bad : ∀ (d : List (Int × Int)) (k : Int), nodesB d = false → diaG d k = false := by
  intro d
  induction d with
  | nil => intro k h; cases h
  | cons x r ih =>
    intro k h
    unfold diaG
    split
    · rfl
    · rename_i hx
      apply ih
      simp only [nodesB, List.all_cons] at h ⊢
      have : decide (0 ≤ nodeN x) = true := by simp; omega
      rw [this] at h
      simpa using h
set_option maxHeartbeats 400000 in
theorem c_operandEnd {w : World} {v : Value} {d : List (Int × Int)} (h : IDN w v d) (hl : d.length ≤ 4000000) : Calls Try.prog 45 #[v, .int .i64 0] w (Rd w (.int .i64 (endG d 1 0))) := by
  obtain ⟨ao, b, o, c, rfl, ha, hc⟩ := h.ex
  have hlen := h.len
  clear h
  go_enter Try.func45, Try.ntmps45
  go_wp2_with fail
  go_loopw [1, 5] (fun i ov wr => ∃ (k : Nat) (q : Int), k ≤ d.length ∧ i = .int .i64 k ∧ ov = .int .i64 q ∧ 0 ≤ q ∧ q ≤ k + 1 ∧ Drawn w wr ∧ Hid (endG d 1 0 = endG (d.drop k) q k)) (fun i ov _ => 2 * (d.length - (intOf i).toNat) + (if 0 < intOf ov then 1 else 0))
  case atStart => exact ⟨0, 1, Nat.zero_le _, rfl, rfl, by omega, by omega, (by repeat (first | exact Drawn.refl _ | refine Drawn.step ?_ _ | refine Drawn.one ?_)), rfl⟩
  case round =>
    obtain ⟨k, q, hk, rfl, rfl, hq0, hq1, hd, hp⟩ := hrel
    by_cases hq : 0 < q
    · have hqb : decide (q > 0) = true := by simp [hq]
      by_cases hlt : k < d.length
      · obtain rfl := ha (by omega)
        obtain ⟨hx, -⟩ := hc k hlt
        have cx := ((hd.below w.heap.size).cell (World.block_lt_of_cell? _ _ hx)).trans hx
        have hkb : decide ((k : Int) ≥ d.length) = false := by simp; omega
        have HST : Hid (endG (d.drop k) q k = endG (d.drop (k + 1)) ((if 2 ≤ (gp d k).1 then q + 2 else q) - 1) (k + 1)) := by unfold Hid; rw [drop_gp hlt, endG, if_neg (by omega)]
        have e1 : IntKind.i64.wrap (q - 1) = q - 1 := IntWalk.i64_in _ (by omega)
        have e2 : IntKind.i64.wrap (q + 2) = q + 2 := IntWalk.i64_in _ (by omega)
        have e3 : IntKind.i64.wrap (q + 2 - 1) = q + 2 - 1 := IntWalk.i64_in _ (by omega)
        clear hc hx
        by_cases h2 : 2 ≤ (gp d k).1
        · have h2b : decide ((gp d k).1 ≥ 2) = true := by simp [h2]
          go_wp2_with fail
          go_roundw
          case rel => exact ⟨k + 1, q + 2 - 1, by omega, by go_num, rfl, by omega, by omega, hd, by unfold Hid; rw [hp.out, HST.out, if_pos h2]⟩
          case measure => simp [intOf]; split <;> omega
        · have h2b : decide ((gp d k).1 ≥ 2) = false := by simp; omega
          go_wp2_with fail
          go_roundw
          case rel => exact ⟨k + 1, q - 1, by omega, by go_num, rfl, by omega, by omega, hd, by unfold Hid; rw [hp.out, HST.out, if_neg h2]⟩
          case measure => simp [intOf]; split <;> omega
      · have hkb : decide ((k : Int) ≥ d.length) = true := by simp; omega
        have hke : d.length ≤ k := by omega
        go_wp2_with fail
        go_ret
        exact rd_int (by rw [hp.out, List.drop_eq_nil_of_le hke, endG, if_neg (by omega)]) hd
    · have hqb : decide (q > 0) = false := by simp; omega
      go_wp2_with fail
      go_ret
      refine rd_int ?_ hd
      rw [hp.out]
      cases h : d.drop k with
      | nil => rw [endG, if_pos (by omega)]
      | cons x r => rw [endG, if_pos (by omega)]
theorem nodesB_step {d : List (Int × Int)} {k : Nat} (h : k < d.length) : nodesB (d.drop k) = (decide (0 ≤ nodeN (gp d k)) && nodesB (d.drop (k + 1))) := by
  rw [drop_gp h]; rfl
theorem isDia_eq (d : List (Int × Int)) : isDia d = (decide (d.length ≤ 40) && (nodesB d && decide (endG d 1 0 = d.length))) := by
  unfold isDia
  by_cases h : nodesB d = true
  · rw [dia_end d 1 0 (by omega) h, h]; simp
  · have h' : nodesB d = false := by simpa using h
    rw [dia_bad d 1 h', h']; simp
set_option maxHeartbeats 800000 in
theorem c_isDiagram {w : World} {v : Value} {d : List (Int × Int)} (h : IDN w v d) : Calls Try.prog 40 #[v] w (Ret w (.bool (isDia d))) := by
  have HI := Lib.hid h
  obtain ⟨ao, b, o, c, rfl, ha, hc⟩ := h.ex
  have hlen := h.len
  have HWF := Lib.hid h.wf
  clear h
  by_cases h1 : d.length ≤ 40
  · have h1b : decide ((d.length : Int) > 40) = false := by simp; omega
    have HE : Hid (∀ b, (nodesB d && decide (endG d 1 0 = d.length)) = b → isDia d = b) := fun b hb => by rw [isDia_eq, hb]; simp [h1]
    go_enter Try.func40, Try.ntmps40
    go_wp2_with fail
    go_loopw [4, 10] (fun _ i wr => ∃ (k : Nat), k ≤ d.length ∧ i = .int .i64 k ∧ Below w.heap.size w wr ∧ Hid (nodesB d = nodesB (d.drop k))) (fun _ i _ => d.length - (intOf i).toNat)
    case atStart => exact ⟨0, Nat.zero_le _, rfl, Below.refl _ _, rfl⟩
    case round =>
      obtain ⟨k, hk, rfl, hb, hp⟩ := hrel
      by_cases hlt : k < d.length
      · obtain rfl := ha (by omega)
        obtain ⟨hx, hy⟩ := hc k hlt
        have cx := (hb.cell (World.block_lt_of_cell? _ _ hx)).trans hx
        have cy := (hb.cell (World.block_lt_of_cell? _ _ hy)).trans hy
        have HST := Lib.hid (nodesB_step hlt)
        have hbx := World.block_lt_of_cell? _ _ cx
        have hs := hb.size
        generalize hA : (gp d k).1 = A at *
        generalize hB : (gp d k).2 = B at *
        have HX : Hid (gp d k = (A, B)) := by unfold Hid; rw [← hA, ← hB]
        clear hc hx hy hA hB
        go_wp2_with (go_at_call 37; (with_reducible refine (c_inRange _ _ _ _).mono ?_); rintro e w' ⟨rfl, n1, rfl⟩)
        all_goals first
          | (go_ret
             have hneg : ¬ 0 ≤ nodeN (A, B) := by simp_all [nodeN]
             refine ⟨?_, (bel_alloc hb _).trans (Drawn.below (by repeat (first | exact Drawn.refl _ | refine Drawn.step ?_ _ | refine Drawn.one ?_)) _)⟩
             rw [HE.out false (by rw [hp.out, HST.out, HX.out]; simp [hneg])]
             rfl)
          | (go_roundw
             case rel =>
               have hpos : 0 ≤ nodeN (A, B) := by simp_all [nodeN]
               exact ⟨k + 1, by omega, by go_num, (bel_alloc hb _).trans (Drawn.below (by repeat (first | exact Drawn.refl _ | refine Drawn.step ?_ _ | refine Drawn.one ?_)) _), by unfold Hid; rw [hp.out, HST.out, HX.out]; simp [hpos]⟩
             case measure => simp [intOf]; omega)
      · have hke : d.length = k := by omega
        subst hke
        have HI2 := Lib.hid (HI.out.kept hb)
        have hbd := endG_bd d 1 0
        go_wp2_with (go_at_call 45; (with_reducible refine (c_operandEnd HI2.out (by omega)).mono ?_); rintro e w' ⟨rfl, n1, rfl⟩)
        go_ret
        refine ⟨?_, hb.trans (Drawn.below (by repeat (first | exact Drawn.refl _ | refine Drawn.step ?_ _ | refine Drawn.one ?_)) _)⟩
        rw [HE.out (decide (endG d 1 0 = d.length)) (by rw [hp.out, List.drop_length]; simp [nodesB])]
        rfl
  · have h1b : decide ((d.length : Int) > 40) = true := by simp; omega
    go_enter Try.func40, Try.ntmps40
    go_wp2_with fail
    go_ret
    exact ⟨by simp [isDia, h1], Below.refl _ _⟩
theorem i_IsDiagram {w : World} {v : Value} {d : List (Int × Int)} (h : IDN w v d) : Calls Try.prog 24 #[v] w (Ret w (.bool (isDia d))) := by
  obtain ⟨ao, b, o, c, hv, -⟩ := h.ex
  have HI := Lib.hid h
  clear h
  subst hv
  go_enter Try.func24, Try.ntmps24
  go_wp2_with fail
  refine (c_isDiagram HI.out).mono ?_
  rintro e w' ⟨rfl, b⟩
  go_wp2_with fail
  go_ret
  exact ⟨rfl, b⟩
end Go.Proofs.Ythflmpnlblcnoaa
