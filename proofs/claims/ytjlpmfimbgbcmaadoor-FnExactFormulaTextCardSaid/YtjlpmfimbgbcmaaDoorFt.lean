/-
  The text of a formula: plain.
-/
import Derived.Test.YtjlpmfimbgbcmaaDoorNode
namespace Go.Proofs.YtjlpmfimbgbcmaaDoor
open Go.RowKit

theorem ba_assoc (a b c : ByteArray) : a ++ b ++ c = a ++ (b ++ c) := by
  apply ByteArray.ext
  simp [ByteArray.data_append, Array.append_assoc]
/-- One digit. -/
def dg (x : Int) : ByteArray := ⟨#[(48 + x.toNat).toUInt8]⟩
def bt (c : UInt8) : ByteArray := ⟨#[c]⟩
/-- The texts of k variables, with commas. -/
def agTx (ag : List Int) : Nat → ByteArray
  | 0 => ⟨#[]⟩
  | k + 1 => if k = 0 then bt 118 ++ dg (gi ag 0) else agTx ag k ++ bt 44 ++ (bt 118 ++ dg (gi ag k))
/-- The text of a node without parts. -/
def lfTx (x : Nd) : ByteArray :=
  if x.kd = 0 then bt 84 else if x.kd = 1 then bt 70 else if x.kd = 2 then bt 82 ++ dg x.sy ++ bt 40 ++ agTx x.ag x.ag.length ++ bt 41
  else bt 118 ++ dg (gi x.ag 0) ++ ⟨#[61, 118]⟩ ++ dg (gi x.ag 1)
def qtTx (x : Nd) : ByteArray := bt (if x.kd = 7 then 69 else 65) ++ dg x.sy ++ bt 46
def sgTx (x : Nd) : ByteArray := bt (if x.kd = 4 then 38 else if x.kd = 5 then 124 else 62)
/-- The part of d at i ends at e and has a text. -/
inductive Prt (d : List Nd) : Nat → Nat → ByteArray → Prop where
  | leaf (i : Nat) (h : i < d.length) (hn : ndB (gn d i) = true) (hk : (gn d i).kd = 0 ∨ (gn d i).kd = 1 ∨ (gn d i).kd = 2 ∨ (gn d i).kd = 3) : Prt d i (i + 1) (lfTx (gn d i))
  | quant (i e : Nat) (tx : ByteArray) (h : i < d.length) (hn : ndB (gn d i) = true) (hk : (gn d i).kd = 7 ∨ (gn d i).kd = 8) (hp : Prt d (i + 1) e tx) : Prt d i e (qtTx (gn d i) ++ tx)
  | bin (i m e : Nat) (t1 t2 : ByteArray) (h : i < d.length) (hn : ndB (gn d i) = true) (hk : (gn d i).kd = 4 ∨ (gn d i).kd = 5 ∨ (gn d i).kd = 6) (h1 : Prt d (i + 1) m t1) (h2 : Prt d m e t2) :
      Prt d i e (bt 40 ++ t1 ++ sgTx (gn d i) ++ t2 ++ bt 41)
theorem Prt.lt {d : List Nd} {i e : Nat} {tx : ByteArray} (h : Prt d i e tx) : i < e ∧ e ≤ d.length := by
  induction h with
  | leaf i h _ _ => omega
  | quant i e tx h _ _ _ ih => omega
  | bin i m e t1 t2 h _ _ _ _ ih1 ih2 => omega
theorem Prt.endG {d : List Nd} {i e : Nat} {tx : ByteArray} (h : Prt d i e tx) : ∀ p : Int, 1 ≤ p → endG (d.drop i) p i = endG (d.drop e) (p - 1) e := by
  induction h with
  | leaf i h _ hk =>
    intro p hp
    rw [endG_step h (by omega)]
    have : ndParts (gn d i).kd = 0 := by unfold ndParts; rw [if_neg (by omega), if_neg (by omega)]
    rw [this, Int.add_zero]
    rfl
  | quant i e tx h _ hk _ ih =>
    intro p hp
    rw [endG_step h (by omega)]
    have : ndParts (gn d i).kd = 1 := by unfold ndParts; rw [if_neg (by omega), if_pos hk]
    rw [this, show p - 1 + 1 = p by omega]
    exact ih p hp
  | bin i m e t1 t2 h _ hk _ _ ih1 ih2 =>
    intro p hp
    rw [endG_step h (by omega)]
    have : ndParts (gn d i).kd = 2 := by unfold ndParts; rw [if_pos hk]
    rw [this, show p - 1 + 2 = p + 1 by omega]
    have e1 := ih1 (p + 1) (by omega)
    rw [show p + 1 - 1 = p by omega] at e1
    rw [show ((i : Int) + 1) = ((i + 1 : Nat) : Int) by omega, e1]
    exact ih2 p hp
theorem Prt.endAt {d : List Nd} {i e : Nat} {tx : ByteArray} (h : Prt d i e tx) : endAt d i = (e : Int) := by
  unfold Go.Proofs.YtjlpmfimbgbcmaaDoor.endAt
  rw [h.endG 1 (by omega), endG_done _ (by omega)]
theorem ndB_kd {x : Nd} (h : ndB x = true) : 0 ≤ x.kd ∧ x.kd ≤ 8 := by
  unfold ndB at h
  rw [Bool.and_eq_true] at h
  have h2 := h.2
  split at h2
  · omega
  · split at h2
    · omega
    · split at h2
      · omega
      · rw [Bool.and_eq_true] at h2
        have := of_decide_eq_true h2.1
        omega
theorem ndB_sy {x : Nd} (h : ndB x = true) : 0 ≤ x.sy ∧ x.sy ≤ 3 := by
  unfold ndB at h
  rw [Bool.and_eq_true] at h
  have h2 := h.2
  split at h2
  · rw [Bool.and_eq_true] at h2
    exact of_decide_eq_true h2.1
  · split at h2
    · rw [Bool.and_eq_true] at h2
      have : x.sy = 0 := by simpa using h2.1
      omega
    · split at h2
      · rw [Bool.and_eq_true] at h2
        have := of_decide_eq_true h2.1
        omega
      · rw [Bool.and_eq_true, Bool.and_eq_true] at h2
        have : x.sy = 0 := by simpa using h2.2.1
        omega
theorem ndB_ag {x : Nd} (h : ndB x = true) {l : Nat} (hl : l < x.ag.length) : 0 ≤ gi x.ag l ∧ gi x.ag l ≤ 3 := by
  unfold ndB at h
  rw [Bool.and_eq_true] at h
  have := List.all_eq_true.1 h.1 _ (gi_mem hl)
  have h2 : 0 ≤ gi x.ag l ∧ gi x.ag l < 4 := by simpa using this
  omega
theorem ndB_2 {x : Nd} (h : ndB x = true) (hk : x.kd = 2) : x.ag.length ≤ 2 := by
  unfold ndB at h
  rw [Bool.and_eq_true, if_pos hk, Bool.and_eq_true] at h
  have := of_decide_eq_true h.2.2
  omega
theorem ndB_3 {x : Nd} (h : ndB x = true) (hk : x.kd = 3) : x.ag.length = 2 := by
  unfold ndB at h
  rw [Bool.and_eq_true, if_neg (by omega), if_pos hk, Bool.and_eq_true] at h
  have : (x.ag.length : Int) = 2 := by simpa using h.2.2
  omega
theorem endG_ne {d : List Nd} {i : Nat} {p : Int} (h : endG (d.drop i) p i ≠ -1) (hp : 1 ≤ p) : i < d.length := by
  by_cases hi : i < d.length
  · exact hi
  · rw [List.drop_of_length_le (by omega), endG_nil (by omega)] at h
    exact absurd rfl h
theorem prt_of {d : List Nd} (hd : ∀ i, i < d.length → ndB (gn d i) = true) : ∀ (n i : Nat) (p : Int), d.length - i ≤ n → 1 ≤ p → endG (d.drop i) p i ≠ -1 → ∃ m tx, Prt d i m tx := by
  intro n
  induction n with
  | zero =>
    intro i p hn hp he
    have := endG_ne he hp
    omega
  | succ n ih =>
    intro i p hn hp he
    have hi := endG_ne he hp
    have hb := hd i hi
    have hk := ndB_kd hb
    have hst := endG_step (i := (i : Int)) hi (show 0 < p by omega)
    by_cases h2 : (gn d i).kd = 4 ∨ (gn d i).kd = 5 ∨ (gn d i).kd = 6
    · have e2 : ndParts (gn d i).kd = 2 := by unfold ndParts; rw [if_pos h2]
      rw [e2, show p - 1 + 2 = p + 1 by omega, show ((i : Int) + 1) = ((i + 1 : Nat) : Int) by omega] at hst
      rw [hst] at he
      obtain ⟨m, t1, h1⟩ := ih (i + 1) (p + 1) (by omega) (by omega) he
      have hm := h1.lt
      rw [h1.endG _ (by omega), show p + 1 - 1 = p by omega] at he
      obtain ⟨e, t2, h3⟩ := ih m p (by omega) hp he
      exact ⟨e, _, .bin i m e t1 t2 hi hb h2 h1 h3⟩
    · by_cases h1 : (gn d i).kd = 7 ∨ (gn d i).kd = 8
      · have e1 : ndParts (gn d i).kd = 1 := by unfold ndParts; rw [if_neg h2, if_pos h1]
        rw [e1, show p - 1 + 1 = p by omega, show ((i : Int) + 1) = ((i + 1 : Nat) : Int) by omega] at hst
        rw [hst] at he
        obtain ⟨m, t1, h3⟩ := ih (i + 1) p (by omega) hp he
        exact ⟨m, _, .quant i m t1 hi hb h1 h3⟩
      · exact ⟨i + 1, _, .leaf i hi hb (by omega)⟩
theorem fmB_prt {d : List Nd} (h : fmB d = true) : ∃ tx, Prt d 0 d.length tx := by
  unfold fmB at h
  rw [Bool.and_eq_true, Bool.and_eq_true] at h
  obtain ⟨h1, h2, h3⟩ := h
  have hd : ∀ i, i < d.length → ndB (gn d i) = true := fun i hi => by
    rw [gn_lt hi]
    exact List.all_eq_true.1 h2 _ (List.getElem_mem hi)
  have he : endAt d 0 = (d.length : Int) := by simpa using h3
  obtain ⟨m, tx, hp⟩ := prt_of hd d.length 0 1 (by omega) (by omega) (by
    have : endG (d.drop 0) 1 ((0 : Nat) : Int) = (d.length : Int) := he
    rw [this]; omega)
  have := hp.endAt
  rw [he] at this
  have : m = d.length := by omega
  subst this
  exact ⟨tx, hp⟩
/-- The text of a formula. -/
noncomputable def txOf (d : List Nd) : ByteArray := @dite _ (∃ tx, Prt d 0 d.length tx) (Classical.propDecidable _) (fun h => h.choose) (fun _ => ⟨#[]⟩)
theorem txOf_prt {d : List Nd} (h : fmB d = true) : Prt d 0 d.length (txOf d) := by
  have he := fmB_prt h
  unfold txOf
  rw [dif_pos he]
  exact he.choose_spec
noncomputable def ftR (d : List Nd) : ByteArray × Int := if fmB d = true then (txOf d, 0) else (⟨#[]⟩, 1)
end Go.Proofs.YtjlpmfimbgbcmaaDoor
