/-
  PathCategory: the order of the routes. Plain, and the two functions that compare lists.
-/
import Derived.Test.YtllbjckbinolmaaHc
namespace Go.Proofs.Ytllbjckbinolmaa
open Go.RowKit

/-- The first list lies before the second one. -/
def lessL : List Int → List Int → Bool
  | a :: xs, b :: ys => if a = b then lessL xs ys else decide (a < b)
  | xs, ys => decide (xs.length < ys.length)
def cmpL : List Int → List Int → Int
  | a :: xs, b :: ys => if a = b then cmpL xs ys else if a < b then -1 else 1
  | [], [] => 0
  | [], _ :: _ => -1
  | _ :: _, [] => 1
theorem cmpL_lt : ∀ xs ys, decide (cmpL xs ys < 0) = lessL xs ys
  | [], [] => by decide
  | [], _ :: _ => by simp [cmpL, lessL]
  | _ :: _, [] => by simp [cmpL, lessL]
  | a :: xs, b :: ys => by
    rw [cmpL, lessL]
    by_cases e : a = b
    · rw [if_pos e, if_pos e]; exact cmpL_lt xs ys
    · rw [if_neg e, if_neg e]
      by_cases l : a < b
      · rw [if_pos l]; simp [l]
      · rw [if_neg l]; simp [l]
theorem cmpL_zero : ∀ xs ys, cmpL xs ys = 0 ↔ xs = ys
  | [], [] => by simp [cmpL]
  | [], _ :: _ => by simp [cmpL]
  | _ :: _, [] => by simp [cmpL]
  | a :: xs, b :: ys => by
    rw [cmpL]
    by_cases e : a = b
    · rw [if_pos e, cmpL_zero xs ys, e]; simp
    · rw [if_neg e]
      by_cases l : a < b
      · rw [if_pos l]; simp [e]
      · rw [if_neg l]; simp [e]
theorem cmpL_small : ∀ xs ys, -1 ≤ cmpL xs ys ∧ cmpL xs ys ≤ 1
  | [], [] => by simp [cmpL]
  | [], _ :: _ => by simp [cmpL]
  | _ :: _, [] => by simp [cmpL]
  | a :: xs, b :: ys => by
    rw [cmpL]
    split
    · exact cmpL_small xs ys
    · split <;> omega
theorem lessL_irr : ∀ xs, lessL xs xs = false
  | [] => by decide
  | a :: xs => by rw [lessL, if_pos rfl]; exact lessL_irr xs
theorem lessL_trans : ∀ xs ys zs, lessL xs ys = true → lessL ys zs = true → lessL xs zs = true
  | [], [], zs, h, _ => by simp [lessL] at h
  | _ :: _, [], zs, h, _ => by simp [lessL] at h
  | xs, _ :: _, [], _, h => by simp [lessL] at h
  | [], _ :: _, _ :: _, _, _ => by simp [lessL]
  | a :: xs, b :: ys, c :: zs, h, k => by
    rw [lessL] at h k ⊢
    by_cases e : a = b
    · subst e
      rw [if_pos rfl] at h
      by_cases e2 : a = c
      · rw [if_pos e2] at k ⊢
        exact lessL_trans xs ys zs h k
      · rw [if_neg e2] at k ⊢
        exact k
    · rw [if_neg e] at h
      have h' : a < b := by simpa using h
      by_cases e2 : b = c
      · subst e2
        rw [if_neg e]; exact h
      · rw [if_neg e2] at k
        have k' : b < c := by simpa using k
        rw [if_neg (by omega)]
        simp; omega
theorem lessL_tot : ∀ xs ys, lessL xs ys = false → lessL ys xs = false → xs = ys
  | [], [], _, _ => rfl
  | [], _ :: _, h, _ => by simp [lessL] at h
  | _ :: _, [], _, h => by simp [lessL] at h
  | a :: xs, b :: ys, h, k => by
    rw [lessL] at h k
    by_cases e : a = b
    · subst e
      rw [if_pos rfl] at h k
      rw [lessL_tot xs ys h k]
    · rw [if_neg e] at h
      rw [if_neg (fun q => e q.symm)] at k
      simp at h k
      omega
/-- One route lies before another one. -/
def ltR (x y : Rt) : Bool := if x.a = y.a then (if x.b = y.b then lessL x.path y.path else decide (x.b < y.b)) else decide (x.a < y.a)
def cmpR (x y : Rt) : Int := if x.a = y.a then (if x.b = y.b then cmpL x.path y.path else x.b - y.b) else x.a - y.a
theorem cmpR_lt (x y : Rt) : decide (cmpR x y < 0) = ltR x y := by
  unfold cmpR ltR
  by_cases e : x.a = y.a
  · rw [if_pos e, if_pos e]
    by_cases e2 : x.b = y.b
    · rw [if_pos e2, if_pos e2]; exact cmpL_lt _ _
    · rw [if_neg e2, if_neg e2]
      by_cases l : x.b < y.b
      · rw [decide_eq_true l, decide_eq_true (by omega)]
      · rw [decide_eq_false l, decide_eq_false (by omega)]
  · rw [if_neg e, if_neg e]
    by_cases l : x.a < y.a
    · rw [decide_eq_true l, decide_eq_true (by omega)]
    · rw [decide_eq_false l, decide_eq_false (by omega)]
theorem ltR_irr (x : Rt) : ltR x x = false := by unfold ltR; rw [if_pos rfl, if_pos rfl]; exact lessL_irr _
theorem ltR_iff (x y : Rt) : ltR x y = true ↔ x.a < y.a ∨ (x.a = y.a ∧ (x.b < y.b ∨ (x.b = y.b ∧ lessL x.path y.path = true))) := by
  unfold ltR
  by_cases e : x.a = y.a
  · rw [if_pos e]
    by_cases e2 : x.b = y.b
    · rw [if_pos e2]; simp [e, e2]
    · rw [if_neg e2]; simp [e, e2]
  · rw [if_neg e]; simp [e]
theorem ltR_trans (x y z : Rt) (h : ltR x y = true) (k : ltR y z = true) : ltR x z = true := by
  rw [ltR_iff] at *
  rcases h with h | ⟨h, h2 | ⟨h2, h3⟩⟩ <;> rcases k with k | ⟨k, k2 | ⟨k2, k3⟩⟩
  · exact .inl (by omega)
  · exact .inl (by omega)
  · exact .inl (by omega)
  · exact .inl (by omega)
  · exact .inr ⟨by omega, .inl (by omega)⟩
  · exact .inr ⟨by omega, .inl (by omega)⟩
  · exact .inl (by omega)
  · exact .inr ⟨by omega, .inl (by omega)⟩
  · exact .inr ⟨by omega, .inr ⟨by omega, lessL_trans _ _ _ h3 k3⟩⟩
theorem ltR_tot (x y : Rt) (h : ltR x y = false) (k : ltR y x = false) : x = y := by
  unfold ltR at h k
  by_cases e : x.a = y.a
  · rw [if_pos e] at h
    rw [if_pos e.symm] at k
    by_cases e2 : x.b = y.b
    · rw [if_pos e2] at h
      rw [if_pos e2.symm] at k
      have := lessL_tot _ _ h k
      cases x; cases y; simp at *; exact ⟨e, e2, this⟩
    · rw [if_neg e2] at h
      rw [if_neg (fun q => e2 q.symm)] at k
      simp at h k; omega
  · rw [if_neg e] at h
    rw [if_neg (fun q => e q.symm)] at k
    simp at h k; omega
theorem ltR_asym (x y : Rt) (h : ltR x y = true) : ltR y x = false := by
  cases hk : ltR y x with
  | false => rfl
  | true => have := ltR_trans x y x h hk; rw [ltR_irr] at this; cases this
theorem ltR_ntrans (x y z : Rt) (h : ltR x y = false) (k : ltR y z = false) : ltR x z = false := by
  cases hk : ltR x z with
  | false => rfl
  | true =>
    cases hy : ltR y x with
    | true => have := ltR_trans y x z hy hk; rw [k] at this; cases this
    | false => obtain rfl := ltR_tot x y h hy; rw [hk] at k; cases k
/-- Two sorted lists of the same routes are one list. -/
theorem sorted_one : ∀ (L M : List Rt), L.Perm M → L.Pairwise (fun x y => ltR y x = false) → M.Pairwise (fun x y => ltR y x = false) → L = M
  | [], M, h, _, _ => (List.nil_perm.1 h).symm
  | x :: L, [], h, _, _ => by have := h.length_eq; simp at this
  | x :: L, y :: M, h, hl, hm => by
    have e : x = y := by
      have h1 : x ∈ y :: M := h.mem_iff.1 (List.mem_cons_self ..)
      have h2 : y ∈ x :: L := h.mem_iff.2 (List.mem_cons_self ..)
      rcases List.mem_cons.1 h1 with e | h1
      · exact e
      · rcases List.mem_cons.1 h2 with e | h2
        · exact e.symm
        · exact ltR_tot x y ((List.pairwise_cons.1 hm).1 x h1) ((List.pairwise_cons.1 hl).1 y h2)
    subst e
    rw [sorted_one L M (List.Perm.cons_inv h) (List.pairwise_cons.1 hl).2 (List.pairwise_cons.1 hm).2]
end Go.Proofs.Ytllbjckbinolmaa
