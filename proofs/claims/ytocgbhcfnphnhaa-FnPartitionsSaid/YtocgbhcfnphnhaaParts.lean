/-
  Plain laws for FnPartitions: what the meet, the join and the pairs of one partition say of two elements.
-/
import Derived.Test.YtocgbhcfnphnhaaClsLaw
import Derived.Test.YtocgbhcfnphnhaaJPar
import Derived.Test.YtocgbhcfnphnhaaPairs
namespace Go.Proofs.Ytocgbhcfnphnhaa
open Go.RowKit

/-- The pairs of x with each smaller element of its class. -/
def eqRow (p : List Int) (x : Nat) : Nat → List (List Int)
  | 0 => []
  | y + 1 => eqRow p x y ++ (if gi p x = gi p y then [[(x : Int), (y : Int)]] else [])
def eqPrs (p : List Int) : Nat → List (List Int)
  | 0 => []
  | x + 1 => eqPrs p x ++ eqRow p x x
theorem mem_eqRow {p : List Int} {x : Nat} {e : List Int} : ∀ {n : Nat}, e ∈ eqRow p x n ↔ ∃ y, y < n ∧ gi p x = gi p y ∧ e = [(x : Int), (y : Int)] := by
  intro n
  induction n with
  | zero => simp [eqRow]
  | succ n ih =>
    simp only [eqRow, List.mem_append, ih]
    constructor
    · rintro (⟨y, h1, h2, h3⟩ | h)
      · exact ⟨y, by omega, h2, h3⟩
      · by_cases c : gi p x = gi p n
        · rw [if_pos c] at h; exact ⟨n, by omega, c, by simpa using h⟩
        · rw [if_neg c] at h; cases h
    · rintro ⟨y, h1, h2, h3⟩
      by_cases c : y = n
      · subst c; right; rw [if_pos h2, h3]; simp
      · exact .inl ⟨y, by omega, h2, h3⟩
theorem mem_eqPrs {p : List Int} {e : List Int} : ∀ {n : Nat}, e ∈ eqPrs p n ↔ ∃ x y, x < n ∧ y < x ∧ gi p x = gi p y ∧ e = [(x : Int), (y : Int)] := by
  intro n
  induction n with
  | zero => simp [eqPrs]
  | succ n ih =>
    simp only [eqPrs, List.mem_append, ih, mem_eqRow]
    constructor
    · rintro (⟨x, y, h1, h2, h3, h4⟩ | ⟨y, h1, h2, h3⟩)
      · exact ⟨x, y, by omega, h2, h3, h4⟩
      · exact ⟨n, y, by omega, h1, h2, h3⟩
    · rintro ⟨x, y, h1, h2, h3, h4⟩
      by_cases c : x = n
      · subst c; exact .inr ⟨y, h2, h3, h4⟩
      · exact .inl ⟨x, y, by omega, h2, h3, h4⟩
theorem eqRow_len (p : List Int) (x : Nat) : ∀ y, (eqRow p x y).length ≤ y := by
  intro y
  induction y with
  | zero => exact Nat.le_refl _
  | succ y ih =>
    simp only [eqRow, List.length_append]
    split <;> simp <;> omega
theorem eqPrs_len (p : List Int) : ∀ x, x ≤ 301 → (eqPrs p x).length ≤ 301 * x := by
  intro x
  induction x with
  | zero => intro _; exact Nat.le_refl _
  | succ x ih =>
    intro h
    have h1 := ih (by omega)
    have h2 := eqRow_len p x x
    simp only [eqPrs, List.length_append]
    omega
theorem gr_mem {xss : List (List Int)} {i : Nat} (h : i < xss.length) : gr xss i ∈ xss := by
  rw [gr_lt h]; exact List.getElem_mem h
theorem mem_gr {xss : List (List Int)} {e : List Int} (h : e ∈ xss) : ∃ i, i < xss.length ∧ gr xss i = e := by
  obtain ⟨i, hi, he⟩ := List.getElem_of_mem h
  exact ⟨i, hi, by rw [gr_lt hi]; exact he⟩
/-- The pairs of a partition join to the partition. -/
theorem eqPrs_join {p : List Int} (h : isPart p = true) : jpR (p.length : Int) (eqPrs p p.length) = (p, 0) := by
  obtain ⟨hl, hc⟩ := part_cls h
  have hr : inR (p.length : Int) 0 256 = true := by simp [inR]; omega
  have hpr : pairsB (p.length : Int) (eqPrs p p.length) = true := List.all_eq_true.2 fun e he => by
    obtain ⟨x, y, h1, h2, -, rfl⟩ := mem_eqPrs.1 he
    simp [allIn]; omega
  unfold jpR
  rw [if_pos hr, if_pos hpr]
  congr 1
  rw [show ((p.length : Int)).toNat = p.length by omega]
  conv => rhs; rw [← hc]
  refine cls_same ⟨by rw [joinL_len, upto_length], fun i j hi hj => ?_⟩
  rw [joinL_len, upto_length] at hi hj
  constructor
  · intro e
    refine joinL_finer (fun i j => gi p i = gi p j) (fun _ _ h => h.symm) (fun _ _ _ h h' => h.trans h') (eqPrs p p.length) (upto p.length) ?_ ?_ i j (by rw [upto_length]; exact hi) (by rw [upto_length]; exact hj) e
    · intro k hk
      obtain ⟨x, y, h1, h2, h3, he⟩ := mem_eqPrs.1 (gr_mem hk)
      rw [he, upto_length]
      exact ⟨h1, show y < p.length by omega, h3⟩
    · intro i j hi hj e
      rw [upto_length] at hi hj
      rw [gi_upto hi, gi_upto hj] at e
      have : i = j := by omega
      rw [this]
  · intro e
    have key : ∀ a b, a < p.length → b < a → gi p a = gi p b → gi (joinL (eqPrs p p.length) (upto p.length)) a = gi (joinL (eqPrs p p.length) (upto p.length)) b := by
      intro a b ha hb e
      obtain ⟨k, hk, hg⟩ := mem_gr (mem_eqPrs.2 ⟨a, b, ha, hb, e, rfl⟩)
      have := joinL_pair (eqPrs p p.length) (upto p.length) k hk
      rw [hg] at this
      exact this (by rw [upto_length]; exact ha) (by rw [upto_length]; show b < p.length; omega)
    by_cases c : i = j
    · rw [c]
    · by_cases d : j < i
      · exact key i j hi d e
      · exact (key j i hj (by omega) e.symm).symm
/-- Two elements have one class of the meet if they have one class in both. -/
theorem meet_iff {p q : List Int} (h : twoParts p q = true) {x y : Nat} (hx : x < p.length) (hy : y < p.length) : gi (cls (meetL p q)) x = gi (cls (meetL p q)) y ↔ gi p x = gi p y ∧ gi q x = gi q y := by
  simp only [twoParts, Bool.and_eq_true, decide_eq_true_eq] at h
  obtain ⟨h1, h2, h3⟩ := h
  have hl := (part_cls h1).1
  have a1 := part_bd h1 hx
  have a2 := part_bd h1 hy
  have b1 := part_bd h2 (i := x) (by omega)
  have b2 := part_bd h2 (i := y) (by omega)
  rw [cls_iff (by simp [meetL, tab_length]; exact hx) (by simp [meetL, tab_length]; exact hy)]
  unfold meetL
  rw [gi_tab hx, gi_tab hy]
  omega
theorem join_by {ps : List (List Int)} {n : Nat} {p : List Int} (hn : p.length = n) (hm : ∀ x, x < n → [ix p (gi p x), (x : Int)] ∈ ps) {x y : Nat} (hx : x < n) (hy : y < n) (e : gi p x = gi p y) : gi (joinL ps (upto n)) x = gi (joinL ps (upto n)) y := by
  have key : ∀ x, x < n → gi (joinL ps (upto n)) (ix p (gi p x)).toNat = gi (joinL ps (upto n)) x := by
    intro x hx
    obtain ⟨k, hk, hg⟩ := mem_gr (hm x hx)
    have := joinL_pair ps (upto n) k hk
    rw [hg] at this
    have hb := ix_in (p := p) (k := x) (by omega)
    exact this (by rw [upto_length]; show (ix p (gi p x)).toNat < n; omega) (by rw [upto_length]; exact hx)
  rw [← key x hx, ← key y hy, e]
/-- Two elements that have one class in one of the two have one class of the join. -/
theorem join_of {p q : List Int} (h : twoParts p q = true) {x y : Nat} (hx : x < p.length) (hy : y < p.length) (e : gi p x = gi p y ∨ gi q x = gi q y) : gi (cls (joinL (fpr p p.length ++ fpr q q.length) (upto p.length))) x = gi (cls (joinL (fpr p p.length ++ fpr q q.length) (upto p.length))) y := by
  simp only [twoParts, Bool.and_eq_true, decide_eq_true_eq] at h
  obtain ⟨h1, h2, h3⟩ := h
  rw [cls_iff (by rw [joinL_len, upto_length]; exact hx) (by rw [joinL_len, upto_length]; exact hy)]
  rcases e with e | e
  · exact join_by rfl (fun x hx => List.mem_append_left _ (List.mem_map.2 ⟨x, List.mem_range.2 hx, rfl⟩)) hx hy e
  · exact join_by h3.symm (fun x hx => List.mem_append_right _ (List.mem_map.2 ⟨x, List.mem_range.2 (by omega), rfl⟩)) hx hy e
/-- What is known where two partitions of one set are given. -/
theorem parts_facts {p q : List Int} (h : twoParts p q = true) : ∃ m j, meetR p q = (m, 0) ∧ jparR p q = (j, 0) ∧ p.length = q.length ∧ p.length ≤ 256 ∧ m.length = p.length ∧ j.length = p.length ∧ isPart m = true ∧ isPart j = true ∧ jpR (p.length : Int) (eqPrs p p.length) = (p, 0) ∧
    (∀ x y, x < p.length → y < p.length → (gi m x = gi m y ↔ gi p x = gi p y ∧ gi q x = gi q y)) ∧ (∀ x y, x < p.length → y < p.length → gi p x = gi p y ∨ gi q x = gi q y → gi j x = gi j y) := by
  have h' := h
  simp only [twoParts, Bool.and_eq_true, decide_eq_true_eq] at h'
  obtain ⟨h1, h2, h3⟩ := h'
  have hl := (part_cls h1).1
  refine ⟨_, _, by unfold meetR; rw [if_pos h], by unfold jparR; rw [if_pos h], h3, hl, by rw [cls_length]; simp [meetL, tab_length], by rw [cls_length, joinL_len, upto_length], cls_part (by simp [meetL, tab_length]; exact hl), cls_part (by rw [joinL_len, upto_length]; exact hl), eqPrs_join h1, fun x y hx hy => meet_iff h hx hy, fun x y hx hy e => join_of h hx hy e⟩
/-- Where they are not, both answer by one code. -/
theorem parts_bad {p q : List Int} (h : ¬ twoParts p q = true) : meetR p q = ([], 1) ∧ jparR p q = ([], 1) := by
  unfold meetR jparR
  exact ⟨if_neg h, if_neg h⟩
end Go.Proofs.Ytocgbhcfnphnhaa
