/-
  Plain laws on lists of numbers, no program in sight: places in a list, classes of labels, partitions.
-/
import Derived.Test.YtllbjckbinolmaaBase
namespace Go.Proofs.Ytllbjckbinolmaa

/-- The place of x in a list that begins at place k, or -1. -/
def ixF (x : Int) : List Int → Int → Int
  | [], _ => -1
  | y :: r, k => if y = x then k else ixF x r (k + 1)
def ix (xs : List Int) (x : Int) : Int := ixF x xs 0
theorem ixF_cons (x y : Int) (r : List Int) (k : Int) : ixF x (y :: r) k = if y = x then k else ixF x r (k + 1) := rfl
theorem ixF_nil (x k : Int) : ixF x [] k = -1 := rfl
theorem ixF_ge (x : Int) (xs : List Int) : ∀ k : Int, 0 ≤ k → ixF x xs k = -1 ∨ (k ≤ ixF x xs k ∧ ixF x xs k < k + xs.length) := by
  induction xs with
  | nil => intro k _; exact .inl rfl
  | cons y r ih =>
    intro k hk
    unfold ixF
    split
    · exact .inr ⟨by omega, by simp; omega⟩
    · rcases ih (k + 1) (by omega) with h | h
      · exact .inl h
      · exact .inr ⟨by omega, by simp; omega⟩
theorem ix_bd (xs : List Int) (x : Int) : ix xs x = -1 ∨ (0 ≤ ix xs x ∧ ix xs x < xs.length) := by
  have := ixF_ge x xs 0 (by omega)
  unfold ix; omega
theorem ixF_mem (x : Int) (xs : List Int) : ∀ k : Int, 0 ≤ k → (x ∈ xs ↔ ¬ ixF x xs k < 0) := by
  induction xs with
  | nil => intro k _; simp [ixF]
  | cons y r ih =>
    intro k hk
    unfold ixF
    split
    · rename_i h; subst h; simp; omega
    · rename_i h
      rw [← ih (k + 1) (by omega)]
      simp [Ne.symm h]
theorem ix_mem (xs : List Int) (x : Int) : x ∈ xs ↔ ¬ ix xs x < 0 := ixF_mem x xs 0 (by omega)
theorem ixF_shift (x : Int) (xs : List Int) : ∀ k d : Int, 0 ≤ k → 0 ≤ d → ixF x xs (k + d) = if ixF x xs k < 0 then -1 else ixF x xs k + d := by
  induction xs with
  | nil => intro k d _ _; simp [ixF]
  | cons y r ih =>
    intro k d hk hd
    unfold ixF
    by_cases h : y = x
    · rw [if_pos h, if_pos h, if_neg (by omega)]
    · rw [if_neg h, if_neg h, show k + d + 1 = (k + 1) + d from by omega]
      exact ih (k + 1) d (by omega) hd
theorem ixF_append (x : Int) (ys : List Int) (xs : List Int) : ∀ k : Int, 0 ≤ k → ixF x (xs ++ ys) k = if ixF x xs k < 0 then ixF x ys (k + xs.length) else ixF x xs k := by
  induction xs with
  | nil => intro k _; simp [ixF]
  | cons y r ih =>
    intro k hk
    rw [List.cons_append, ixF_cons, ixF_cons]
    by_cases h : y = x
    · rw [if_pos h, if_pos h, if_neg (by omega)]
    · rw [if_neg h, if_neg h, ih (k + 1) (by omega)]
      rw [show k + 1 + (r.length : Int) = k + ((y :: r).length : Nat) from by simp; omega]
theorem ix_append (xs ys : List Int) (x : Int) : ix (xs ++ ys) x = if ix xs x < 0 then ixF x ys xs.length else ix xs x := by
  unfold ix
  rw [ixF_append x ys xs 0 (by omega), Int.zero_add]

/-- The classes of the labels xs when the labels 'seen' have been met. -/
def clsG : List Int → List Int → List Int
  | [], _ => []
  | y :: r, seen => if ix seen y < 0 then (seen.length : Int) :: clsG r (seen ++ [y]) else ix seen y :: clsG r seen
def cls (xs : List Int) : List Int := clsG xs []
theorem clsG_length (xs : List Int) : ∀ seen, (clsG xs seen).length = xs.length := by
  induction xs with
  | nil => intro seen; rfl
  | cons y r ih => intro seen; unfold clsG; split <;> simp [ih]
theorem cls_length (xs : List Int) : (cls xs).length = xs.length := clsG_length xs []

/-- The labels k, .. are numbered in the order of their least elements. -/
def nrm : List Int → Int → Bool
  | [], _ => true
  | k :: r, next => if 0 ≤ k ∧ k ≤ next then nrm r (if k = next then next + 1 else next) else false

/-- 0, 1, .., m - 1 -/
def upto (m : Nat) : List Int := (List.range m).map fun (i : Nat) => (i : Int)
theorem upto_succ (m : Nat) : upto (m + 1) = upto m ++ [(m : Int)] := by simp [upto, List.range_succ]
theorem upto_length (m : Nat) : (upto m).length = m := by simp [upto]
theorem ix_upto (m : Nat) (y : Int) : ix (upto m) y = if 0 ≤ y ∧ y < m then y else -1 := by
  induction m with
  | zero => rw [if_neg (by omega)]; rfl
  | succ m ih =>
    rw [upto_succ, ix_append, ih, upto_length]
    rw [ixF_cons, ixF_nil]
    repeat' split
    all_goals omega
theorem cls_nrm (xs : List Int) : ∀ m : Nat, (xs == clsG xs (upto m)) = nrm xs m := by
  induction xs with
  | nil => intro m; rfl
  | cons y r ih =>
    intro m
    unfold clsG nrm
    rw [ix_upto, upto_length]
    by_cases h : 0 ≤ y ∧ y < m
    · rw [if_pos h, if_neg (by omega), if_pos (by omega), if_neg (by omega), ← ih m]
      simp
    · rw [if_neg h, if_pos (by omega)]
      by_cases h2 : y = m
      · subst h2
        rw [if_pos (by omega), if_pos rfl, ← upto_succ, show ((m : Int) + 1) = ((m + 1 : Nat) : Int) from by omega, ← ih (m + 1)]
        simp
      · rw [if_neg (by omega)]
        simp [h2]
/-- A list is a partition: the reference's way and the program's. -/
def isPart (p : List Int) : Bool := decide (p.length ≤ 256) && (p == cls p)
theorem isPart_nrm (p : List Int) : isPart p = (decide (p.length ≤ 256) && nrm p 0) := by
  unfold isPart cls
  have := cls_nrm p 0
  rw [show upto 0 = [] from rfl] at this
  rw [this]; rfl
end Go.Proofs.Ytllbjckbinolmaa
