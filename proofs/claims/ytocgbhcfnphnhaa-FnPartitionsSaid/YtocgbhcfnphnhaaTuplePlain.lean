/-
  Plain laws on tuples: how many there are, their numbers.
-/
import Derived.Test.YtocgbhcfnphnhaaApp
namespace Go.Proofs.Ytocgbhcfnphnhaa

/-- All numbers are sizes. -/
def sizesOk (ss : List Int) : Bool := ss.all fun s => decide (0 ≤ s ∧ s ≤ 256)
theorem sizesOk_gi {ss : List Int} (h : sizesOk ss = true) {i : Nat} (hi : i < ss.length) : 0 ≤ gi ss i ∧ gi ss i ≤ 256 := by
  have := List.all_eq_true.1 h _ (gi_mem hi)
  simpa using this
/-- The program's count: at most 10^12 + 1. -/
def tcF : List Int → Int → Int
  | [], c => min c 1000000000001
  | s :: r, c => if s = 0 then 0 else tcF r (if c ≤ 1000000000000 then c * s else c)
/-- The reference's count of sizes that are not 0: -1 beyond 10^12. -/
def ttF : List Int → Int → Int
  | [], n => n
  | s :: r, n => if 1000000000000 / s < n then -1 else ttF r (n * s)
def hasZero : List Int → Bool
  | [] => false
  | s :: r => if s = 0 then true else hasZero r
def total (ss : List Int) : Int := if hasZero ss = true then 0 else ttF ss 1
theorem tcF_big (ss : List Int) : ∀ c : Int, 1000000000000 < c → hasZero ss = false → tcF ss c = 1000000000001 := by
  induction ss with
  | nil => intro c hc _; simp only [tcF]; omega
  | cons s r ih =>
    intro c hc hz
    unfold hasZero at hz
    by_cases h : s = 0
    · rw [if_pos h] at hz; cases hz
    · rw [if_neg h] at hz
      rw [tcF, if_neg h, if_neg (by omega)]
      exact ih c hc hz
theorem tcF_zero (ss : List Int) : ∀ c : Int, hasZero ss = true → tcF ss c = 0 := by
  induction ss with
  | nil => intro c h; cases h
  | cons s r ih =>
    intro c h
    unfold hasZero at h
    rw [tcF]
    by_cases e : s = 0
    · rw [if_pos e]
    · rw [if_neg e] at h ⊢
      exact ih _ h
theorem div_lt_iff' {s n : Int} (hs : 1 ≤ s) : (1000000000000 / s < n) ↔ 1000000000000 < n * s := by
  rw [Int.ediv_lt_iff_lt_mul (by omega)]
theorem tcF_ttF (ss : List Int) : ∀ c : Int, 1 ≤ c → c ≤ 1000000000000 → sizesOk ss = true → hasZero ss = false →
    (ttF ss c = -1 ∧ tcF ss c = 1000000000001) ∨ (1 ≤ ttF ss c ∧ ttF ss c ≤ 1000000000000 ∧ tcF ss c = ttF ss c) := by
  induction ss with
  | nil => intro c h1 h2 _ _; right; simp only [ttF, tcF]; omega
  | cons s r ih =>
    intro c h1 h2 hs hz
    have hz' := hz
    unfold hasZero at hz
    have hs2 : sizesOk r = true := by
      simp only [sizesOk, List.all_cons, Bool.and_eq_true] at hs
      exact hs.2
    have hs1 : 0 ≤ s ∧ s ≤ 256 := by
      simp only [sizesOk, List.all_cons, Bool.and_eq_true, decide_eq_true_eq] at hs
      exact hs.1
    by_cases h : s = 0
    · rw [if_pos h] at hz; cases hz
    · rw [if_neg h] at hz
      rw [ttF, tcF, if_neg h, if_pos h2]
      have hd := div_lt_iff' (s := s) (n := c) (by omega)
      by_cases hb : 1000000000000 / s < c
      · rw [if_pos hb]
        left
        exact ⟨rfl, tcF_big r _ (hd.1 hb) hz⟩
      · rw [if_neg hb]
        have : ¬ 1000000000000 < c * s := fun e => hb (hd.2 e)
        have h1' : 1 * 1 ≤ c * s := Int.mul_le_mul h1 (by omega) (by omega) (by omega)
        exact ih (c * s) (by omega) (by omega) hs2 hz
/-- The two counts. -/
theorem total_tc {ss : List Int} (h : sizesOk ss = true) : total ss = if 1000000000000 < tcF ss 1 then -1 else tcF ss 1 := by
  unfold total
  by_cases hz : hasZero ss = true
  · rw [if_pos hz, tcF_zero ss 1 hz]; rfl
  · rw [if_neg hz]
    rcases tcF_ttF ss 1 (by omega) (by omega) h (by simpa using hz) with ⟨h1, h2⟩ | ⟨h1, h2, h3⟩
    · rw [h1, h2]; rfl
    · rw [h3, if_neg (by omega)]
/-- The number of a tuple, on from n. -/
def numF : List Int → List Int → Int → Int
  | s :: r, x :: q, n => numF r q (n * s + x)
  | _, _, n => n
/-- All numbers are below the sizes. -/
def below : List Int → List Int → Bool
  | s :: r, x :: q => if 0 ≤ x ∧ x < s then below r q else false
  | _, _ => true
theorem mul_nonneg' {a b : Int} (h1 : 0 ≤ a) (h2 : 0 ≤ b) : 0 ≤ a * b := Int.mul_nonneg h1 h2
theorem num_step {n c x s : Int} (h0 : 0 ≤ n) (h1 : n < c) (h2 : 0 ≤ x) (h3 : x < s) : 0 ≤ n * s ∧ n * s ≤ c * s ∧ n * s + x < c * s := by
  have a := Int.mul_nonneg h0 (show 0 ≤ s by omega)
  have b : (n + 1) * s ≤ c * s := Int.mul_le_mul_of_nonneg_right (by omega) (by omega)
  rw [Int.add_mul, Int.one_mul] at b
  omega
/-- What is known of a count that is not too large. -/
theorem ttF_step {s : Int} {r : List Int} {c : Int} (hs : 1 ≤ s) (hc : 1 ≤ c) (h : 0 ≤ ttF (s :: r) c) : ttF (s :: r) c = ttF r (c * s) ∧ 1 ≤ c * s ∧ c * s ≤ 1000000000000 := by
  rw [ttF] at h ⊢
  have hd := div_lt_iff' (s := s) (n := c) hs
  by_cases hb : 1000000000000 / s < c
  · rw [if_pos hb] at h; omega
  · rw [if_neg hb]
    have : ¬ 1000000000000 < c * s := fun e => hb (hd.2 e)
    have h1' : 1 * 1 ≤ c * s := Int.mul_le_mul hc hs (by omega) (by omega)
    exact ⟨rfl, by omega, by omega⟩
theorem below_pos {ss xs : List Int} (hl : xs.length = ss.length) (h : below ss xs = true) : ∀ i, i < xs.length → 0 ≤ gi xs i ∧ gi xs i < gi ss i := by
  induction ss generalizing xs with
  | nil => intro i hi; simp at hl; subst hl; cases hi
  | cons s r ih =>
    cases xs with
    | nil => cases hl
    | cons x q =>
      intro i hi
      unfold below at h
      by_cases hb : 0 ≤ x ∧ x < s
      · rw [if_pos hb] at h
        cases i with
        | zero => exact hb
        | succ i =>
          have := ih (by simpa using hl) h i (by simpa using hi)
          unfold gi at *
          simpa using this
      · rw [if_neg hb] at h; cases h
theorem below_noZero {ss xs : List Int} (hl : xs.length = ss.length) (h : below ss xs = true) : hasZero ss = false := by
  induction ss generalizing xs with
  | nil => rfl
  | cons s r ih =>
    cases xs with
    | nil => cases hl
    | cons x q =>
      unfold below at h
      by_cases hb : 0 ≤ x ∧ x < s
      · rw [if_pos hb] at h
        unfold hasZero
        rw [if_neg (by omega)]
        exact ih (by simpa using hl) h
      · rw [if_neg hb] at h; cases h
/-- What TupleNumber returns. -/
def tupleNumberR (ss xs : List Int) : Int × Int :=
  if sizesOk ss = true then
    if xs.length = ss.length then
      if below ss xs = true then
        if 1000000000000 < tcF ss 1 then (0, 3) else (numF ss xs 0, 0)
      else (0, 1)
    else (0, 1)
  else (0, 2)
/-- The number that is left when t places from the end have been taken. -/
def leftN (ss : List Int) (n : Int) : Nat → Int
  | 0 => n
  | t + 1 => leftN ss n t / gi ss (ss.length - 1 - t)
def tupleL (ss : List Int) (n : Int) : List Int := tab (fun i => leftN ss n (ss.length - 1 - i) % gi ss i) ss.length
/-- What TupleAt returns. -/
def tupleAtR (ss : List Int) (n : Int) : List Int × Int :=
  if sizesOk ss = true then
    if 1000000000000 < tcF ss 1 then ([], 3) else if 0 ≤ n ∧ n < tcF ss 1 then (tupleL ss n, 0) else ([], 4)
  else ([], 2)
theorem leftN_bd (ss : List Int) (n : Int) (h : 0 ≤ n) (hs : ∀ i, i < ss.length → 1 ≤ gi ss i) : ∀ t, t ≤ ss.length → 0 ≤ leftN ss n t ∧ leftN ss n t ≤ n := by
  intro t
  induction t with
  | zero => intro _; exact ⟨h, Int.le_refl _⟩
  | succ t ih =>
    intro ht
    have := ih (by omega)
    have h1 := hs (ss.length - 1 - t) (by omega)
    unfold leftN
    refine ⟨Int.ediv_nonneg this.1 (by omega), Int.le_trans (Int.ediv_le_self _ this.1) this.2⟩
theorem noZero_gi {ss : List Int} (hs : sizesOk ss = true) (h : hasZero ss = false) : ∀ i, i < ss.length → 1 ≤ gi ss i := by
  induction ss with
  | nil => intro i hi; cases hi
  | cons s r ih =>
    intro i hi
    unfold hasZero at h
    by_cases e : s = 0
    · rw [if_pos e] at h; cases h
    · rw [if_neg e] at h
      simp only [sizesOk, List.all_cons, Bool.and_eq_true, decide_eq_true_eq] at hs
      cases i with
      | zero => unfold gi; simp; omega
      | succ i =>
        have := ih hs.2 h i (by simpa using hi)
        unfold gi at *
        simpa using this
end Go.Proofs.Ytocgbhcfnphnhaa
