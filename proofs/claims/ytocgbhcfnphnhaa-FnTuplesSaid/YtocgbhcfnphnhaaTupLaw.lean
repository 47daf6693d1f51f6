/-
  Plain laws on tuples: the tuple with a number has it; the next number's tuple is greater.
-/
import Derived.Test.YtocgbhcfnphnhaaTuplePlain
import Derived.Test.YtocgbhcfnphnhaaJoinPlain
namespace Go.Proofs.Ytocgbhcfnphnhaa

def prd : List Int → Int
  | [] => 1
  | s :: r => s * prd r
theorem prd_snoc (ss : List Int) (s : Int) : prd (ss ++ [s]) = prd ss * s := by
  induction ss with
  | nil => simp [prd]
  | cons a r ih => simp only [List.cons_append, prd, ih, Int.mul_assoc]
theorem ttF_prd (ss : List Int) : ∀ c : Int, 1 ≤ c → (∀ i, i < ss.length → 1 ≤ gi ss i) → 0 ≤ ttF ss c → ttF ss c = c * prd ss := by
  induction ss with
  | nil => intro c _ _ _; simp [ttF, prd]
  | cons s r ih =>
    intro c hc hs h
    have h1 : 1 ≤ s := hs 0 (by simp)
    obtain ⟨e, k1, k2⟩ := ttF_step h1 hc h
    rw [e] at h ⊢
    rw [ih (c * s) k1 (fun i hi => by have := hs (i + 1) (by simpa using hi); unfold gi at *; simpa using this) h, prd, Int.mul_assoc]
theorem gi_snoc_lt {ss : List Int} {s : Int} {i : Nat} (h : i < ss.length) : gi (ss ++ [s]) i = gi ss i := gi_append_left h
theorem leftN_snoc (ss : List Int) (s n : Int) : ∀ t, t ≤ ss.length → leftN (ss ++ [s]) n (t + 1) = leftN ss (n / s) t := by
  intro t
  induction t with
  | zero =>
    intro _
    simp only [leftN]
    rw [show (ss ++ [s]).length - 1 - 0 = ss.length by simp, gi_append_len]
  | succ t ih =>
    intro ht
    rw [leftN, ih (by omega), leftN]
    rw [show (ss ++ [s]).length - 1 - (t + 1) = ss.length - 1 - t by simp; omega, gi_snoc_lt (by omega)]
theorem tupleL_length (ss : List Int) (n : Int) : (tupleL ss n).length = ss.length := tab_length _ _
theorem tupleL_snoc (ss : List Int) (s n : Int) : tupleL (ss ++ [s]) n = tupleL ss (n / s) ++ [n % s] := by
  unfold tupleL
  rw [List.length_append, List.length_singleton, tab_succ]
  congr 1
  · apply list_ext
    · rw [tab_length, tab_length]
    · intro i hi
      rw [tab_length] at hi
      rw [gi_tab hi, gi_tab hi, gi_snoc_lt hi]
      rw [show ss.length + 1 - 1 - i = ss.length - 1 - i + 1 by omega, leftN_snoc ss s n _ (by omega)]
  · rw [show ss.length + 1 - 1 - ss.length = 0 by omega, gi_append_len]
    rfl
theorem numF_snoc (ss xs : List Int) (s x : Int) : ∀ c, xs.length = ss.length → numF (ss ++ [s]) (xs ++ [x]) c = numF ss xs c * s + x := by
  induction ss generalizing xs with
  | nil =>
    intro c h
    cases xs with
    | nil => simp [numF]
    | cons _ _ => cases h
  | cons a r ih =>
    intro c h
    cases xs with
    | nil => cases h
    | cons y q =>
      simp only [List.cons_append, numF]
      exact ih q _ (by simpa using h)
/-- A list is less than another of its length. -/
def LexL (xs ys : List Int) : Prop := ∃ i, i < xs.length ∧ (∀ j, j < i → gi xs j = gi ys j) ∧ gi xs i < gi ys i
theorem list_rev {P : List Int → Prop} (h0 : P []) (h1 : ∀ xs x, P xs → P (xs ++ [x])) : ∀ xs, P xs := by
  intro xs
  have H : ∀ n, ∀ xs : List Int, xs.length = n → P xs := by
    intro n
    induction n with
    | zero => intro xs hx; rw [List.length_eq_zero_iff.1 hx]; exact h0
    | succ n ih =>
      intro xs hx
      have hne : xs ≠ [] := fun e => by rw [e] at hx; cases hx
      rw [← List.dropLast_concat_getLast hne]
      exact h1 _ _ (ih _ (by simp [hx]))
  exact H _ xs rfl
theorem tup_num (ss : List Int) : (∀ i, i < ss.length → 1 ≤ gi ss i) → ∀ n : Int, 0 ≤ n → n < prd ss → numF ss (tupleL ss n) 0 = n := by
  refine list_rev (P := fun ss => (∀ i, i < ss.length → 1 ≤ gi ss i) → ∀ n : Int, 0 ≤ n → n < prd ss → numF ss (tupleL ss n) 0 = n) ?_ ?_ ss
  · intro _ n h0 h1
    simp only [prd] at h1
    have : n = 0 := by omega
    subst this
    rfl
  · intro ss s ih hs n h0 h1
    have hs1 : 1 ≤ s := by have := hs ss.length (by simp); rwa [gi_append_len] at this
    rw [prd_snoc] at h1
    rw [tupleL_snoc, numF_snoc ss _ s _ 0 (tupleL_length _ _), ih (fun i hi => by have := hs i (by simp; omega); rwa [gi_snoc_lt hi] at this) (n / s) (Int.ediv_nonneg h0 (by omega)) (Int.ediv_lt_of_lt_mul (by omega) h1)]
    have := Int.mul_ediv_add_emod n s
    rw [Int.mul_comm] at this
    exact this
theorem tup_lex (ss : List Int) : (∀ i, i < ss.length → 1 ≤ gi ss i) → ∀ n : Int, 0 ≤ n → n + 1 < prd ss → LexL (tupleL ss n) (tupleL ss (n + 1)) := by
  refine list_rev (P := fun ss => (∀ i, i < ss.length → 1 ≤ gi ss i) → ∀ n : Int, 0 ≤ n → n + 1 < prd ss → LexL (tupleL ss n) (tupleL ss (n + 1))) ?_ ?_ ss
  · intro _ n h0 h1
    simp only [prd] at h1
    omega
  · intro ss s ih hs n h0 h1
    have hs1 : 1 ≤ s := by have := hs ss.length (by simp); rwa [gi_append_len] at this
    rw [prd_snoc] at h1
    rw [tupleL_snoc, tupleL_snoc]
    have e1 := Int.mul_ediv_add_emod n s
    have e2 := Int.mul_ediv_add_emod (n + 1) s
    have b1 := Int.emod_nonneg n (show s ≠ 0 by omega)
    have b2 := Int.emod_lt_of_pos n (show 0 < s by omega)
    have b3 := Int.emod_nonneg (n + 1) (show s ≠ 0 by omega)
    have b4 := Int.emod_lt_of_pos (n + 1) (show 0 < s by omega)
    have hl := tupleL_length ss (n / s)
    have hl2 := tupleL_length ss ((n + 1) / s)
    by_cases hc : n % s + 1 < s
    · have hq : (n + 1) / s = n / s := by
        rw [show n + 1 = n % s + 1 + s * (n / s) by omega, Int.add_mul_ediv_left _ _ (show s ≠ 0 by omega), Int.ediv_eq_zero_of_lt (by omega) hc]
        omega
      have hr : (n + 1) % s = n % s + 1 := by
        rw [hq] at e2; omega
      rw [hq, hr]
      refine ⟨ss.length, by simp [hl], fun j hj => ?_, ?_⟩
      · rw [gi_append_left (by omega), gi_append_left (by omega)]
      · rw [← hl, gi_append_len, gi_append_len]; omega
    · have hrs : n % s = s - 1 := by omega
      have hq : (n + 1) / s = n / s + 1 := by
        have : n + 1 = s * (n / s + 1) := by
          rw [Int.mul_add, Int.mul_one]; omega
        rw [this, Int.mul_ediv_cancel_left _ (show s ≠ 0 by omega)]
      have hlt : n / s + 1 < prd ss := by rw [← hq]; exact Int.ediv_lt_of_lt_mul (by omega) h1
      obtain ⟨i, hi, hj, hlt2⟩ := ih (fun i hi => by have := hs i (by simp; omega); rwa [gi_snoc_lt hi] at this) (n / s) (Int.ediv_nonneg h0 (by omega)) hlt
      rw [hq]
      rw [tupleL_length] at hi
      have hl3 := tupleL_length ss (n / s + 1)
      refine ⟨i, by simp; omega, fun j hj' => ?_, ?_⟩
      · rw [gi_append_left (by omega), gi_append_left (by omega)]; exact hj j hj'
      · rw [gi_append_left (by omega), gi_append_left (by omega)]; exact hlt2
theorem below_of {ss xs : List Int} (hl : xs.length = ss.length) (h : ∀ i, i < xs.length → 0 ≤ gi xs i ∧ gi xs i < gi ss i) : below ss xs = true := by
  induction ss generalizing xs with
  | nil => rfl
  | cons s r ih =>
    cases xs with
    | nil => rfl
    | cons x q =>
      have h0 := h 0 (by simp)
      unfold below
      rw [if_pos (by simpa [gi] using h0)]
      exact ih (by simpa using hl) (fun i hi => by have := h (i + 1) (by simpa using hi); unfold gi at *; simpa using this)
/-- What is known of a number that has a tuple. -/
theorem tupleAt_ok {ss : List Int} {n : Int} {t : List Int} (h : tupleAtR ss n = (t, 0)) : t = tupleL ss n ∧ sizesOk ss = true ∧ ¬ 1000000000000 < tcF ss 1 ∧ 0 ≤ n ∧ n < prd ss ∧ tcF ss 1 = prd ss ∧ prd ss ≤ 1000000000000 ∧ ∀ i, i < ss.length → 1 ≤ gi ss i := by
  unfold tupleAtR at h
  by_cases h1 : sizesOk ss = true
  · rw [if_pos h1] at h
    by_cases h2 : 1000000000000 < tcF ss 1
    · rw [if_pos h2] at h; injection h with _ h; omega
    · rw [if_neg h2] at h
      by_cases h3 : 0 ≤ n ∧ n < tcF ss 1
      · rw [if_pos h3] at h
        injection h with h _
        have hz : hasZero ss = false := by
          cases hz : hasZero ss with
          | false => rfl
          | true => rw [tcF_zero ss 1 hz] at h3; omega
        have hg := noZero_gi h1 hz
        rcases tcF_ttF ss 1 (by omega) (by omega) h1 hz with ⟨k1, k2⟩ | ⟨k1, k2, k3⟩
        · omega
        · have e : tcF ss 1 = prd ss := by
            have hp := ttF_prd ss 1 (by omega) hg (by omega)
            rw [Int.one_mul] at hp
            omega
          exact ⟨h.symm, h1, h2, h3.1, by omega, e, by omega, hg⟩
      · rw [if_neg h3] at h; injection h with _ h; omega
  · rw [if_neg h1] at h; injection h with _ h; omega
theorem tupleNumber_of {ss : List Int} {n : Int} {t : List Int} (h : tupleAtR ss n = (t, 0)) : tupleNumberR ss t = (n, 0) := by
  obtain ⟨rfl, h1, h2, h3, h4, h5, h6, h7⟩ := tupleAt_ok h
  have hl := tupleL_length ss n
  unfold tupleNumberR
  rw [if_pos h1, if_pos hl, if_pos (below_of hl fun i hi => by
    rw [hl] at hi
    have := h7 i hi
    unfold tupleL
    rw [gi_tab hi]
    exact ⟨Int.emod_nonneg _ (by omega), Int.emod_lt_of_pos _ (by omega)⟩), if_neg h2, tup_num ss h7 n h3 h4]
theorem tupleNext_of {ss : List Int} {n : Int} {t : List Int} (h : tupleAtR ss n = (t, 0)) : tupleAtR ss (n + 1) = ([], 4) ∨ ∃ t', tupleAtR ss (n + 1) = (t', 0) ∧ t'.length = t.length ∧ LexL t t' := by
  obtain ⟨rfl, h1, h2, h3, h4, h5, h6, h7⟩ := tupleAt_ok h
  by_cases hc : n + 1 < tcF ss 1
  · right
    refine ⟨tupleL ss (n + 1), ?_, ?_, tup_lex ss h7 n h3 (by omega)⟩
    · unfold tupleAtR; rw [if_pos h1, if_neg h2, if_pos ⟨by omega, hc⟩]
    · rw [tupleL_length, tupleL_length]
  · left
    unfold tupleAtR; rw [if_pos h1, if_neg h2, if_neg (fun e => hc e.2)]
end Go.Proofs.Ytocgbhcfnphnhaa
