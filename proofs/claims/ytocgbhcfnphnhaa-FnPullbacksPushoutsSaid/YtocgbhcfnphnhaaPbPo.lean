/-
  Plain laws for FnPullbacksPushouts: fibres are counted; a pushout is a coequalizer.
-/
import Derived.Test.YtocgbhcfnphnhaaEqz
namespace Go.Proofs.Ytocgbhcfnphnhaa
open Go.RowKit

/-- F 0 + .. + F (n - 1) -/
def sumTo (F : Nat → Nat) : Nat → Nat
  | 0 => 0
  | n + 1 => sumTo F n + F n
theorem sumTo_congr {F G : Nat → Nat} {n : Nat} (h : ∀ y, y < n → F y = G y) : sumTo F n = sumTo G n := by
  induction n with
  | zero => rfl
  | succ n ih => simp only [sumTo]; rw [ih (fun y hy => h y (by omega)), h n (by omega)]
theorem sumTo_add (F G : Nat → Nat) (n : Nat) : sumTo (fun y => F y + G y) n = sumTo F n + sumTo G n := by
  induction n with
  | zero => rfl
  | succ n ih => simp only [sumTo]; omega
theorem sumTo_one (B : Nat → Nat) (x : Nat) (n : Nat) : sumTo (fun y => if y = x then B y else 0) n = if x < n then B x else 0 := by
  induction n with
  | zero => rfl
  | succ n ih =>
    simp only [sumTo]
    rw [ih]
    by_cases h : x < n
    · rw [if_pos h, if_neg (by omega), if_pos (by omega)]; rfl
    · by_cases e : n = x
      · subst e; rw [if_neg h, if_pos rfl, if_pos (by omega)]; omega
      · rw [if_neg h, if_neg e, if_neg (by omega)]
/-- How many places of xs hold y. -/
def cnt (xs : List Int) (y : Int) : Nat := (sel (fun i => gi xs i == y) xs.length).length
theorem cnt_count (xs : List Int) (y : Int) : cnt xs y = xs.count y := by
  unfold cnt
  simp only [sel, List.length_map]
  obtain ⟨n, hn⟩ : ∃ n, n = xs.length := ⟨_, rfl⟩
  induction n generalizing xs with
  | zero =>
    obtain rfl : xs = [] := List.length_eq_zero_iff.1 hn.symm
    rfl
  | succ n ih0 =>
    obtain ⟨r, x, rfl⟩ : ∃ r x, xs = r ++ [x] := ⟨xs.dropLast, xs.getLast (by intro e; subst e; simp at hn), (List.dropLast_concat_getLast _).symm⟩
    have ih := ih0 r (by simp at hn; omega)
    clear ih0
    rw [List.length_append, List.length_singleton, List.range_succ, List.filter_append, List.length_append, List.count_append]
    congr 1
    · rw [← ih]
      congr 1
      apply List.filter_congr
      intro i hi
      rw [gi_append_left (List.mem_range.1 hi)]
    · rw [List.filter_cons, gi_append_len]
      by_cases e : x = y
      · subst e; simp
      · have e1 : (x == y) = false := by simp [e]
        rw [e1]; simp [List.count_cons, e]
theorem cnt_le (xs : List Int) (y : Int) : cnt xs y ≤ xs.length := by
  rw [cnt_count]; exact List.count_le_length
theorem pbR_len (f g : List Int) (x : Nat) : (pbR f g x g.length).length = cnt g (gi f x) := by
  unfold pbR cnt
  simp only [sel, List.length_map]
  congr 1
  apply List.filter_congr
  intro i _
  rw [Bool.beq_comm]
def cntSum (g : List Int) : List Int → Nat
  | [] => 0
  | x :: r => cnt g x + cntSum g r
theorem cntSum_snoc (g xs : List Int) (x : Int) : cntSum g (xs ++ [x]) = cntSum g xs + cnt g x := by
  induction xs with
  | nil => simp [cntSum]
  | cons y r ih => simp only [List.cons_append, cntSum, ih]; omega
theorem pbA_len (f g : List Int) : ∀ i, i ≤ f.length → (pbA f g i).length = cntSum g (f.take i) := by
  intro i
  induction i with
  | zero => intro _; simp [pbA, cntSum]
  | succ i ih =>
    intro hi
    rw [pbA, List.length_append, ih (by omega), pbR_len, take_gi (by omega), cntSum_snoc]
theorem sum_cnt (n : Nat) (g : List Int) : ∀ f : List Int, (∀ x ∈ f, 0 ≤ x ∧ x < n) → sumTo (fun y => cnt f (y : Int) * cnt g (y : Int)) n = cntSum g f := by
  intro f
  induction f with
  | nil =>
    intro _
    simp only [cntSum]
    have : ∀ m, sumTo (fun y => cnt [] (y : Int) * cnt g (y : Int)) m = 0 := by
      intro m
      induction m with
      | zero => rfl
      | succ m ih => simp only [sumTo, ih]; simp [cnt, sel]
    exact this n
  | cons x r ih =>
    intro h
    have hx := h x (List.mem_cons_self ..)
    obtain ⟨q, rfl⟩ := Int.eq_ofNat_of_zero_le hx.1
    have e : ∀ y, y < n → cnt ((q : Int) :: r) (y : Int) * cnt g (y : Int) = cnt r (y : Int) * cnt g (y : Int) + (if y = q then cnt g (y : Int) else 0) := by
      intro y _
      rw [cnt_count, cnt_count, List.count_cons]
      by_cases e : y = q
      · subst e; simp [cnt_count, Nat.add_mul]
      · have : ((q : Int) == (y : Int)) = false := by simp; omega
        rw [this, if_neg e, cnt_count]; simp
    rw [sumTo_congr e, sumTo_add, ih (fun z hz => h z (List.mem_cons_of_mem _ hz)), sumTo_one (fun y => cnt g (y : Int)), if_pos (by omega), cntSum]
    omega
theorem pull_sum {n : Int} {f g : List Int} {l : List (List Int)} (h : pullR n f g = (l, 0)) : 0 ≤ n ∧ n ≤ 256 ∧ codeOf n f = 0 ∧ codeOf n g = 0 ∧ l.length = sumTo (fun y => cnt f (y : Int) * cnt g (y : Int)) n.toNat ∧ f.length ≤ 256 ∧ g.length ≤ 256 := by
  unfold pullR at h
  by_cases h1 : codesOf n [f, g] = 0
  · rw [if_pos h1] at h
    have h1' := h1
    rw [codesOf_two] at h1'
    by_cases h2 : codeOf n f = 0
    · rw [if_pos h2] at h1'
      obtain ⟨n0, n1, hl, hf⟩ := codeOf_zero h2
      obtain ⟨-, -, hlg, -⟩ := codeOf_zero h1'
      by_cases h3 : (pbA f g f.length).length ≤ 256
      · rw [if_pos h3] at h
        injection h with h _
        refine ⟨n0, n1, h2, h1', ?_, hl, hlg⟩
        rw [← h, pbA_len f g _ (Nat.le_refl _), List.take_length, sum_cnt n.toNat g f (all_of_gi fun i hi => by have := allIn_gi2 hf hi; omega)]
      · rw [if_neg h3] at h; exact absurd (show _ = (0 : Int) from congrArg Prod.snd h) (by intro e; cases e)
    · rw [if_neg h2] at h1'; exact absurd h1' h2
  · rw [if_neg h1] at h; exact absurd (congrArg Prod.snd h) h1
theorem fibre_ok {n : Int} {f : List Int} (h : codeOf n f = 0) {y : Nat} (hy : (y : Int) < n) : ∃ l, fibreR n f y = (l, 0) ∧ l.length = cnt f (y : Int) := by
  refine ⟨sel (fun i => gi f i == (y : Int)) f.length, ?_, rfl⟩
  unfold fibreR
  rw [if_pos h, if_pos ⟨by omega, hy⟩]
theorem coL_congr {n : Nat} {f : List Int} {G G' : Nat → Int} (h : ∀ i, i < f.length → G i = G' i) : coL n f G = coL n f G' := by
  unfold coL prs
  congr 2
  apply List.map_congr_left
  intro i hi
  rw [h i (List.mem_range.1 hi)]
theorem push_coeq {m k : Int} {a b due : List Int} (h : pushR m a k b = (due, 0)) : 0 ≤ m ∧ 0 ≤ k ∧ m + k ≤ 256 ∧ (∀ i, i < b.length → 0 ≤ gi b i ∧ gi b i < k) ∧ b.length ≤ 256 ∧ coR (m + k) a (tab (fun i => m + gi b i) b.length) = (due, 0) := by
  unfold pushR at h
  by_cases h1 : inR m 0 256 = true ∧ inR k 0 256 = true
  · rw [if_pos h1] at h
    by_cases h2 : isMapB m a = true ∧ isMapB k b = true ∧ a.length = b.length
    · rw [if_pos h2] at h
      by_cases h3 : m + k ≤ 256
      · rw [if_pos h3] at h
        injection h with h _
        obtain ⟨ha, hb, hl⟩ := h2
        simp only [isMapB, Bool.and_eq_true, decide_eq_true_eq] at ha hb
        have m0 : 0 ≤ m ∧ m ≤ 256 := by simpa [inR] using h1.1
        have k0 : 0 ≤ k ∧ k ≤ 256 := by simpa [inR] using h1.2
        have hbg := fun i (hi : i < b.length) => allIn_gi2 hb.2.2 hi
        have hag := fun i (hi : i < a.length) => allIn_gi2 ha.2.2 hi
        refine ⟨m0.1, k0.1, h3, hbg, hb.2.1, ?_⟩
        have hn : inR (m + k) 0 256 = true := by simp [inR]; omega
        have c1 : isMapB (m + k) a = true := by
          have : allIn (m + k) a = true := List.all_eq_true.2 (all_of_gi (P := fun x => decide (0 ≤ x ∧ x < m + k) = true) fun i hi => by have := hag i hi; simp; omega)
          simp [isMapB, hn, ha.2.1, this]
        have c2 : isMapB (m + k) (tab (fun i => m + gi b i) b.length) = true := by
          have : allIn (m + k) (tab (fun i => m + gi b i) b.length) = true := List.all_eq_true.2 (all_of_gi (P := fun x => decide (0 ≤ x ∧ x < m + k) = true) fun i hi => by
            rw [tab_length] at hi
            rw [gi_tab hi]
            have := hbg i hi; simp; omega)
          simp [isMapB, hn, tab_length, hb.2.1, this]
        have ht : twoCode (m + k) a (tab (fun i => m + gi b i) b.length) = 0 := by
          have hc : codesOf (m + k) [a, tab (fun i => m + gi b i) b.length] = 0 := by
            unfold codesOf
            rw [if_pos hn]
            simp [c1, c2]
          unfold twoCode
          rw [hc, if_neg (by rw [tab_length]; omega)]
        unfold coR
        rw [if_pos ht, ← h, coL_congr (G := gi (tab (fun i => m + gi b i) b.length)) (G' := fun i => m + gi b i) (fun i hi => gi_tab (by omega))]
      · rw [if_neg h3] at h; exact absurd (show _ = (0 : Int) from congrArg Prod.snd h) (by intro e; cases e)
    · rw [if_neg h2] at h; exact absurd (show _ = (0 : Int) from congrArg Prod.snd h) (by intro e; cases e)
  · rw [if_neg h1] at h; exact absurd (show _ = (0 : Int) from congrArg Prod.snd h) (by intro e; cases e)
end Go.Proofs.Ytocgbhcfnphnhaa
