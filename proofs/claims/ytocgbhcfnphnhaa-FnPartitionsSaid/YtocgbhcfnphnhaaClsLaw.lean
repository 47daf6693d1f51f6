/-
  Plain laws: when two elements have one class; joins by pairs.
-/
import Derived.Test.YtocgbhcfnphnhaaJoinPlain
namespace Go.Proofs.Ytocgbhcfnphnhaa

/-- The labels seen at the end. -/
def finS : List Int → List Int → List Int
  | [], s => s
  | y :: r, s => finS r (if ix s y < 0 then s ++ [y] else s)
theorem finS_ext (xs : List Int) : ∀ s, ∃ t, finS xs s = s ++ t ∧ t.length ≤ xs.length := by
  induction xs with
  | nil => intro s; exact ⟨[], by simp [finS], by simp⟩
  | cons y r ih =>
    intro s
    unfold finS
    split
    · obtain ⟨t, h1, h2⟩ := ih (s ++ [y])
      exact ⟨y :: t, by rw [h1]; simp, by simp; omega⟩
    · obtain ⟨t, h1, h2⟩ := ih s
      exact ⟨t, h1, by simp; omega⟩
theorem ix_keep {s t : List Int} {x : Int} (h : ¬ ix s x < 0) : ix (s ++ t) x = ix s x := by
  rw [ix_append, if_neg h]
theorem ix_new {s : List Int} {x : Int} (h : ix s x < 0) : ix (s ++ [x]) x = s.length := by
  rw [ix_append, if_pos h]
  simp [ixF]
theorem clsG_gi (xs : List Int) : ∀ s i, i < xs.length → gi (clsG xs s) i = ix (finS xs s) (gi xs i) ∧ ¬ ix (finS xs s) (gi xs i) < 0 := by
  induction xs with
  | nil => intro s i hi; cases hi
  | cons y r ih =>
    intro s i hi
    unfold clsG finS
    by_cases h : ix s y < 0
    · rw [if_pos h, if_pos h]
      cases i with
      | zero =>
        rw [gi_cons_zero, gi_cons_zero]
        obtain ⟨t, h1, -⟩ := finS_ext r (s ++ [y])
        have e := ix_new h
        have hn : ¬ ix (s ++ [y]) y < 0 := by rw [e]; omega
        rw [h1, ix_keep hn, e]
        exact ⟨rfl, by omega⟩
      | succ i =>
        rw [gi_cons_succ, gi_cons_succ]
        exact ih _ i (by simpa using hi)
    · rw [if_neg h, if_neg h]
      cases i with
      | zero =>
        rw [gi_cons_zero, gi_cons_zero]
        obtain ⟨t, h1, -⟩ := finS_ext r s
        rw [h1, ix_keep h]
        exact ⟨rfl, h⟩
      | succ i =>
        rw [gi_cons_succ, gi_cons_succ]
        exact ih _ i (by simpa using hi)
theorem gi_ixF (x : Int) (xs : List Int) : ∀ k : Int, 0 ≤ k → ¬ ixF x xs k < 0 → gi xs (ixF x xs k - k).toNat = x := by
  induction xs with
  | nil => intro k _ h; simp [ixF] at h
  | cons y r ih =>
    intro k hk h
    rw [ixF_cons] at h ⊢
    by_cases e : y = x
    · rw [if_pos e, Int.sub_self]; exact e
    · rw [if_neg e] at h ⊢
      have h1 := ih (k + 1) (by omega) h
      rcases ixF_ge x r (k + 1) (by omega) with h2 | h2
      · omega
      · rw [show (ixF x r (k + 1) - k).toNat = (ixF x r (k + 1) - (k + 1)).toNat + 1 by omega, gi_cons_succ]
        exact h1
theorem gi_ix {x : Int} {xs : List Int} (h : ¬ ix xs x < 0) : gi xs (ix xs x).toNat = x := by
  have := gi_ixF x xs 0 (by omega) h
  rwa [Int.sub_zero] at this
theorem cls_iff {xs : List Int} {i j : Nat} (hi : i < xs.length) (hj : j < xs.length) : gi (cls xs) i = gi (cls xs) j ↔ gi xs i = gi xs j := by
  obtain ⟨e1, n1⟩ := clsG_gi xs [] i hi
  obtain ⟨e2, n2⟩ := clsG_gi xs [] j hj
  unfold cls
  rw [e1, e2]
  constructor
  · intro h
    rw [← gi_ix n1, ← gi_ix n2, h]
  · intro h; rw [h]
theorem cls_bdL {xs : List Int} {i : Nat} (hi : i < xs.length) : 0 ≤ gi (cls xs) i ∧ gi (cls xs) i < xs.length := by
  obtain ⟨e1, n1⟩ := clsG_gi xs [] i hi
  obtain ⟨t, h1, h2⟩ := finS_ext xs []
  have hb := ix_bd (finS xs []) (gi xs i)
  have hl : (finS xs []).length = t.length := by rw [h1]; simp
  unfold cls
  rw [e1]
  omega
theorem cls_cls (xs : List Int) : cls (cls xs) = cls xs :=
  cls_same ⟨cls_length xs, fun i j hi hj => by rw [cls_length] at hi hj; exact cls_iff hi hj⟩
theorem cls_part {xs : List Int} (h : xs.length ≤ 256) : isPart (cls xs) = true := by
  unfold isPart
  rw [cls_cls, cls_length]
  simp [h]
theorem part_cls {p : List Int} (h : isPart p = true) : p.length ≤ 256 ∧ cls p = p := by
  unfold isPart at h
  simp only [Bool.and_eq_true, decide_eq_true_eq, beq_iff_eq] at h
  exact ⟨h.1, h.2.symm⟩
theorem part_bd {p : List Int} (h : isPart p = true) {i : Nat} (hi : i < p.length) : 0 ≤ gi p i ∧ gi p i < p.length := by
  have := cls_bdL hi
  rwa [(part_cls h).2] at this
theorem joinL_len (ps : List (List Int)) : ∀ ls, (joinL ps ls).length = ls.length := by
  induction ps with
  | nil => intro ls; rfl
  | cons p r ih => intro ls; rw [joinL, ih, relabel_length]
theorem joinL_keep (ps : List (List Int)) : ∀ ls i j, i < ls.length → j < ls.length → gi ls i = gi ls j → gi (joinL ps ls) i = gi (joinL ps ls) j := by
  induction ps with
  | nil => intro ls i j _ _ h; exact h
  | cons p r ih =>
    intro ls i j hi hj h
    rw [joinL]
    refine ih _ i j (by rw [relabel_length]; exact hi) (by rw [relabel_length]; exact hj) ?_
    rw [gi_relabel hi, gi_relabel hj, h]
theorem gr_cons_zero (x : List Int) (xs : List (List Int)) : gr (x :: xs) 0 = x := rfl
theorem gr_cons_succ (x : List Int) (xs : List (List Int)) (i : Nat) : gr (x :: xs) (i + 1) = gr xs i := by
  unfold gr; simp
theorem joinL_pair (ps : List (List Int)) : ∀ ls k, k < ps.length → (gi (gr ps k) 0).toNat < ls.length → (gi (gr ps k) 1).toNat < ls.length → gi (joinL ps ls) (gi (gr ps k) 0).toNat = gi (joinL ps ls) (gi (gr ps k) 1).toNat := by
  induction ps with
  | nil => intro ls k hk; cases hk
  | cons p r ih =>
    intro ls k hk h0 h1
    rw [joinL]
    cases k with
    | zero =>
      rw [gr_cons_zero] at h0 h1 ⊢
      refine joinL_keep r _ _ _ (by rw [relabel_length]; exact h0) (by rw [relabel_length]; exact h1) ?_
      rw [gi_relabel h0, gi_relabel h1, if_pos rfl]
      split <;> rfl
    | succ k =>
      rw [gr_cons_succ] at h0 h1 ⊢
      exact ih _ k (by simpa using hk) (by rw [relabel_length]; exact h0) (by rw [relabel_length]; exact h1)
/-- Joined elements are equivalent, if the pairs are. -/
theorem joinL_finer (E : Nat → Nat → Prop) (hs : ∀ i j, E i j → E j i) (ht : ∀ i j k, E i j → E j k → E i k) (ps : List (List Int)) : ∀ ls, (∀ k, k < ps.length → (gi (gr ps k) 0).toNat < ls.length ∧ (gi (gr ps k) 1).toNat < ls.length ∧ E (gi (gr ps k) 0).toNat (gi (gr ps k) 1).toNat) →
    (∀ i j, i < ls.length → j < ls.length → gi ls i = gi ls j → E i j) → ∀ i j, i < ls.length → j < ls.length → gi (joinL ps ls) i = gi (joinL ps ls) j → E i j := by
  induction ps with
  | nil => intro ls _ h; exact h
  | cons p r ih =>
    intro ls hp h i j hi hj
    rw [joinL]
    obtain ⟨p0, p1, pe⟩ := hp 0 (by simp)
    rw [gr_cons_zero] at p0 p1 pe
    refine ih _ (fun k hk => ?_) (fun a b ha hb => ?_) i j (by rw [relabel_length]; exact hi) (by rw [relabel_length]; exact hj)
    · have := hp (k + 1) (by simpa using hk)
      rw [gr_cons_succ] at this
      rw [relabel_length]; exact this
    · rw [relabel_length] at ha hb
      rw [gi_relabel ha, gi_relabel hb]
      by_cases ea : gi ls a = gi ls (gi p 1).toNat <;> by_cases eb : gi ls b = gi ls (gi p 1).toNat
      · intro _; exact h a b ha hb (ea.trans eb.symm)
      · rw [if_pos ea, if_neg eb]
        intro e
        exact ht _ _ _ (h a _ ha p1 ea) (ht _ _ _ (hs _ _ pe) (h _ b p0 hb e))
      · rw [if_neg ea, if_pos eb]
        intro e
        exact ht _ _ _ (h a _ ha p0 e) (ht _ _ _ pe (hs _ _ (h b _ hb p1 eb)))
      · rw [if_neg ea, if_neg eb]
        exact h a b ha hb
end Go.Proofs.Ytocgbhcfnphnhaa
