/-
  Plain laws: classes of labels depend on which labels are equal alone; joining classes by labels and by roots.
-/
import Derived.Test.YtocgbhcfnphnhaaSetsPlain
namespace Go.Proofs.Ytocgbhcfnphnhaa

/-- Two lists of labels tell the same elements apart. -/
def SameK (xs ys : List Int) : Prop := xs.length = ys.length ∧ ∀ i j, i < xs.length → j < xs.length → (gi xs i = gi xs j ↔ gi ys i = gi ys j)

theorem gi_cons_zero (x : Int) (xs : List Int) : gi (x :: xs) 0 = x := rfl
theorem gi_cons_succ (x : Int) (xs : List Int) (i : Nat) : gi (x :: xs) (i + 1) = gi xs i := by
  unfold gi; simp
theorem gi_append_left {xs ys : List Int} {i : Nat} (h : i < xs.length) : gi (xs ++ ys) i = gi xs i := by
  rw [gi_lt (by simp; omega), gi_lt h, List.getElem_append_left h]
theorem gi_append_len (xs : List Int) (y : Int) : gi (xs ++ [y]) xs.length = y := by
  rw [gi_lt (by simp)]; simp
theorem list_ext {xs ys : List Int} (hl : xs.length = ys.length) (h : ∀ i, i < xs.length → gi xs i = gi ys i) : xs = ys := by
  apply List.ext_getElem hl
  intro i h1 h2
  rw [← gi_lt h1, ← gi_lt h2]
  exact h i h1

theorem ixF_same (s t : List Int) (x y : Int) (hl : s.length = t.length) : (∀ j, j < s.length → (gi s j = x ↔ gi t j = y)) → ∀ k, ixF x s k = ixF y t k := by
  induction s generalizing t with
  | nil =>
    intro _ k
    cases t with
    | nil => rfl
    | cons a r => cases hl
  | cons a r ih =>
    intro h k
    cases t with
    | nil => cases hl
    | cons b q =>
      rw [ixF_cons, ixF_cons]
      have h0 := h 0 (by simp)
      rw [gi_cons_zero, gi_cons_zero] at h0
      have ihh := ih q (by simpa using hl) (fun j hj => by
        have := h (j + 1) (by simpa using hj)
        rwa [gi_cons_succ, gi_cons_succ] at this) (k + 1)
      by_cases hx : a = x
      · rw [if_pos hx, if_pos (h0.1 hx)]
      · rw [if_neg hx, if_neg (fun e => hx (h0.2 e)), ihh]
theorem clsG_same (xs : List Int) : ∀ (ys s t : List Int), xs.length = ys.length → s.length = t.length →
    (∀ i j, i < xs.length → j < xs.length → (gi xs i = gi xs j ↔ gi ys i = gi ys j)) → (∀ i j, i < xs.length → j < s.length → (gi s j = gi xs i ↔ gi t j = gi ys i)) →
    clsG xs s = clsG ys t := by
  induction xs with
  | nil =>
    intro ys s t hl _ _ _
    cases ys with
    | nil => rfl
    | cons a r => cases hl
  | cons x r ih =>
    intro ys s t hl hst hk hc
    cases ys with
    | nil => cases hl
    | cons y q =>
      have hl' : r.length = q.length := by simpa using hl
      have e : ix s x = ix t y := ixF_same s t x y hst (fun j hj => hc 0 j (by simp) hj) 0
      have hk' : ∀ i j, i < r.length → j < r.length → (gi r i = gi r j ↔ gi q i = gi q j) := fun i j hi hj => by
        have := hk (i + 1) (j + 1) (by simpa using hi) (by simpa using hj)
        simpa only [gi_cons_succ] using this
      unfold clsG
      rw [e, hst]
      by_cases hn : ix t y < 0
      · rw [if_pos hn, if_pos hn, ih q (s ++ [x]) (t ++ [y]) hl' (by simp [hst]) hk']
        intro i j hi hj
        by_cases hjs : j < s.length
        · rw [gi_append_left hjs, gi_append_left (by omega)]
          have := hc (i + 1) j (by simpa using hi) hjs
          simpa only [gi_cons_succ] using this
        · have hjl : j = s.length := by simp at hj; omega
          subst hjl
          rw [gi_append_len]
          rw [hst, gi_append_len]
          have := hk 0 (i + 1) (by simp) (by simpa using hi)
          simpa only [gi_cons_succ, gi_cons_zero] using this
      · rw [if_neg hn, if_neg hn, ih q s t hl' hst hk']
        intro i j hi hj
        have := hc (i + 1) j (by simpa using hi) hj
        simpa only [gi_cons_succ] using this
theorem cls_same {xs ys : List Int} (h : SameK xs ys) : cls xs = cls ys :=
  clsG_same xs ys [] [] h.1 rfl h.2 (fun _ _ _ hj => by cases hj)

/-- Joining the classes with the labels a and b: the label a is taken. -/
def relabel (a b : Int) (xs : List Int) : List Int := xs.map fun x => if x = b then a else x
theorem relabel_same (a : Int) (xs : List Int) : relabel a a xs = xs := by
  unfold relabel
  have : (fun x : Int => if x = a then a else x) = id := by
    funext x
    by_cases h : x = a
    · simp [h]
    · simp [h]
  rw [this, List.map_id]
theorem relabel_length (a b : Int) (xs : List Int) : (relabel a b xs).length = xs.length := by simp [relabel]
theorem gi_relabel {a b : Int} {xs : List Int} {i : Nat} (h : i < xs.length) : gi (relabel a b xs) i = if gi xs i = b then a else gi xs i := by
  unfold relabel
  rw [gi_lt (by simpa using h), gi_lt h]
  simp
/-- The labels behind the pairs: the reference's way. -/
def joinL : List (List Int) → List Int → List Int
  | [], ls => ls
  | p :: r, ls => joinL r (relabel (gi ls (gi p 0).toNat) (gi ls (gi p 1).toNat) ls)
def l01J (n : Nat) (pairs : List (List Int)) : List Int := cls (joinL pairs (upto n))

/-- js is a list of parents, and R x the root of x. -/
structure Rep (n : Nat) (js : List Int) (R : Nat → Nat) : Prop where
  len : js.length = n
  le : ∀ x, x < n → 0 ≤ gi js x ∧ gi js x ≤ x
  rle : ∀ x, x < n → R x ≤ x
  step : ∀ x, x < n → R (gi js x).toNat = R x
  fix : ∀ x, x < n → gi js (R x) = R x
  root : ∀ x, x < n → gi js x = x → R x = x
theorem gi_upto {n i : Nat} (h : i < n) : gi (upto n) i = i := by
  rw [gi_lt (by rw [upto_length]; exact h)]; simp [upto]
theorem Rep.start (n : Nat) : Rep n (upto n) id where
  len := upto_length n
  le := fun x hx => by rw [gi_upto hx]; omega
  rle := fun x _ => Nat.le_refl x
  step := fun x hx => by rw [gi_upto hx]; simp
  fix := fun x hx => by rw [show id x = x from rfl, gi_upto hx]
  root := fun x _ _ => rfl
theorem gi_set {js : List Int} {k i : Nat} {v : Int} (hk : k < js.length) (hi : i < js.length) : gi (js.set k v) i = if i = k then v else gi js i := by
  rw [gi_lt (by simpa using hi), gi_lt hi, List.getElem_set]
  by_cases h : k = i
  · rw [if_pos h, if_pos h.symm]
  · rw [if_neg h, if_neg (fun e => h e.symm)]
/-- Path halving. -/
theorem Rep.halve {n : Nat} {js : List Int} {R : Nat → Nat} (h : Rep n js R) {x : Nat} (hx : x < n) (hne : gi js x ≠ x) :
    Rep n (js.set x (gi js (gi js x).toNat)) R ∧ 0 ≤ gi js (gi js x).toNat ∧ gi js (gi js x).toNat < x ∧ R (gi js (gi js x).toNat).toNat = R x := by
  have l0 := h.le x hx
  have hp : (gi js x).toNat < n := by omega
  have l1 := h.le _ hp
  have e1 := h.step x hx
  have e2 := h.step _ hp
  refine ⟨⟨by simp [h.len], fun y hy => ?_, h.rle, fun y hy => ?_, fun y hy => ?_, fun y hy he => ?_⟩, l1.1, by omega, by rw [e2, e1]⟩
  · rw [gi_set (by rw [h.len]; exact hx) (by rw [h.len]; exact hy)]
    by_cases e : y = x
    · subst e; rw [if_pos rfl]; omega
    · rw [if_neg e]; exact h.le y hy
  · rw [gi_set (by rw [h.len]; exact hx) (by rw [h.len]; exact hy)]
    by_cases e : y = x
    · subst e; rw [if_pos rfl, e2, e1]
    · rw [if_neg e]; exact h.step y hy
  · have hr := h.rle y hy
    rw [gi_set (by rw [h.len]; exact hx) (by rw [h.len]; omega)]
    have hf := h.fix y hy
    by_cases e : R y = x
    · rw [e] at hf; exact absurd hf hne
    · rw [if_neg e]; exact hf
  · rw [gi_set (by rw [h.len]; exact hx) (by rw [h.len]; exact hy)] at he
    by_cases e : y = x
    · subst e; rw [if_pos rfl] at he; omega
    · rw [if_neg e] at he; exact h.root y hy he
/-- The roots behind a join of the classes of the roots a and b. -/
def joinR (R : Nat → Nat) (a b : Nat) : Nat → Nat := fun y => if R y = max a b then min a b else R y
theorem Rep.join {n : Nat} {js : List Int} {R : Nat → Nat} (h : Rep n js R) {x y : Nat} (hx : x < n) (hy : y < n) :
    Rep n (js.set (max (R x) (R y)) ((min (R x) (R y) : Nat) : Int)) (joinR R (R x) (R y)) := by
  have rx := h.rle x hx
  have ry := h.rle y hy
  have fx := h.fix x hx
  have fy := h.fix y hy
  have RR : ∀ z, z < n → R (R z) = R z := fun z hz => h.root _ (by have := h.rle z hz; omega) (h.fix z hz)
  have hm : max (R x) (R y) < n := by omega
  have RM : R (max (R x) (R y)) = max (R x) (R y) := by
    rcases Nat.le_total (R x) (R y) with e | e
    · rw [Nat.max_eq_right e]; exact RR y hy
    · rw [Nat.max_eq_left e]; exact RR x hx
  have Rm : R (min (R x) (R y)) = min (R x) (R y) := by
    rcases Nat.le_total (R x) (R y) with e | e
    · rw [Nat.min_eq_left e]; exact RR x hx
    · rw [Nat.min_eq_right e]; exact RR y hy
  have FM : ∀ z, z < n → ¬ R z = max (R x) (R y) → ¬ R z = max (R x) (R y) := fun _ _ h => h
  refine ⟨by simp [h.len], fun z hz => ?_, fun z hz => ?_, fun z hz => ?_, fun z hz => ?_, fun z hz he => ?_⟩
  · rw [gi_set (by rw [h.len]; exact hm) (by rw [h.len]; exact hz)]
    by_cases e : z = max (R x) (R y)
    · rw [if_pos e]; omega
    · rw [if_neg e]; exact h.le z hz
  · have := h.rle z hz
    unfold joinR
    split <;> omega
  · rw [gi_set (by rw [h.len]; exact hm) (by rw [h.len]; exact hz)]
    by_cases e : z = max (R x) (R y)
    · rw [if_pos e]
      unfold joinR
      rw [e, RM, if_pos rfl, Int.toNat_natCast, Rm]
      split <;> omega
    · rw [if_neg e]
      unfold joinR
      rw [h.step z hz]
  · have hr := h.rle z hz
    unfold joinR
    by_cases e : R z = max (R x) (R y)
    · rw [if_pos e, gi_set (by rw [h.len]; exact hm) (by rw [h.len]; omega)]
      by_cases e2 : min (R x) (R y) = max (R x) (R y)
      · rw [if_pos e2]
      · rw [if_neg e2]
        rcases Nat.le_total (R x) (R y) with e3 | e3
        · rw [Nat.min_eq_left e3]; exact fx
        · rw [Nat.min_eq_right e3]; exact fy
    · rw [if_neg e, gi_set (by rw [h.len]; exact hm) (by rw [h.len]; omega), if_neg e]
      exact h.fix z hz
  · rw [gi_set (by rw [h.len]; exact hm) (by rw [h.len]; exact hz)] at he
    unfold joinR
    by_cases e : z = max (R x) (R y)
    · rw [if_pos e] at he
      rw [e, RM, if_pos rfl]; omega
    · rw [if_neg e] at he
      have := h.root z hz he
      rw [this, if_neg e]

/-- Roots and labels tell the same elements apart. -/
def SameR (n : Nat) (R : Nat → Nat) (ls : List Int) : Prop := ls.length = n ∧ ∀ i j, i < n → j < n → (R i = R j ↔ gi ls i = gi ls j)
theorem SameR.start (n : Nat) : SameR n id (upto n) := ⟨upto_length n, fun i j hi hj => by rw [gi_upto hi, gi_upto hj]; simp only [id]; omega⟩
theorem SameR.join {n : Nat} {R : Nat → Nat} {ls : List Int} (h : SameR n R ls) {x y : Nat} (hx : x < n) (hy : y < n) :
    SameR n (joinR R (R x) (R y)) (relabel (gi ls x) (gi ls y) ls) := by
  refine ⟨by rw [relabel_length, h.1], fun i j hi hj => ?_⟩
  rw [gi_relabel (by rw [h.1]; exact hi), gi_relabel (by rw [h.1]; exact hj)]
  have hix := h.2 i x hi hx
  have hiy := h.2 i y hi hy
  have hjx := h.2 j x hj hx
  have hjy := h.2 j y hj hy
  have hij := h.2 i j hi hj
  have hxy := h.2 x y hx hy
  unfold joinR
  generalize gi ls i = li at *
  generalize gi ls j = lj at *
  generalize gi ls x = lx at *
  generalize gi ls y = ly at *
  generalize R i = ri at *
  generalize R j = rj at *
  generalize R x = rx at *
  generalize R y = ry at *
  rcases Nat.le_total rx ry with e | e
  · rw [Nat.max_eq_right e, Nat.min_eq_left e]
    repeat' split
    all_goals omega
  · rw [Nat.max_eq_left e, Nat.min_eq_right e]
    repeat' split
    all_goals omega
end Go.Proofs.Ytocgbhcfnphnhaa
