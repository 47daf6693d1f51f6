/-
  PathCategory: what the queue of routes holds. Plain.
-/
import Derived.Test.YtllbjckbinolmaaTab
namespace Go.Proofs.Ytllbjckbinolmaa
open Go.RowKit

/-- A route: where it begins, where it ends, its arrows. -/
structure Rt where
  a : Int
  b : Int
  path : List Int
instance : Inhabited Rt := ⟨⟨0, 0, []⟩⟩
def rt (Q : List Rt) (i : Nat) : Rt := Q.getD i ⟨0, 0, []⟩
/-- The routes longer by one arrow, of the arrows below m. -/
def chl (fr to : List Int) (r : Rt) : Nat → List Rt
  | 0 => []
  | m + 1 => if gi fr m = r.b then chl fr to r m ++ [⟨r.a, gi to m, r.path ++ [(m : Int)]⟩] else chl fr to r m
def ids : Nat → List Rt
  | 0 => []
  | n + 1 => ids n ++ [⟨(n : Int), (n : Int), []⟩]
/-- The queue, worked off from place i on, stopped where it holds more than 40. -/
def bfs (fr to : List Int) : Nat → List Rt → Nat → List Rt
  | 0, Q, _ => Q
  | f + 1, Q, i => if i < Q.length ∧ Q.length ≤ 40 then bfs fr to f (Q ++ chl fr to (rt Q i) fr.length) (i + 1) else Q
theorem ids_len : ∀ n, (ids n).length = n
  | 0 => rfl
  | n + 1 => by rw [ids, List.length_append, ids_len n]; rfl
theorem bfs_ge (fr to : List Int) : ∀ f Q i, Q.length ≤ (bfs fr to f Q i).length
  | 0, Q, i => Nat.le_refl _
  | f + 1, Q, i => by
    rw [bfs]
    split
    · refine Nat.le_trans ?_ (bfs_ge fr to f _ _)
      rw [List.length_append]
      exact Nat.le_add_right _ _
    · exact Nat.le_refl _
theorem bfs_stop {fr to : List Int} {Q : List Rt} {i : Nat} (h : ¬ (i < Q.length ∧ Q.length ≤ 40)) : ∀ f, bfs fr to f Q i = Q
  | 0 => rfl
  | f + 1 => by rw [bfs, if_neg h]
theorem pigeon : ∀ (n : Nat) (f : Nat → Nat), (∀ i, i ≤ n → f i < n) → ∃ i j, i < j ∧ j ≤ n ∧ f i = f j
  | 0, f, h => absurd (h 0 (Nat.le_refl _)) (Nat.not_lt_zero _)
  | n + 1, f, h => by
    by_cases hx : ∃ i, i ≤ n ∧ f i = f (n + 1)
    · obtain ⟨i, hi, e⟩ := hx
      exact ⟨i, n + 1, by omega, Nat.le_refl _, e⟩
    · have hne : ∀ i, i ≤ n → f i ≠ f (n + 1) := fun i hi e => hx ⟨i, hi, e⟩
      obtain ⟨i, j, hij, hj, e⟩ := pigeon n (fun i => if f i = n then f (n + 1) else f i) (fun i hi => by
        have h1 := h i (by omega)
        have h2 := h (n + 1) (Nat.le_refl _)
        have h3 := hne i hi
        show (if f i = n then f (n + 1) else f i) < n
        split <;> omega)
      refine ⟨i, j, hij, by omega, ?_⟩
      have h1 := hne i (by omega)
      have h2 := hne j hj
      have e' : (if f i = n then f (n + 1) else f i) = (if f j = n then f (n + 1) else f j) := e
      split at e' <;> split at e' <;> omega
/-- A walk of l steps. -/
def WkF (R : Nat → Nat → Prop) (l u v : Nat) : Prop := ∃ p : Nat → Nat, p 0 = u ∧ p l = v ∧ ∀ i, i < l → R (p i) (p (i + 1))
/-- Some node has a walk to itself. -/
def Cyc (R : Nat → Nat → Prop) : Prop := ∃ u l, 0 < l ∧ WkF R l u u
theorem WkF.one {R : Nat → Nat → Prop} {u v : Nat} (h : R u v) : WkF R 1 u v :=
  ⟨fun i => if i = 0 then u else v, rfl, rfl, fun i hi => by
    obtain rfl : i = 0 := by omega
    exact h⟩
theorem WkF.snoc {R : Nat → Nat → Prop} {l u v x : Nat} (h : WkF R l u v) (hv : R v x) : WkF R (l + 1) u x := by
  obtain ⟨p, h0, h1, h2⟩ := h
  refine ⟨fun i => if i ≤ l then p i else x, (if_pos (Nat.zero_le l)).trans h0, if_neg (by omega), fun i hi => ?_⟩
  show R (if i ≤ l then p i else x) (if i + 1 ≤ l then p (i + 1) else x)
  rw [if_pos (by omega)]
  by_cases e : i < l
  · rw [if_pos (by omega)]
    exact h2 i e
  · obtain rfl : i = l := by omega
    rw [if_neg (by omega), h1]
    exact hv
theorem WkF.short {R : Nat → Nat → Prop} {n l u v : Nat} (hR : ∀ u v, R u v → u < n ∧ v < n) (hc : ¬ Cyc R) (h : WkF R l u v) (hl : 0 < l) : l < n := by
  obtain ⟨p, h0, h1, h2⟩ := h
  refine Nat.lt_of_not_le (fun hle => hc ?_)
  have hb : ∀ i, i ≤ n → p i < n := fun i hi => by
    by_cases e : i < l
    · exact (hR _ _ (h2 i e)).1
    · have := (hR _ _ (h2 (i - 1) (by omega))).2
      rwa [show i - 1 + 1 = i by omega] at this
  obtain ⟨i, j, hij, hj, e⟩ := pigeon n p hb
  refine ⟨p i, j - i, by omega, fun k => p (i + k), rfl, ?_, fun k hk => h2 (i + k) (by omega)⟩
  show p (i + (j - i)) = p i
  rw [show i + (j - i) = j by omega, e]
/-- Warshall: a walk whose inner nodes are below k. -/
def Wl (R : Nat → Nat → Prop) : Nat → Nat → Nat → Prop
  | 0, i, j => R i j
  | k + 1, i, j => Wl R k i j ∨ (Wl R k i k ∧ Wl R k k j)
theorem wl_of_walk {R : Nat → Nat → Prop} : ∀ (k l : Nat) (p : Nat → Nat), 0 < l → (∀ i, i < l → R (p i) (p (i + 1))) → (∀ i, 0 < i → i < l → p i < k) → Wl R k (p 0) (p l)
  | 0, l, p, hl, h, hi => by
    have : l = 1 := Nat.le_antisymm (Nat.le_of_not_lt fun q => absurd (hi 1 (by omega) q) (Nat.not_lt_zero _)) hl
    subst this
    exact h 0 (by omega)
  | k + 1, l, p, hl, h, hi => by
    induction l using Nat.strongRecOn generalizing p with
    | ind l ih =>
      by_cases hx : ∃ i, 0 < i ∧ i < l ∧ p i = k
      · obtain ⟨i, i0, i1, e⟩ := hx
        have a := ih i i1 p i0 (fun q hq => h q (by omega)) (fun q h0 hq => hi q h0 (by omega))
        have b := ih (l - i) (by omega) (fun q => p (i + q)) (by omega) (fun q hq => h (i + q) (by omega)) (fun q h0 hq => hi (i + q) (by omega) (by omega))
        rw [e] at a
        have b' : Wl R (k + 1) k (p l) := by
          have : Wl R (k + 1) (p (i + 0)) (p (i + (l - i))) := b
          rwa [show i + 0 = i from rfl, e, show i + (l - i) = l by omega] at this
        refine .inr ⟨?_, ?_⟩
        · rcases a with a | a
          · exact a
          · exact a.1
        · rcases b' with b | b
          · exact b
          · exact b.2
      · exact .inl (wl_of_walk k l p hl h (fun i h0 h1 => by
          have := hi i h0 h1
          have h3 : p i ≠ k := fun e => hx ⟨i, h0, h1, e⟩
          omega))
theorem WkF.append {R : Nat → Nat → Prop} {l m u v x : Nat} (h : WkF R l u v) (k : WkF R m v x) : WkF R (l + m) u x := by
  obtain ⟨p, h0, h1, h2⟩ := h
  obtain ⟨q, k0, k1, k2⟩ := k
  refine ⟨fun i => if i ≤ l then p i else q (i - l), (if_pos (Nat.zero_le l)).trans h0, ?_, fun i hi => ?_⟩
  · show (if l + m ≤ l then p (l + m) else q (l + m - l)) = x
    by_cases e : m = 0
    · subst e
      rw [if_pos (by omega), Nat.add_zero, h1, ← k0, k1]
    · rw [if_neg (by omega), Nat.add_sub_cancel_left, k1]
  · show R (if i ≤ l then p i else q (i - l)) (if i + 1 ≤ l then p (i + 1) else q (i + 1 - l))
    by_cases e : i < l
    · rw [if_pos (by omega), if_pos (by omega)]
      exact h2 i e
    · rw [if_neg (show ¬ i + 1 ≤ l by omega), show i + 1 - l = i - l + 1 by omega]
      have := k2 (i - l) (by omega)
      by_cases e2 : i ≤ l
      · have e3 : i = l := by omega
        subst e3
        rw [if_pos e2, h1, ← k0]
        rw [Nat.sub_self] at this ⊢
        exact this
      · rw [if_neg e2]
        exact this
theorem wl_sound {R : Nat → Nat → Prop} : ∀ (k i j : Nat), Wl R k i j → ∃ l, 0 < l ∧ WkF R l i j
  | 0, i, j, h => ⟨1, by decide, WkF.one h⟩
  | k + 1, i, j, h => by
    rcases h with h | ⟨h1, h2⟩
    · exact wl_sound k i j h
    · obtain ⟨l, l0, a⟩ := wl_sound k i k h1
      obtain ⟨m, m0, b⟩ := wl_sound k k j h2
      exact ⟨l + m, by omega, a.append b⟩
/-- The diagonal tells whether there is a cycle. -/
theorem wl_cyc {R : Nat → Nat → Prop} {n : Nat} (hR : ∀ u v, R u v → u < n ∧ v < n) : Cyc R ↔ ∃ i, i < n ∧ Wl R n i i := by
  constructor
  · rintro ⟨u, l, l0, p, h0, h1, h2⟩
    have hu : u < n := by rw [← h0]; exact (hR _ _ (h2 0 l0)).1
    have := wl_of_walk n l p l0 h2 (fun i _ hi => (hR _ _ (h2 i hi)).1)
    rw [h0, h1] at this
    exact ⟨u, hu, this⟩
  · rintro ⟨i, -, h⟩
    obtain ⟨l, l0, a⟩ := wl_sound n i i h
    exact ⟨i, l, l0, a⟩
/-- One arrow of a pass. -/
def rlx (f : Nat → Int) (u v : Nat) : Nat → Int := fun x => if x = v then max (f v) (f u + 1) else f x
/-- A value tells a walk of as many steps. -/
def LOk (R : Nat → Nat → Prop) (f : Nat → Int) : Prop := ∀ v, 0 ≤ f v ∧ (0 < f v → ∃ u, WkF R (f v).toNat u v)
theorem rlx_ok {R : Nat → Nat → Prop} {f : Nat → Int} {u v : Nat} (h : LOk R f) (hr : R u v) : LOk R (rlx f u v) := by
  intro x
  unfold rlx
  by_cases e : x = v
  · subst e
    rw [if_pos rfl]
    have h1 := h x
    have h2 := h u
    by_cases q : f u + 1 ≤ f x
    · rw [Int.max_eq_left q]
      exact h1
    · rw [Int.max_eq_right (by omega)]
      refine ⟨by omega, fun _ => ?_⟩
      by_cases z : 0 < f u
      · obtain ⟨y, w⟩ := h2.2 z
        have := w.snoc hr
        rw [show (f u).toNat + 1 = (f u + 1).toNat by omega] at this
        exact ⟨y, this⟩
      · have : f u = 0 := by omega
        rw [this]
        exact ⟨u, WkF.one hr⟩
  · rw [if_neg e]
    exact h x
theorem rlx_ge (f : Nat → Int) (u v x : Nat) : f x ≤ rlx f u v x := by
  unfold rlx
  split
  · rename_i e
    rw [e]
    exact Int.le_max_left _ _
  · exact Int.le_refl _
/-- A pass over the first m arrows. -/
def ps (fr to : List Int) (f : Nat → Int) : Nat → Nat → Int
  | 0 => f
  | m + 1 => rlx (ps fr to f m) (gi fr m).toNat (gi to m).toNat
theorem ps_ge (fr to : List Int) (f : Nat → Int) (x : Nat) : ∀ m, f x ≤ ps fr to f m x
  | 0 => Int.le_refl _
  | m + 1 => Int.le_trans (ps_ge fr to f x m) (rlx_ge _ _ _ _)
theorem ps_arrow (fr to : List Int) (f : Nat → Int) {j : Nat} : ∀ m, j < m → f (gi fr j).toNat + 1 ≤ ps fr to f m (gi to j).toNat
  | 0, h => absurd h (Nat.not_lt_zero _)
  | m + 1, h => by
    by_cases e : j = m
    · subst e
      have h1 := ps_ge fr to f (gi fr j).toNat j
      rw [ps]
      unfold rlx
      rw [if_pos rfl]
      exact Int.le_trans (by omega) (Int.le_max_right _ _)
    · exact Int.le_trans (ps_arrow fr to f m (by omega)) (rlx_ge _ _ _ _)
/-- Some arrow below m goes from u to v. -/
def Ed (fr to : List Int) (m u v : Nat) : Prop := ∃ j, j < m ∧ (gi fr j).toNat = u ∧ (gi to j).toNat = v
def lps (fr to : List Int) (m : Nat) : Nat → Nat → Int
  | 0 => fun _ => 0
  | k + 1 => ps fr to (lps fr to m k) m
theorem ps_ok {fr to : List Int} {f : Nat → Int} {m : Nat} {R : Nat → Nat → Prop} (h : LOk R f) : ∀ k, k ≤ m → (∀ u v, Ed fr to m u v → R u v) → LOk R (ps fr to f k)
  | 0, _, _ => h
  | k + 1, hk, hr => rlx_ok (ps_ok h k (by omega) hr) (hr _ _ ⟨k, by omega, rfl, rfl⟩)
theorem lps_ok {fr to : List Int} {m : Nat} : ∀ k, LOk (Ed fr to m) (lps fr to m k)
  | 0 => fun v => ⟨Int.le_refl _, fun h => absurd h (by show ¬ (0 : Int) < 0; omega)⟩
  | k + 1 => ps_ok (lps_ok k) m (Nat.le_refl _) (fun _ _ h => h)
theorem lps_cyc {fr to : List Int} {m l : Nat} {p : Nat → Nat} (l0 : 0 < l) (he : p l = p 0) (h : ∀ i, i < l → Ed fr to m (p i) (p (i + 1))) : ∀ (k i : Nat), i ≤ l → (k : Int) ≤ lps fr to m k (p i)
  | 0, i, _ => Int.le_refl _
  | k + 1, i, hi => by
    have step : ∀ i, i < l → ((k + 1 : Nat) : Int) ≤ lps fr to m (k + 1) (p (i + 1)) := fun i hi => by
      obtain ⟨j, hj, e1, e2⟩ := h i hi
      have a := lps_cyc l0 he h k i (by omega)
      have b := ps_arrow fr to (lps fr to m k) m hj
      rw [e1, e2] at b
      show ((k + 1 : Nat) : Int) ≤ ps fr to (lps fr to m k) m (p (i + 1))
      omega
    by_cases e : i = 0
    · subst e
      rw [← he]
      have := step (l - 1) (by omega)
      rwa [show l - 1 + 1 = l by omega] at this
    · have := step (i - 1) (by omega)
      rwa [show i - 1 + 1 = i by omega] at this
/-- The longest walks tell whether there is a cycle. -/
theorem long_cyc {fr to : List Int} {m n : Nat} (hR : ∀ u v, Ed fr to m u v → u < n ∧ v < n) : Cyc (Ed fr to m) ↔ ∃ v, v < n ∧ (n : Int) - 1 < lps fr to m (n + 1) v := by
  constructor
  · rintro ⟨u, l, l0, p, h0, h1, h2⟩
    have hu : u < n := by rw [← h0]; exact (hR _ _ (h2 0 l0)).1
    have := lps_cyc l0 (h1.trans h0.symm) h2 (n + 1) 0 (Nat.zero_le _)
    rw [h0] at this
    exact ⟨u, hu, by omega⟩
  · rintro ⟨v, hv, hl⟩
    refine Classical.byContradiction (fun hc => ?_)
    obtain ⟨h1, h2⟩ := lps_ok (fr := fr) (to := to) (m := m) (n + 1) v
    obtain ⟨u, w⟩ := h2 (by omega)
    have := w.short hR hc (by omega)
    omega
end Go.Proofs.Ytllbjckbinolmaa
