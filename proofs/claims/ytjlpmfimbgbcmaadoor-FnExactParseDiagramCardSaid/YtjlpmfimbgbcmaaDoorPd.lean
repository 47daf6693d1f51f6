/-
  The text of a diagram: what the readers compute. Plain.
-/
import Derived.Test.YtjlpmfimbgbcmaaDoorApp
namespace Go.Proofs.YtjlpmfimbgbcmaaDoor
open Go.RowKit

/-- Byte k of a text, as a number. -/
def bA (T : ByteArray) (k : Nat) : Nat := if h : k < T.size then T[k].toNat else 0
def isD (T : ByteArray) (k : Nat) : Bool := decide (k < T.size) && (decide (48 ≤ bA T k) && decide (bA T k ≤ 57))
/-- The end of the digits from a place on. -/
def dEnd (T : ByteArray) : Nat → Nat → Nat
  | 0, k => k
  | n + 1, k => if isD T k = true then dEnd T n (k + 1) else k
def dE (T : ByteArray) (k : Nat) : Nat := dEnd T T.size k
/-- The value of the digits between two places. -/
def dV (T : ByteArray) (k : Nat) : Nat → Nat
  | 0 => 0
  | n + 1 => 10 * dV T k n + (bA T (k + n) - 48)
structure PR where
  ok : Bool
  at_ : Nat
  L : List (Int × Int)
def fail (k : Nat) : PR := ⟨false, k, []⟩
/-- A number that is less than a bound. -/
def numB (T : ByteArray) (k lim : Nat) : Bool :=
  decide (k < dE T k) && (decide (dE T k ≤ k + 2) && (!(decide (1 < dE T k - k) && decide (bA T k = 48)) && decide (dV T k (dE T k - k) < lim)))
def numP (T : ByteArray) (kind : Int) (lim k : Nat) : PR := if numB T k lim = true then ⟨true, dE T k, [(kind, (dV T k (dE T k - k) : Int))]⟩ else fail k
/-- Operands with a sign between them. -/
def loopP (T : ByteArray) (sub : Nat → PR) (c : Nat) (kind : Int) : Nat → PR → PR
  | 0, r => r
  | n + 1, r => if r.ok = true ∧ r.at_ < T.size ∧ bA T r.at_ = c then loopP T sub c kind n ⟨(sub (r.at_ + 1)).ok, (sub (r.at_ + 1)).at_, (kind, 0) :: (r.L ++ (sub (r.at_ + 1)).L)⟩ else r
def besP (T : ByteArray) (atom : Nat → PR) (k : Nat) : PR := loopP T atom 42 3 (T.size + 1) (atom k)
def thnP (T : ByteArray) (atom : Nat → PR) (k : Nat) : PR := loopP T (besP T atom) 59 2 (T.size + 1) (besP T atom k)
def parP (T : ByteArray) (r : PR) : PR := if r.ok = true then (if r.at_ < T.size ∧ bA T r.at_ = 41 then ⟨true, r.at_ + 1, r.L⟩ else fail r.at_) else r
def atomP (T : ByteArray) : Nat → Nat → PR
  | 0, k => fail k
  | n + 1, k =>
    if k < T.size then
      if bA T k = 40 then parP T (thnP T (atomP T n) (k + 1))
      else if bA T k = 105 then numP T 1 8 (k + 1)
      else if bA T k = 102 then numP T 0 40 (k + 1)
      else fail k
    else fail k
/-- What ParseDiagram answers. -/
def pdR (T : ByteArray) : List (Int × Int) × Int × Int :=
  if T.size ≤ 200 then
    let r := thnP T (atomP T (T.size + 1)) 0
    if r.ok = true ∧ r.at_ = T.size then (if r.L.length ≤ 40 then (r.L, 0, 0) else ([], 0, 3)) else ([], (r.at_ : Int), 6)
  else ([], 0, 3)
theorem dEnd_le (T : ByteArray) : ∀ n k, k ≤ dEnd T n k ∧ (k ≤ T.size → dEnd T n k ≤ T.size)
  | 0, k => ⟨Nat.le_refl _, fun h => h⟩
  | n + 1, k => by
    rw [dEnd]
    split
    · rename_i h
      have := dEnd_le T n (k + 1)
      have hk : k < T.size := by
        unfold isD at h
        rw [Bool.and_eq_true] at h
        exact of_decide_eq_true h.1
      exact ⟨by omega, fun _ => this.2 (by omega)⟩
    · exact ⟨Nat.le_refl _, fun h => h⟩
/-- A sound result: it has gone on, not beyond the end, and the list is not longer than what was read. -/
def Snd (T : ByteArray) (k : Nat) (r : PR) : Prop := k ≤ r.at_ ∧ r.at_ ≤ T.size ∧ r.L.length ≤ r.at_ - k ∧ (r.ok = true → k < r.at_)
theorem fail_snd {T : ByteArray} {k j : Nat} (h : k ≤ j) (hj : j ≤ T.size) : Snd T k (fail j) := ⟨h, hj, Nat.zero_le _, fun e => by cases e⟩
theorem numP_snd {T : ByteArray} {kind : Int} {lim k : Nat} (hk : k ≤ T.size) : Snd T k (numP T kind lim k) := by
  unfold numP
  split
  · rename_i h
    unfold numB at h
    rw [Bool.and_eq_true] at h
    have h1 := of_decide_eq_true h.1
    have h2 := (dEnd_le T T.size k).2 hk
    exact ⟨Nat.le_of_lt h1, h2, (by show 1 ≤ dEnd T T.size k - k; unfold dE at h1; omega), fun _ => h1⟩
  · exact fail_snd (Nat.le_refl _) hk
theorem loopP_snd {T : ByteArray} {sub : Nat → PR} {c : Nat} {kind : Int} (hs : ∀ k, k ≤ T.size → Snd T k (sub k)) {k : Nat} : ∀ n r, Snd T k r → Snd T k (loopP T sub c kind n r)
  | 0, r, h => h
  | n + 1, r, h => by
    rw [loopP]
    split
    · rename_i hc
      refine loopP_snd hs n _ ?_
      have h2 := hs (r.at_ + 1) (by omega)
      obtain ⟨a1, a2, a3, a4⟩ := h
      obtain ⟨b1, b2, b3, b4⟩ := h2
      refine ⟨by show k ≤ (sub (r.at_ + 1)).at_; omega, b2, ?_, fun e => ?_⟩
      · show (((kind, (0 : Int)) :: (r.L ++ (sub (r.at_ + 1)).L)).length) ≤ (sub (r.at_ + 1)).at_ - k
        simp only [List.length_cons, List.length_append]
        omega
      · show k < (sub (r.at_ + 1)).at_
        omega
    · exact h
theorem besP_snd {T : ByteArray} {atom : Nat → PR} (h : ∀ k, k ≤ T.size → Snd T k (atom k)) : ∀ k, k ≤ T.size → Snd T k (besP T atom k) := fun k hk => loopP_snd h _ _ (h k hk)
theorem thnP_snd {T : ByteArray} {atom : Nat → PR} (h : ∀ k, k ≤ T.size → Snd T k (atom k)) : ∀ k, k ≤ T.size → Snd T k (thnP T atom k) := fun k hk => loopP_snd (besP_snd h) _ _ (besP_snd h k hk)
theorem atomP_snd (T : ByteArray) : ∀ n k, k ≤ T.size → Snd T k (atomP T n k)
  | 0, k, hk => fail_snd (Nat.le_refl _) hk
  | n + 1, k, hk => by
    rw [atomP]
    split
    · rename_i hlt
      split
      · have h := thnP_snd (atomP_snd T n) (k + 1) (by omega)
        obtain ⟨a1, a2, a3, a4⟩ := h
        unfold parP
        split
        · split
          · exact ⟨by show k ≤ _ + 1; omega, by show _ + 1 ≤ _; omega, (show (thnP T (atomP T n) (k + 1)).L.length ≤ (thnP T (atomP T n) (k + 1)).at_ + 1 - k by omega), fun _ => by show k < _ + 1; omega⟩
          · exact fail_snd (by omega) a2
        · exact ⟨by omega, a2, by omega, fun e => by omega⟩
      · split
        · obtain ⟨a1, a2, a3, a4⟩ := numP_snd (T := T) (kind := 1) (lim := 8) (k := k + 1) (by omega)
          exact ⟨by omega, a2, by omega, fun e => by omega⟩
        · split
          · obtain ⟨a1, a2, a3, a4⟩ := numP_snd (T := T) (kind := 0) (lim := 40) (k := k + 1) (by omega)
            exact ⟨by omega, a2, by omega, fun e => by omega⟩
          · exact fail_snd (Nat.le_refl _) hk
    · exact fail_snd (Nat.le_refl _) hk
/-- One more round does nothing where none is left. -/
theorem loopP_stop {T : ByteArray} {sub : Nat → PR} {c : Nat} {kind : Int} {n : Nat} {r : PR} (h : ¬ (r.ok = true ∧ r.at_ < T.size ∧ bA T r.at_ = c)) : loopP T sub c kind n r = r := by
  cases n with
  | zero => rfl
  | succ n => rw [loopP, if_neg h]
end Go.Proofs.YtjlpmfimbgbcmaaDoor
