/-
  Plain: numbers of at most nine digits, without superfluous zeros.
-/
import Derived.Test.YtjlpmfimbgbcmaaDoorSpl
import Derived.Lib.ItoaNum
import Derived.Lib.AtoiTie
import Derived.Lib.ParseIntBTie
namespace Go.Proofs.YtjlpmfimbgbcmaaDoor
open Go.Lib

theorem decFrom_snoc (c : UInt8) : ∀ (l : List UInt8) (acc : Nat), decFrom acc (l ++ [c]) = (decFrom acc l).bind fun n => (digitVal c).map fun d => n * 10 + d
  | [], acc => by
    simp only [List.nil_append, decFrom, Option.bind_some]
    cases digitVal c <;> rfl
  | b :: l, acc => by
    simp only [List.cons_append, decFrom]
    cases digitVal b with
    | none => rfl
    | some d => exact decFrom_snoc c l _

theorem decFrom_ge : ∀ (l : List UInt8) (acc m : Nat), decFrom acc l = some m → acc ≤ m
  | [], acc, m, h => by simp [decFrom] at h; omega
  | b :: l, acc, m, h => by
    simp only [decFrom] at h
    cases hd : digitVal b with
    | none => rw [hd] at h; cases h
    | some d => rw [hd] at h; have := decFrom_ge l _ m h; omega

theorem digit_of {c : UInt8} {d : Nat} (h : digitVal c = some d) : d < 10 ∧ c = UInt8.ofNat (48 + d) ∧ (c ≠ 48 → 1 ≤ d) ∧ 48 ≤ c.toNat ∧ c.toNat ≤ 57 := by
  unfold digitVal at h
  split at h
  · rename_i hc
    cases h
    refine ⟨by omega, ?_, fun hn => ?_, hc⟩
    · apply UInt8.toNat_inj.1
      rw [UInt8.toNat_ofNat']
      omega
    · have : c.toNat ≠ 48 := fun e => hn (UInt8.toNat_inj.1 (by rw [e]; rfl))
      omega
  · cases h
theorem digit_mk {d : Nat} (h : d < 10) : digitVal (UInt8.ofNat (48 + d)) = some d := by
  unfold digitVal
  have e : (UInt8.ofNat (48 + d)).toNat = 48 + d := by rw [UInt8.toNat_ofNat']; omega
  rw [e, if_pos ⟨by omega, by omega⟩]
  congr 1
  omega
theorem digit_ne {d : Nat} (h : d < 10) (h1 : 1 ≤ d) : UInt8.ofNat (48 + d) ≠ 48 := by
  intro e
  have : (UInt8.ofNat (48 + d)).toNat = 48 := by rw [e]; rfl
  rw [UInt8.toNat_ofNat'] at this
  omega

/-- No superfluous zeros. -/
def Can (l : List UInt8) : Prop := l ≠ [] ∧ (1 < l.length → l.head? ≠ some 48)

theorem dec_of_can : ∀ (k : Nat) (l : List UInt8) (m : Nat), l.length = k → Can l → decFrom 0 l = some m → decDigits m = l := by
  intro k
  induction k with
  | zero => intro l m hk hc; exact absurd (List.length_eq_zero_iff.1 hk) hc.1
  | succ k ih =>
    intro l m hk hc h
    rcases List.eq_nil_or_concat l with rfl | ⟨r, c, rfl⟩
    · cases hk
    · rw [List.concat_eq_append] at *
      rw [decFrom_snoc] at h
      cases hr : decFrom 0 r with
      | none => rw [hr] at h; cases h
      | some n =>
        rw [hr] at h
        cases hd : digitVal c with
        | none => rw [hd] at h; cases h
        | some d =>
          rw [hd] at h
          simp only [Option.bind_some, Option.map_some, Option.some.injEq] at h
          obtain ⟨d1, rfl, -, -⟩ := digit_of hd
          by_cases hr0 : r = []
          · subst hr0
            simp [decFrom] at hr
            subst hr
            rw [decDigits, dif_pos (by omega)]
            simp; congr 2; omega
          · have hlen : 1 < (r ++ [UInt8.ofNat (48 + d)]).length := by
              have := List.length_pos_iff.2 hr0
              simp; omega
            have hh := hc.2 hlen
            have hh' : r.head? ≠ some 48 := by
              cases r with
              | nil => exact absurd rfl hr0
              | cons b t => simpa using hh
            have n1 : 1 ≤ n := by
              cases r with
              | nil => exact absurd rfl hr0
              | cons b t =>
                simp only [decFrom] at hr
                cases hb : digitVal b with
                | none => rw [hb] at hr; cases hr
                | some x =>
                  rw [hb] at hr
                  have := decFrom_ge t _ n hr
                  have := (digit_of hb).2.2.1 (fun e => hh' (by rw [e]; rfl))
                  omega
            have e := ih r n (by simp at hk; omega) ⟨hr0, fun _ => hh'⟩ hr
            rw [decDigits, dif_neg (by omega)]
            rw [show m / 10 = n from by omega, show m % 10 = d from by omega, e]

theorem can_dec : ∀ (n : Nat), decFrom 0 (decDigits n) = some n ∧ decDigits n ≠ [] ∧ (1 ≤ n → (decDigits n).head? ≠ some 48) := by
  intro n
  induction n using Nat.strongRecOn with
  | ind n ih =>
    by_cases h : n < 10
    · rw [decDigits, dif_pos h]
      refine ⟨?_, by simp, fun h1 e => ?_⟩
      · show (match digitVal (UInt8.ofNat (48 + n)) with | some d => decFrom (0 * 10 + d) [] | none => none) = some n
        rw [digit_mk h]
        show some (0 * 10 + n) = some n
        congr 1; omega
      · exact digit_ne h h1 (Option.some.inj e)
    · obtain ⟨i1, i2, i3⟩ := ih (n / 10) (by omega)
      rw [decDigits, dif_neg h]
      refine ⟨?_, by simp, fun _ => ?_⟩
      · rw [decFrom_snoc, i1, digit_mk (by omega)]
        simp; omega
      · cases hd : decDigits (n / 10) with
        | nil => exact absurd hd i2
        | cons b t =>
          have := i3 (by omega)
          rw [hd] at this
          simpa using this

theorem can_digits (n : Nat) : Can (decDigits n) := by
  refine ⟨(can_dec n).2.1, fun hl => ?_⟩
  by_cases h : n < 10
  · rw [decDigits, dif_pos h] at hl; simp at hl
  · exact (can_dec n).2.2 (by omega)

/-- The number that a text spells, or -1. -/
def val (s : ByteArray) : Int := if s.data.toList.length = 0 ∨ 9 < s.data.toList.length ∨ (1 < s.data.toList.length ∧ s.data.toList.head? = some 48) then -1 else match decFrom 0 s.data.toList with | some m => (m : Int) | none => -1

theorem val_some {s : ByteArray} (h : 0 ≤ val s) : Can s.data.toList ∧ s.data.toList.length ≤ 9 ∧ ∃ m : Nat, val s = m ∧ decFrom 0 s.data.toList = some m := by
  unfold val at *
  split at h
  · omega
  · rename_i hc
    rw [if_neg hc]
    refine ⟨⟨fun e => hc (.inl (by rw [e]; rfl)), fun h1 h2 => hc (.inr (.inr ⟨h1, h2⟩))⟩, by omega, ?_⟩
    cases hd : decFrom 0 s.data.toList with
    | none => rw [hd] at h; simp at h
    | some m => exact ⟨m, rfl, rfl⟩
theorem val_mk {s : ByteArray} {m : Nat} (hc : Can s.data.toList) (hl : s.data.toList.length ≤ 9) (h : decFrom 0 s.data.toList = some m) : val s = m := by
  unfold val
  rw [if_neg, h]
  rintro (h1 | h1 | ⟨h1, h2⟩)
  · exact hc.1 (List.length_eq_zero_iff.1 h1)
  · omega
  · exact hc.2 h1 h2
theorem val_neg {s : ByteArray} (h : ¬ 0 ≤ val s) : val s = -1 := by
  unfold val at *
  split
  · rfl
  · rename_i hc
    rw [if_neg hc] at h
    cases hd : decFrom 0 s.data.toList with
    | none => rfl
    | some m => rw [hd] at h; simp at h

/-- The program's way of reading is this. -/
theorem val_parse {s : ByteArray} (h : 0 ≤ val s) : parseIntB 64 s.data.toList = .ok (val s) ∧ s.size ≤ 9 ∧ (⟨(itoa (val s)).toArray⟩ : ByteArray) = s := by
  obtain ⟨hc, hl, m, hm, hd⟩ := val_some h
  have hs : s.size = s.data.toList.length := by simp
  refine ⟨?_, by omega, ?_⟩
  · rw [parseIntB_64, atoiAll_short _ (by omega), hm]
    cases hL : s.data.toList with
    | nil => exact absurd hL hc.1
    | cons b t =>
      rw [hL] at hd
      have hb : 48 ≤ b.toNat ∧ b.toNat ≤ 57 := by
        simp only [decFrom] at hd
        cases hb : digitVal b with
        | none => rw [hb] at hd; cases hd
        | some x => exact (digit_of hb).2.2.2
      have b1 : (b == 45) = false := by
        refine beq_eq_false_iff_ne.2 fun e => ?_
        rw [e] at hb; revert hb; decide
      have b2 : (b == 43) = false := by
        refine beq_eq_false_iff_ne.2 fun e => ?_
        rw [e] at hb; revert hb; decide
      simp only [atoi, b1, b2, decNat, List.isEmpty_cons]
      simp [hd, NumEnd.ofOption]
  · rw [hm]
    have e := dec_of_can _ _ m rfl hc hd
    have e2 : itoa (m : Int) = decDigits m := by unfold itoa; rw [if_neg (by omega)]; simp
    rw [e2, e]
theorem parse_val {s : ByteArray} {v : Int} (h9 : s.size ≤ 9) (he : (⟨(itoa v).toArray⟩ : ByteArray) = s) (h0 : 0 ≤ v) : val s = v := by
  obtain ⟨n, rfl⟩ := Int.eq_ofNat_of_zero_le h0
  have e2 : itoa (n : Int) = decDigits n := by unfold itoa; rw [if_neg (by omega)]; simp
  have e3 : s.data.toList = decDigits n := by rw [← he, ← e2]
  have hs : s.size = s.data.toList.length := by simp
  exact val_mk (by rw [e3]; exact can_digits n) (by omega) (by rw [e3]; exact (can_dec n).1)
theorem val_lt {s : ByteArray} (h : 0 ≤ val s) : val s ≤ 999999999 := by
  obtain ⟨-, hl, m, hm, hd⟩ := val_some h
  have h1 := decFrom_lt s.data.toList 0 m hd
  have hp : 10 ^ s.data.toList.length ≤ 10 ^ 9 := Nat.pow_le_pow_right (by decide) hl
  have e : (10 : Nat) ^ 9 = 1000000000 := by decide
  omega
end Go.Proofs.YtjlpmfimbgbcmaaDoor
