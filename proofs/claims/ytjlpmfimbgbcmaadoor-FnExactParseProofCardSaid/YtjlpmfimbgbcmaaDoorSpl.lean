/-
  Plain: a text taken apart at a byte.
-/
import Derived.Lib.SplitLaws
namespace Go.Proofs.YtjlpmfimbgbcmaaDoor

/-- The pieces of a text between the occurrences of a byte. -/
def pcs (c : UInt8) (s : ByteArray) : List ByteArray := Lib.splitB ⟨#[c]⟩ 0 (Lib.countB s ⟨#[c]⟩) s

theorem ixB_cons (b c : UInt8) (l : List UInt8) : Lib.index (b :: l) [c] = if b = c then 0 else if Lib.index l [c] = -1 then -1 else Lib.index l [c] + 1 := by
  show (if [c].isPrefixOf (b :: l) then (0 : Int) else if Lib.index l [c] == -1 then -1 else Lib.index l [c] + 1) = _
  by_cases h : b = c
  · subst h; simp [List.isPrefixOf]
  · have h' : ¬ c = b := fun e => h e.symm
    simp [h, List.isPrefixOf, h']

theorem ixB_miss (c : UInt8) : ∀ (l : List UInt8), (∀ (k : Nat) b, l[k]? = some b → b ≠ c) → Lib.index l [c] = -1
  | [], _ => by simp [Lib.index]
  | b :: l, h => by
    rw [ixB_cons, if_neg (h 0 b rfl), if_pos (ixB_miss c l (fun k x hx => h (k + 1) x hx))]

theorem ixB_hit (c : UInt8) : ∀ (l : List UInt8) (j : Nat), l[j]? = some c → (∀ (k : Nat) b, k < j → l[k]? = some b → b ≠ c) → Lib.index l [c] = j
  | [], j, h, _ => by simp at h
  | b :: l, 0, h, _ => by
    simp at h
    rw [ixB_cons, if_pos h]; rfl
  | b :: l, j + 1, h, hb => by
    have e := ixB_hit c l j (by simpa using h) (fun k x hk hx => hb (k + 1) x (by omega) (by simpa using hx))
    rw [ixB_cons, if_neg (hb 0 b (by omega) rfl), e, if_neg (by omega)]
    omega

theorem one_toList (c : UInt8) : (⟨#[c]⟩ : ByteArray).data.toList = [c] := rfl

theorem indexB_one (s : ByteArray) (c : UInt8) : Lib.indexB s ⟨#[c]⟩ = Lib.index s.data.toList [c] := rfl

theorem get_list (s : ByteArray) (k : Nat) (h : k < s.size) : s.data.toList[k]? = some s[k] := by
  have h' : k < s.data.toList.length := by simpa using h
  rw [List.getElem?_eq_getElem h']
  rfl

theorem list_get (s : ByteArray) (k : Nat) (b : UInt8) (h : s.data.toList[k]? = some b) : ∃ hk : k < s.size, s[k] = b := by
  obtain ⟨h1, h2⟩ := List.getElem?_eq_some_iff.1 h
  have h1' : k < s.size := by simpa using h1
  exact ⟨h1', h2⟩

theorem pcs_miss {c : UInt8} {s : ByteArray} (h : ∀ (k : Nat) (hk : k < s.size), s[k] ≠ c) : Lib.indexB s ⟨#[c]⟩ = -1 ∧ pcs c s = [s] := by
  have h1 : Lib.indexB s ⟨#[c]⟩ = -1 := by
    rw [indexB_one]
    refine ixB_miss c _ (fun k b hb => ?_)
    obtain ⟨hk, rfl⟩ := list_get s k b hb
    exact h k hk
  exact ⟨h1, Lib.splitB_miss _ _ _ _ h1⟩

theorem count_hit {c : UInt8} {s : ByteArray} {j : Nat} (hj : j < s.size) (e : s[j] = c) (h : ∀ (k : Nat) (hk : k < j), s[k] ≠ c) :
    Lib.countB s ⟨#[c]⟩ = Lib.countB (s.extract (j + 1) s.size) ⟨#[c]⟩ + 1 := by
  show Lib.count s.data.toList [c] = Lib.count (s.extract (j + 1) s.size).data.toList [c] + 1
  rw [Lib.count_one, Lib.count_one]
  have e1 : (s.extract (j + 1) s.size).data.toList = s.data.toList.drop (j + 1) := by
    rw [ByteArray.data_extract, Array.toList_extract, List.extract_eq_take_drop]
    exact List.take_of_length_le (by simp)
  have hl : j < s.data.toList.length := by simpa using hj
  have e2 : s.data.toList = s.data.toList.take j ++ c :: s.data.toList.drop (j + 1) := by
    conv => lhs; rw [← List.take_append_drop j s.data.toList]
    rw [List.drop_eq_getElem_cons hl]
    have : s.data.toList[j] = c := e
    rw [this]
  rw [e1]
  conv => lhs; rw [e2]
  rw [List.count_append, List.count_cons_self]
  have : (s.data.toList.take j).count c = 0 := by
    rw [List.count_eq_zero]
    intro hm
    obtain ⟨k, hk, hk2⟩ := List.getElem_of_mem hm
    rw [List.getElem_take] at hk2
    have hk' : k < j := by simp at hk; omega
    exact h k hk' hk2
  omega

theorem pcs_hit {c : UInt8} {s : ByteArray} {j : Nat} (hj : j < s.size) (e : s[j] = c) (h : ∀ (k : Nat) (hk : k < j), s[k] ≠ c) :
    Lib.indexB s ⟨#[c]⟩ = j ∧ pcs c s = s.extract 0 j :: pcs c (s.extract (j + 1) s.size) := by
  have h1 : Lib.indexB s ⟨#[c]⟩ = j := by
    rw [indexB_one]
    refine ixB_hit c _ j (by rw [get_list s j hj, e]) (fun k b hk hb => ?_)
    obtain ⟨hk', rfl⟩ := list_get s k b hb
    exact h k hk
  refine ⟨h1, ?_⟩
  unfold pcs
  rw [count_hit hj e h, Lib.splitB_hit _ _ _ _ j h1]
  rfl

theorem least {p : Nat → Prop} : (∃ k, p k) → ∃ j, p j ∧ ∀ k, k < j → ¬ p k := by
  rintro ⟨k, hk⟩
  induction k using Nat.strongRecOn with
  | ind k ih =>
    by_cases h : ∃ i, i < k ∧ p i
    · obtain ⟨i, hi, hp⟩ := h
      exact ih i hi hp
    · exact ⟨k, hk, fun i hi hp => h ⟨i, hi, hp⟩⟩

theorem pcs_cases (c : UInt8) (s : ByteArray) : (∀ (k : Nat) (hk : k < s.size), s[k] ≠ c) ∨ ∃ (j : Nat) (hj : j < s.size), s[j] = c ∧ ∀ (k : Nat) (hk : k < j), s[k] ≠ c := by
  by_cases h : ∀ (k : Nat) (hk : k < s.size), s[k] ≠ c
  · exact .inl h
  · right
    have h2 : ∃ k, ∃ hk : k < s.size, s[k] = c := by
      refine Classical.byContradiction fun hn => h fun k hk e => hn ⟨k, hk, e⟩
    obtain ⟨j, ⟨hj, e⟩, hm⟩ := least (p := fun k => ∃ hk : k < s.size, s[k] = c) h2
    exact ⟨j, hj, e, fun k hk e' => hm k hk ⟨by omega, e'⟩⟩

/-- How long the rest of a text is, told by its pieces. -/
theorem pcs_ne (c : UInt8) (s : ByteArray) : pcs c s ≠ [] := by
  rcases pcs_cases c s with h | ⟨j, hj, e, h⟩
  · rw [(pcs_miss h).2]; simp
  · rw [(pcs_hit hj e h).2]; simp
theorem pcs_len (c : UInt8) (s : ByteArray) : (pcs c s).length = Lib.countB s ⟨#[c]⟩ + 1 := Lib.splitB_all _ (Nat.le_refl _) 0 _ s rfl

end Go.Proofs.YtjlpmfimbgbcmaaDoor
