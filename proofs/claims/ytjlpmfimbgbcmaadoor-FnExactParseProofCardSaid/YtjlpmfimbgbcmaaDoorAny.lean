/-
  strings.ContainsAny at ";/\n", any bytes.
-/
import Derived.Test.YtjlpmfimbgbcmaaDoorIxr
import Derived.Shelf.Strings.IndexAnyAll
import Derived.Shelf.Strings.Runes
import Derived.Lib.OthersKept
namespace Go.Proofs.YtjlpmfimbgbcmaaDoor
open Go.RowKit Go.Shelf

theorem get_bang (s : ByteArray) (i : Nat) (h : i < s.size) : s.get! i = s[i] := by
  cases s with | mk d => exact getElem!_pos d i h

theorem dec_facts (s : ByteArray) (pos : Nat) (hp : pos < s.size) (hb : 128 ≤ (s[pos]'hp).toNat) :
    validRune ((Utf8.decode s pos).1 : Int) = true ∧ 128 ≤ (Utf8.decode s pos).1 ∧ 1 ≤ (Utf8.decode s pos).2 ∧ pos + (Utf8.decode s pos).2 ≤ s.size ∧
      ∀ (j : Nat) (hj : j < s.size), pos ≤ j → j < pos + (Utf8.decode s pos).2 → 128 ≤ (s[j]'hj).toNat := by
  have e0 : (s.get! (pos + 0)).toNat = (s[pos]'hp).toNat := by rw [Nat.add_zero, get_bang s pos hp]
  have bad : ∀ (c : Nat × Nat), c = (65533, 1) → validRune (c.1 : Int) = true ∧ 128 ≤ c.1 ∧ 1 ≤ c.2 ∧ pos + c.2 ≤ s.size ∧ ∀ (j : Nat) (hj : j < s.size), pos ≤ j → j < pos + c.2 → 128 ≤ (s[j]'hj).toNat := by
    rintro c rfl
    refine ⟨by decide, by decide, by decide, by show pos + 1 ≤ _; omega, fun j hj h1 h2 => ?_⟩
    have : j = pos := by
      have h2' : j < pos + 1 := h2
      omega
    subst this; exact hb
  have ct : ∀ k, (decide (pos + k < s.size) && ((s.get! (pos + k)).toNat / 64 == 2)) = true → ∃ h : pos + k < s.size, 128 ≤ (s[pos + k]'h).toNat ∧ (s.get! (pos + k)).toNat = (s[pos + k]'h).toNat := by
    intro k h
    rw [Bool.and_eq_true, decide_eq_true_eq, beq_iff_eq] at h
    rw [get_bang s _ h.1] at h ⊢
    exact ⟨h.1, by omega, rfl⟩
  unfold Utf8.decode
  simp only [e0]
  rw [if_neg (by omega)]
  split
  · rename_i h
    rw [Bool.and_eq_true] at h
    obtain ⟨k1, g1, q1⟩ := ct 1 h.2
    split
    · rename_i hc
      have hx : (s[pos]'hp).toNat < 256 := (s[pos]'hp).toNat_lt
      refine ⟨?_, hc, by show 1 ≤ 2; omega, by show pos + 2 ≤ _; omega, fun j hj h1 h2 => ?_⟩
      · simp only [validRune, decide_eq_true_eq]
        left
        omega
      · have h2' : j < pos + 2 := h2
        have : j = pos ∨ j = pos + 1 := by omega
        rcases this with rfl | rfl
        · exact hb
        · exact g1
    · exact bad _ rfl
  · split
    · rename_i h
      rw [Bool.and_eq_true, Bool.and_eq_true] at h
      obtain ⟨k1, g1, q1⟩ := ct 1 h.1.2
      obtain ⟨k2, g2, q2⟩ := ct 2 h.2
      split
      · rename_i hc
        rw [Bool.and_eq_true, decide_eq_true_eq] at hc
        refine ⟨?_, by omega, by show 1 ≤ 3; omega, by show pos + 3 ≤ _; omega, fun j hj h1 h2 => ?_⟩
        · rw [← validRune_eq]; exact hc.2
        · have h2' : j < pos + 3 := h2
          have : j = pos ∨ j = pos + 1 ∨ j = pos + 2 := by omega
          rcases this with rfl | rfl | rfl
          · exact hb
          · exact g1
          · exact g2
      · exact bad _ rfl
    · split
      · rename_i h
        rw [Bool.and_eq_true, Bool.and_eq_true, Bool.and_eq_true] at h
        obtain ⟨k1, g1, q1⟩ := ct 1 h.1.1.2
        obtain ⟨k2, g2, q2⟩ := ct 2 h.1.2
        obtain ⟨k3, g3, q3⟩ := ct 3 h.2
        split
        · rename_i hc
          rw [Bool.and_eq_true, decide_eq_true_eq] at hc
          refine ⟨?_, by omega, by show 1 ≤ 4; omega, by show pos + 4 ≤ _; omega, fun j hj h1 h2 => ?_⟩
          · rw [← validRune_eq]; exact hc.2
          · have h2' : j < pos + 4 := h2
            have : j = pos ∨ j = pos + 1 ∨ j = pos + 2 ∨ j = pos + 3 := by omega
            rcases this with rfl | rfl | rfl | rfl
            · exact hb
            · exact g1
            · exact g2
            · exact g3
        · exact bad _ rfl
      · exact bad _ rfl

def badB (b : UInt8) : Bool := b == 59 || b == 47 || b == 10
/-- None of the three bytes stands in a text. -/
def wordB (s : ByteArray) : Bool := s.data.toList.all fun b => !badB b

theorem wordB_iff (s : ByteArray) : wordB s = true ↔ ∀ (j : Nat) (hj : j < s.size), badB (s[j]'hj) = false := by
  unfold wordB
  rw [List.all_eq_true]
  constructor
  · intro h j hj
    have := h (s[j]'hj) (Array.getElem_mem_toList (xs := s.data) hj)
    simpa using this
  · intro h b hb
    obtain ⟨k, hk, rfl⟩ := List.getElem_of_mem hb
    have hk' : k < s.size := by simpa using hk
    have e : s.data.toList[k] = s[k]'hk' := rfl
    rw [e, h k hk']; rfl

theorem any_word (l : List UInt8) : decide (0 ≤ Lib.indexAny l [59, 47, 10]) = !(l.all fun b => !badB b) := by
  induction l with
  | nil => rfl
  | cons b l ih =>
    have hge := Lib.indexAny_ge [59, 47, 10] l
    have hc : List.contains [59, 47, 10] b = badB b := by
      simp only [List.contains, List.elem, badB]
      cases b == 59 <;> cases b == 47 <;> cases b == 10 <;> rfl
    rw [Lib.indexAny, hc, List.all_cons]
    cases badB b with
    | true => simp
    | false =>
      simp only [Bool.false_eq_true, if_false, Bool.not_false, Bool.true_and]
      rw [← ih]
      by_cases h : Lib.indexAny l [59, 47, 10] = -1
      · rw [h]; rfl
      · have h' : (Lib.indexAny l [59, 47, 10] == -1) = false := beq_eq_false_iff_ne.2 h
        rw [h']
        simp only [Bool.false_eq_true, if_false]
        exact decide_eq_decide.2 ⟨fun _ => by omega, fun _ => by omega⟩

theorem ix3 (c : UInt8) : Lib.indexByte [59, 47, 10] c = (if c = 59 then 0 else if c = 47 then 1 else if c = 10 then 2 else -1) := by
  unfold Lib.indexByte Lib.indexByte Lib.indexByte Lib.indexByte
  by_cases h1 : c = 59
  · subst h1; rfl
  · by_cases h2 : c = 47
    · subst h2; rfl
    · by_cases h3 : c = 10
      · subst h3; rfl
      · have g1 : ((59 : UInt8) == c) = false := beq_eq_false_iff_ne.2 (fun e => h1 e.symm)
        have g2 : ((47 : UInt8) == c) = false := beq_eq_false_iff_ne.2 (fun e => h2 e.symm)
        have g3 : ((10 : UInt8) == c) = false := beq_eq_false_iff_ne.2 (fun e => h3 e.symm)
        simp [h1, h2, h3, g1, g2, g3]
theorem ix3_bad {c : UInt8} : 0 ≤ Lib.indexByte [59, 47, 10] c ↔ badB c = true := by
  rw [ix3]
  unfold badB
  by_cases h1 : c = 59
  · simp [h1]
  · by_cases h2 : c = 47
    · simp [h2]
    · by_cases h3 : c = 10
      · simp [h3]
      · simp [h1, h2, h3]

shelf_lay Lays.n152 Nm 152 at Tryd as lays152
theorem c_ixa {b : UInt8} (hb : b.toNat < 128) (w : World) : Calls Tryd.prog 111 #[.string C3, .int .i32 (b.toNat : Int)] w (fun e w' => ∃ v : Int, e = .returned (.int .i64 v) ∧ decide (0 ≤ v) = badB b ∧ w' = w) := by
  refine (Any.strings_IndexRune_ascii lays152 C3 (b.toNat : Int) w (by omega) (by omega)).mono fun e w' ⟨he, hw⟩ => ⟨_, he, ?_, hw⟩
  have e1 : ((b.toNat : Int)).toNat.toUInt8 = b := by simp
  rw [e1]
  show decide (0 ≤ Lib.indexByte [59, 47, 10] b) = badB b
  by_cases h : badB b = true
  · rw [h]; exact decide_eq_true (ix3_bad.2 h)
  · rw [Bool.not_eq_true] at h
    rw [h]
    exact decide_eq_false (fun e => by rw [ix3_bad.1 e] at h; cases h)

set_option maxRecDepth 100000 in
theorem any_short {s : ByteArray} (h8 : s.size ≤ 8) (w : World) : Calls Tryd.prog 93 #[.string s, .string C3] w (fun e w' => ∃ v : Int, e = .returned (.int .i64 v) ∧ decide (0 ≤ v) = !wordB s ∧ Below w.heap.size w w') := by
  have h8z : decide ((8 : Int) < (s.size : Int)) = false := decide_eq_false (by omega)
  have HA := Lib.hid (fun (b : UInt8) (hb : b.toNat < 128) W => c_ixa hb W)
  have HR := Lib.hid (fun (r : Int) (h : validRune r = true) (h0 : 128 ≤ r) W => c_ixr h h0 W)
  have HW := Lib.hid (wordB_iff s)
  obtain ⟨V, hV⟩ : ∃ V, V = wordB s := ⟨_, rfl⟩
  have HV := Lib.hid hV
  rw [← hV]
  clear hV
  unfold C3 at HA HR ⊢
  go_enter Tryd.func93, Tryd.ntmps93
  go_wp2
  go_loopw [9, 10] (fun _ _ wr => ∃ pos : Nat, wr.heap[w.heap.size]? = some (.stringIter s pos) ∧ pos ≤ s.size ∧ Hid (∀ (j : Nat) (hj : j < s.size), j < pos → badB (s[j]'hj) = false) ∧ Below w.heap.size w wr) (fun _ _ wr => s.size - wr.iterPos w.heap.size)
  case atStart => exact ⟨0, World.iter_heap _ _ _, by omega, Lib.hid (fun j hj h => by omega), (Below.refl _ w).alloc (Nat.le_refl _) _⟩
  case round =>
    obtain ⟨pos, hk, hle, HB, hb⟩ := hrel
    have hlt := (Array.getElem?_eq_some_iff.1 hk).1
    by_cases hp : pos < s.size
    · by_cases ha : (s[pos]'hp).toNat < 128
      · have hnx : ∀ ty, (Instr.next (.pointer (some ⟨w.heap.size, 0, none⟩)) true ty).run Tryd.prog wr = _ := fun ty => Lib.run_next_ascii_at wr w.heap.size s pos ty hk hp ha
        have hk1 := Lib.iterAt_heap wr w.heap.size s pos (pos + 1) hk
        have hb1 : Below w.heap.size w (wr.iterAt w.heap.size s (pos + 1)) := Lib.below_iterAt hb (Nat.le_refl _) _ _
        have hm : wr.iterPos w.heap.size = pos := by simp [World.iterPos, hk]
        obtain ⟨w1, hw1⟩ : ∃ w1, wr.iterAt w.heap.size s (pos + 1) = w1 := ⟨_, rfl⟩
        rw [hw1] at hnx hk1 hb1
        obtain ⟨b, hbq⟩ : ∃ b, b = s[pos]'hp := ⟨_, rfl⟩
        rw [← hbq] at hnx ha
        have HQ := Lib.hid hbq
        have hm1 : w1.iterPos w.heap.size = pos + 1 := by simp [World.iterPos, hk1]
        clear hbq hw1 hb
        go_wp2_with (go_at_call 111; refine (HA.out b ha _).mono ?_; rintro e w2 ⟨v, rfl, hv, rfl⟩)
        · have hbad : badB b = true := by assumption
          have hf : V = false := by
            rw [HV.out]
            cases hw : wordB s with
            | false => rfl
            | true =>
              have := HW.out.1 hw pos hp
              rw [← HQ.out, hbad] at this; cases this
          go_ret
          refine ⟨_, rfl, ?_, hb1⟩
          rw [hf]
          exact decide_eq_true (by omega)
        · have hgood : badB b = false := by assumption
          go_roundw
          case rel =>
            repeat apply Exists.intro
            refine ⟨⟨pos + 1, hk1, by omega, Lib.hid (fun j hj h => ?_), hb1⟩, rfl⟩
            by_cases e : j = pos
            · subst e; rw [← HQ.out]; exact hgood
            · exact HB.out j hj (by omega)
          case measure => omega
      · obtain ⟨d1, d2, d3, d4, d5⟩ := dec_facts s pos hp (by omega)
        have hnx : ∀ ty, (Instr.next (.pointer (some ⟨w.heap.size, 0, none⟩)) true ty).run Tryd.prog wr = _ := fun ty => Lib.run_next_any_at wr w.heap.size s pos ty hk hp
        obtain ⟨R, hR⟩ : ∃ R : Int, R = ((Utf8.decode s pos).1 : Int) := ⟨_, rfl⟩
        obtain ⟨n, hn⟩ : ∃ n, n = (Utf8.decode s pos).2 := ⟨_, rfl⟩
        rw [← hR, ← hn] at hnx
        rw [← hR] at d1
        rw [← hn] at d3 d4 d5
        have d2' : 128 ≤ R := by omega
        have hk1 := Lib.iterAt_heap wr w.heap.size s pos (pos + n) hk
        have hb1 : Below w.heap.size w (wr.iterAt w.heap.size s (pos + n)) := Lib.below_iterAt hb (Nat.le_refl _) _ _
        have hm : wr.iterPos w.heap.size = pos := by simp [World.iterPos, hk]
        obtain ⟨w1, hw1⟩ : ∃ w1, wr.iterAt w.heap.size s (pos + n) = w1 := ⟨_, rfl⟩
        rw [hw1] at hnx hk1 hb1
        have HD := Lib.hid d5
        have HR1 := Lib.hid (HR.out R d1 d2')
        clear hR hn d1 d2 d5 hb hw1
        go_wp2_with (go_at_call 111; refine (HR1.out _).mono ?_; rintro e w2 ⟨rfl, hb2⟩)
        have hk2 : w2.heap[w.heap.size]? = some (.stringIter s (pos + n)) := (hb2.block _ (Array.getElem?_eq_some_iff.1 hk1).1).trans hk1
        have hm2 : w2.iterPos w.heap.size = pos + n := by simp [World.iterPos, hk2]
        go_roundw
        case rel =>
          repeat apply Exists.intro
          refine ⟨⟨pos + n, hk2, d4, Lib.hid (fun j hj h => ?_), hb1.trans (hb2.mono hb1.size)⟩, rfl⟩
          by_cases e : j < pos
          · exact HB.out j hj e
          · have h5 := HD.out j hj (by omega) h
            unfold badB
            have g : ∀ c : UInt8, c.toNat < 128 → ((s[j]'hj) == c) = false := fun c hc => beq_eq_false_iff_ne.2 (fun e => by rw [e] at h5; omega)
            rw [g 59 (by decide), g 47 (by decide), g 10 (by decide)]
            rfl
        case measure => omega
    · have hnx : ∀ ty, (Instr.next (.pointer (some ⟨w.heap.size, 0, none⟩)) true ty).run Tryd.prog wr = _ := fun ty => Lib.run_next_end_at wr w.heap.size s pos ty hk hp
      have hf := Lib.hid (show V = true by
        rw [HV.out]
        exact HW.out.2 (fun j hj => HB.out j hj (by omega)))
      go_wp2_with fail
      go_ret
      exact ⟨-1, rfl, by rw [hf.out]; rfl, hb⟩

theorem size8 : (Tryd.prog.info? 141).map (fun i => (i.zero, i.size)) = some (some (.agg (Array.replicate 256 (.bool false))), 256) := by kernel_rfl
shelf_lay Lays.n153 Nm 153 at Tryd as lays153
theorem C3_get : ∀ (j : Nat) b, C3.data.toList[j]? = some b → b.toNat < 128 := fun j b h => C3_ascii b (List.mem_of_getElem? h)
set_option maxRecDepth 100000 in
theorem c_IndexAny {s : ByteArray} (hs : s.size < 4294967281) (w : World) : Calls Tryd.prog 93 #[.string s, .string C3] w (fun e w' => ∃ v : Int, e = .returned (.int .i64 v) ∧ decide (0 ≤ v) = !wordB s ∧ Below w.heap.size w w') := by
  by_cases h8 : s.size ≤ 8
  · exact any_short h8 w
  · refine (Any.strings_IndexAny_long lays153 (zero_of_info size8).1 (zero_of_info size8).2 s C3 w (by show 2 ≤ 3; omega) (by omega) hs (by show 3 < 4294967281; omega) C3_get).mono fun e w' ⟨he, hw⟩ => ⟨_, he, any_word _, ?_⟩
    rw [hw]
    exact ((Below.refl _ w).alloc (Nat.le_refl _) _).alloc (by simp) _

theorem c_ContainsAny {s : ByteArray} (hs : s.size < 4294967281) (w : World) : Calls Tryd.prog 81 #[.string s, .string C3] w (fun e w' => e = .returned (.bool (!wordB s)) ∧ Below w.heap.size w w') := by
  have HI := Lib.hid (c_IndexAny hs w)
  obtain ⟨V, hV⟩ : ∃ V, V = !wordB s := ⟨_, rfl⟩
  rw [← hV] at HI ⊢
  clear hV
  go_enter Tryd.func81, Tryd.ntmps81
  go_wp2_with fail
  refine HI.out.mono ?_
  rintro e w' ⟨v, rfl, hv, hb⟩
  go_wp2_with fail
  go_ret
  exact ⟨by first | rfl | rw [hv] | simp [hv], hb⟩
end Go.Proofs.YtjlpmfimbgbcmaaDoor
