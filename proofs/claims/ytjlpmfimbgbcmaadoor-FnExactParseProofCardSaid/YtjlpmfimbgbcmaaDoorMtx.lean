/-
  markText: the text of a mark.
-/
import Derived.Test.YtjlpmfimbgbcmaaDoorStr
namespace Go.Proofs.YtjlpmfimbgbcmaaDoor
open Go.RowKit

/-- The digits of a number (none for zero). -/
def mD (n : Nat) : ByteArray := if n = 0 then ByteArray.empty else mD (n / 10) ++ ⟨#[UInt8.ofNat (48 + n % 10)]⟩
termination_by n
decreasing_by omega
theorem mD_zero : mD 0 = ByteArray.empty := by unfold mD; rfl
theorem mD_succ {n : Nat} (h : n ≠ 0) : mD n = mD (n / 10) ++ ⟨#[UInt8.ofNat (48 + n % 10)]⟩ := by
  conv => lhs; unfold mD
  rw [if_neg h]
theorem mD_size : ∀ (d n : Nat), n < 10 ^ d → (mD n).size ≤ d := by
  intro d
  induction d with
  | zero => intro n h; have : n = 0 := by simpa using h
            subst this; rw [mD_zero]; simp
  | succ d ih =>
    intro n h
    by_cases h0 : n = 0
    · subst h0; rw [mD_zero]; simp
    · rw [mD_succ h0]
      have := ih (n / 10) (by rw [Nat.pow_succ] at h; omega)
      simp only [ByteArray.size_append]
      show _ + 1 ≤ d + 1
      omega
/-- The text of the mark k. -/
def mT (k : Nat) : ByteArray := ⟨#[109]⟩ ++ mD k

theorem conv_one (w : World) (j : Nat) : (convert 81 9 (.slice (some ⟨w.heap.size, 0, none⟩) 1 1)).run Tryd.prog (w.alloc (.cells #[.int .u8 (48 + (j : Int) % 10)] 5)) = .ok (.string ⟨#[UInt8.ofNat (48 + j % 10)]⟩) (w.alloc (.cells #[.int .u8 (48 + (j : Int) % 10)] 5)) := by
  have hr := run_convert_bytes_back (P := Tryd.prog) (w.alloc (.cells #[.int .u8 (48 + (j : Int) % 10)] 5)) 81 9 5 ⟨w.heap.size, 0, none⟩ 1 [UInt8.ofNat (48 + j % 10)] Tryd.underlying81 Tryd.underlying5 Tryd.underlying9 (fun i hi => by
    have : i = 0 := by simpa using hi
    subst this
    have h := heap_alloc_new w (.cells #[.int .u8 (48 + (j : Int) % 10)] 5)
    show (w.alloc _).cell? ⟨w.heap.size, 0, none⟩ = _
    simp only [World.cell?, h]
    have e : ((UInt8.ofNat (48 + j % 10)).toNat : Int) = 48 + (j : Int) % 10 := by
      have : j % 10 < 10 := Nat.mod_lt _ (by decide)
      rw [UInt8.toNat_ofNat_of_lt' (by show _ < 256; omega)]
      omega
    simp [e]
    omega)
  exact hr
set_option maxRecDepth 100000 in
theorem c_markText {k : Nat} (h1 : 1 ≤ k) (h2 : k < 1000000000000) (w : World) : Calls Tryd.prog 35 #[.int .i64 k] w (fun e w' => e = .returned (.string (mT k)) ∧ Below w.heap.size w w') := by
  have k0 : ¬ (k : Int) ≤ 0 := by omega
  have hz := mD_size 12 k (by simpa using h2)
  go_enter Tryd.func35, Tryd.ntmps35
  go_wp2_with fail
  go_loopw [0, 3] (fun q o wr => ∃ (j : Nat) (b : ByteArray), q = .int .i64 (j : Int) ∧ o = .string b ∧ Hid (mD j ++ b = mD k) ∧ j ≤ k ∧ b.size ≤ 12 ∧ Below w.heap.size w wr) (fun q _ _ => (intOf q).toNat)
  case atStart => exact ⟨k, ⟨#[]⟩, rfl, rfl, Lib.hid (by show mD k ++ ByteArray.empty = mD k; simp), Nat.le_refl _, by decide, Below.refl _ _⟩
  case round =>
    obtain ⟨j, b, rfl, rfl, HE, hj, hb, hw⟩ := hrel
    by_cases hj0 : j = 0
    · subst hj0
      have HW := Lib.hid hw
      have HE0 := Lib.hid (show b = mD k by have := HE.out; rw [mD_zero] at this; simpa using this)
      go_wp2_with fail
      go_ret
      exact ⟨by rw [mT, ← HE0.out]; rfl, HW.out⟩
    · have j0 : (0 : Int) < (j : Int) := by omega
      have hconv := conv_one wr j
      obtain ⟨d, hd⟩ : ∃ d, d = UInt8.ofNat (48 + j % 10) := ⟨_, rfl⟩
      rw [← hd] at hconv
      have HE2 := Lib.hid (show mD (j / 10) ++ (⟨#[d]⟩ ++ b) = mD k by rw [← HE.out, mD_succ hj0, hd, ByteArray.append_assoc])
      have hb2 : (mD (j / 10)).size + (1 + b.size) = (mD k).size := by
        have := congrArg ByteArray.size HE2.out
        simp only [ByteArray.size_append] at this
        exact this
      have HW := Lib.hid hw
      have HB2 := Lib.hid (show 1 + b.size ≤ 12 by omega)
      clear hd hb2 hw hz
      go_wp2_with fail
      refine ⟨⟨j / 10, ⟨#[d]⟩ ++ b, by rw [show ((j / 10 : Nat) : Int) = (j : Int) / 10 by omega], rfl, HE2, by omega, by rw [ByteArray.size_append]; exact HB2.out, bel_next HW.out (bel_alloc (Below.refl _ _) _)⟩, by simp [intOf]; omega⟩
end Go.Proofs.YtjlpmfimbgbcmaaDoor
