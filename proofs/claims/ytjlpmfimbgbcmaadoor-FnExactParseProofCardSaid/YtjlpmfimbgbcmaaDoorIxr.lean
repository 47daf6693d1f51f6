/-
  strings.IndexRune of a rune beyond ASCII in ";/\n".
-/
import Derived.Test.YtjlpmfimbgbcmaaDoorShl
import Derived.Laws.Runes
import Derived.Laws.RangeAny
import Derived.Laws.RangeString
import Derived.Lib.Bytealg
import Derived.WalkMore
namespace Go.Proofs.YtjlpmfimbgbcmaaDoor
open Go.RowKit Go.Shelf

def C3 : ByteArray := ⟨#[59, 47, 10]⟩

theorem c_ValidRune {r : Int} (h : validRune r = true) (w : World) : Calls Tryd.prog 129 #[.int .i32 r] w (fun e w' => e = .returned (.bool true) ∧ w' = w) := by
  have h1 : (0 ≤ r ∧ r < 55296) ∨ (57343 < r ∧ r ≤ 1114111) := by simpa [validRune] using h
  go_enter Tryd.func129, Tryd.ntmps129
  rcases h1 with h1 | h1
  · have b1 : decide (r < 55296) = true := decide_eq_true h1.2
    have b2 : decide (0 ≤ r) = true := decide_eq_true h1.1
    go_wp2
    go_ret
    exact ⟨rfl, rfl⟩
  · have b1 : decide (r < 55296) = false := decide_eq_false (by omega)
    have b2 : decide (0 ≤ r) = true := decide_eq_true (by omega)
    have b3 : decide (57343 < r) = true := decide_eq_true h1.1
    have b4 : decide (r ≤ 1114111) = true := decide_eq_true h1.2
    go_wp2
    go_ret
    exact ⟨rfl, rfl⟩

set_option maxRecDepth 100000 in
theorem ixr_err (w : World) : Calls Tryd.prog 111 #[.string C3, .int .i32 65533] w (fun e w' => e = .returned (.int .i64 (-1)) ∧ Below w.heap.size w w') := by
  unfold C3
  go_enter Tryd.func111, Tryd.ntmps111
  go_wp2_with fail
  go_loopw [5, 6] (fun _ _ w' => ∃ pos : Nat, w' = w.iter C3 pos ∧ pos ≤ 3) (fun _ _ w' => 3 - w'.iterPos w.heap.size)
  case atStart => exact ⟨0, rfl, by omega⟩
  case round =>
    obtain ⟨pos, rfl, hle⟩ := hrel
    have h3 : pos = 0 ∨ pos = 1 ∨ pos = 2 ∨ pos = 3 := by omega
    rcases h3 with rfl | rfl | rfl | rfl
    · have hnx : ∀ ty, (Instr.next (.pointer (some ⟨w.heap.size, 0, none⟩)) true ty).run Tryd.prog (w.iter C3 0) = .ok (.tuple #[.bool true, .int .i64 0, .int .i32 59]) (w.iter C3 1) := fun ty => run_next_ascii w C3 0 ty (by decide) (by decide)
      have hm : 3 - (w.iter C3 1).iterPos w.heap.size < 3 - (w.iter C3 0).iterPos w.heap.size := by simp
      go_wp2_with fail
      go_roundw
      case rel => exact ⟨1, rfl, by omega⟩
      case measure => exact hm
    · have hnx : ∀ ty, (Instr.next (.pointer (some ⟨w.heap.size, 0, none⟩)) true ty).run Tryd.prog (w.iter C3 1) = .ok (.tuple #[.bool true, .int .i64 1, .int .i32 47]) (w.iter C3 2) := fun ty => run_next_ascii w C3 1 ty (by decide) (by decide)
      have hm : 3 - (w.iter C3 2).iterPos w.heap.size < 3 - (w.iter C3 1).iterPos w.heap.size := by simp
      go_wp2_with fail
      go_roundw
      case rel => exact ⟨2, rfl, by omega⟩
      case measure => exact hm
    · have hnx : ∀ ty, (Instr.next (.pointer (some ⟨w.heap.size, 0, none⟩)) true ty).run Tryd.prog (w.iter C3 2) = .ok (.tuple #[.bool true, .int .i64 2, .int .i32 10]) (w.iter C3 3) := fun ty => run_next_ascii w C3 2 ty (by decide) (by decide)
      have hm : 3 - (w.iter C3 3).iterPos w.heap.size < 3 - (w.iter C3 2).iterPos w.heap.size := by simp
      go_wp2_with fail
      go_roundw
      case rel => exact ⟨3, rfl, by omega⟩
      case measure => exact hm
    · have hnx : ∀ ty, (Instr.next (.pointer (some ⟨w.heap.size, 0, none⟩)) true ty).run Tryd.prog (w.iter C3 3) = .ok (.tuple #[.bool false]) (w.iter C3 3) := fun ty => run_next_end w C3 3 ty (by decide)
      have hb : Below w.heap.size w (w.iter C3 3) := (Below.refl _ w).alloc (Nat.le_refl _) _
      go_wp2_with fail
      go_ret
      exact ⟨rfl, hb⟩

theorem C3_ascii : ∀ b ∈ C3.data.toList, b.toNat < 128 := by decide

shelf_lay Lays.n217 Nm 217 at Tryd as lays217
theorem ixb (t : ByteArray) (ht : ∀ b ∈ t.data.toList, b.toNat < 128) {c : UInt8} (hc : 128 ≤ c.toNat) (w : World) : Calls Tryd.prog 128 #[.string t, .int .u8 (c.toNat : Int)] w (fun e w' => e = .returned (.int .i64 (-1)) ∧ w' = w) := by
  have hf : firstIdx t c = -1 := firstIdx_none t c (fun b hb e => by have := ht b hb; rw [e] at this; omega)
  clear ht
  have hx := Any.stringslite_IndexByte lays217 t (c.toNat : Int) w
  rw [show ((c.toNat : Int)).toNat.toUInt8 = c from by simp, ← Lib.firstIdx_eq, hf] at hx
  have HX := Lib.hid hx
  clear hx
  go_enter Tryd.func128, Tryd.ntmps128
  go_wp2_with fail
  refine HX.out.mono ?_
  rintro e w' ⟨rfl, rfl⟩
  go_wp2_with fail
  go_ret
  exact ⟨rfl, rfl⟩

set_option maxRecDepth 100000 in
theorem ixr_rune {r : Int} (h : validRune r = true) (h0 : 128 ≤ r) (he : r ≠ 65533) (w : World) : Calls Tryd.prog 111 #[.string C3, .int .i32 r] w (fun e w' => e = .returned (.int .i64 (-1)) ∧ Below w.heap.size w w') := by
  obtain ⟨E, hE⟩ : ∃ E, E = Utf8.encode r := ⟨_, rfl⟩
  have hf := encode_facts r (by rw [validRune_eq]; exact h) h0
  rw [← hE] at hf
  have HV := Lib.hid (fun w => c_ValidRune h w)
  have HE := Lib.hid hE
  have hcv : ∀ w, (convert 21 9 (.int .i32 r)).run Tryd.prog w = .ok (.string E) w := fun w => by rw [hE]; exact run_convert_int_string w 21 9 .i32 r (by rw [Tryd.underlying21]; rfl) Tryd.underlying9
  clear hE
  obtain ⟨f1, f2, f3⟩ := hf
  have b1 : decide (0 ≤ r) = true := decide_eq_true (by omega)
  have b2 : decide (r < 128) = false := decide_eq_false (by omega)
  have b3 : (r == 65533) = false := beq_eq_false_iff_ne.2 he
  have hsz : E.size = 2 ∨ E.size = 3 ∨ E.size = 4 := by omega
  unfold C3
  go_enter Tryd.func111, Tryd.ntmps111
  go_wp2_with fail
  refine (HV.out _).mono ?_
  rintro e w' ⟨rfl, rfl⟩
  go_wp2_with fail
  go_step3
  go_wp2_with fail
  go_loopw [9] (fun v wr => wr = w' ∧ v = .int .i64 ((E.size : Int) - 1)) (fun _ _ => 0)
  case atStart => exact ⟨rfl, rfl⟩
  case round =>
    obtain ⟨rfl, rfl⟩ := hrel
    rcases hsz with hs | hs | hs
    · have h1 : 1 < E.size := by omega
      have hl : 128 ≤ (E[1]'h1).toNat := by
        have := f3 (by omega)
        simpa [hs] using this
      have hn : (((((⟨#[59, 47, 10]⟩ : ByteArray)[1]'(by decide)).toNat : Nat) : Int) != (((E[1]'h1).toNat : Nat) : Int)) = true := by
        have e : ((⟨#[59, 47, 10]⟩ : ByteArray)[1]'(by decide)).toNat = 47 := rfl
        rw [e]
        exact bne_iff_ne.2 (by omega)
      have hw2 : IntKind.i64.wrap 2 = 2 := by decide
      have hw3 : IntKind.i64.wrap 3 = 3 := by decide
      have HIX := Lib.hid (fun t ht w => ixb t ht hl w)
      clear hl
      go_wp2_with fail
      go_step3
      go_wp2_with fail
      go_quiet (fail)
      obtain ⟨wq, hq⟩ : ∃ wq, wq = wr.drewN nq := ⟨_, rfl⟩
      rw [← hq]
      have hd : Drawn wr wq := by subst hq; exact Drawn.step (Drawn.refl _) _
      clear hq
      go_wp2_with fail
      go_quiet ((go_at_call 128; exact Calls.quiet_of_same (HIX.out _ (by decide) _)))
      go_wp2_with fail
      rw [Exit.noGoto_ret]
      go_wp2_with fail
      try rw [Exit.noGoto_ret]
      go_ret
      exact ⟨rfl, (Drawn.step hd _).below _⟩
    · have h1 : 2 < E.size := by omega
      have hl : 128 ≤ (E[2]'h1).toNat := by
        have := f3 (by omega)
        simpa [hs] using this
      have hn : (((((⟨#[59, 47, 10]⟩ : ByteArray)[2]'(by decide)).toNat : Nat) : Int) != (((E[2]'h1).toNat : Nat) : Int)) = true := by
        have e : ((⟨#[59, 47, 10]⟩ : ByteArray)[2]'(by decide)).toNat = 10 := rfl
        rw [e]
        exact bne_iff_ne.2 (by omega)
      have hw2 : IntKind.i64.wrap 2 = 2 := by decide
      have hw3 : IntKind.i64.wrap 3 = 3 := by decide
      have HIX := Lib.hid (fun t ht w => ixb t ht hl w)
      clear hl
      go_wp2_with fail
      go_step3
      go_wp2_with fail
      go_quiet (fail)
      obtain ⟨wq, hq⟩ : ∃ wq, wq = wr.drewN nq := ⟨_, rfl⟩
      rw [← hq]
      have hd : Drawn wr wq := by subst hq; exact Drawn.step (Drawn.refl _) _
      clear hq
      go_wp2_with fail
      go_quiet ((go_at_call 128; exact Calls.quiet_of_same (HIX.out _ (by decide) _)))
      go_wp2_with fail
      rw [Exit.noGoto_ret]
      go_wp2_with fail
      try rw [Exit.noGoto_ret]
      go_ret
      exact ⟨rfl, (Drawn.step hd _).below _⟩
    · go_wp2_with fail
      rw [Exit.noGoto_ret]
      go_ret
      exact ⟨rfl, Below.refl _ _⟩

theorem c_ixr {r : Int} (h : validRune r = true) (h0 : 128 ≤ r) (w : World) : Calls Tryd.prog 111 #[.string C3, .int .i32 r] w (fun e w' => e = .returned (.int .i64 (-1)) ∧ Below w.heap.size w w') := by
  by_cases he : r = 65533
  · subst he; exact ixr_err w
  · exact ixr_rune h h0 he w
end Go.Proofs.YtjlpmfimbgbcmaaDoor
