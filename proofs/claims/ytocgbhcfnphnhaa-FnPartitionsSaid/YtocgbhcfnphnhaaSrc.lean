/-
  The drawing functions' source of numbers: l01From, l01Next, l01Pick, l01Count, l01Maps.
-/
import Derived.Test.YtocgbhcfnphnhaaSz
import Derived.Test.YtocgbhcfnphnhaaSets1
import Derived.Test.YtocgbhcfnphnhaaApp
import Derived.Laws.BitsAllLaws
import Derived.Laws.Bits64
namespace Go.Proofs.Ytocgbhcfnphnhaa
open Go.RowKit

/-- Block p holds a source of numbers. -/
structure Src (w : World) (p : Nat) : Prop where
  ex : ∃ (ac : Option Addr) (len cap bc oc at' : Nat) (h : Int) (f : Nat → Value) (b : Nat → Int), w.rowIs p 78 3 f ∧ f 0 = .slice ac len cap ∧ f 1 = .int .i64 at' ∧ f 2 = .int .u64 h ∧ (0 ≤ h ∧ h ≤ 18446744073709551615) ∧ at' ≤ len ∧ len ≤ 4096 ∧ (0 < len → ac = some ⟨bc, oc, none⟩ ∧ bc < p) ∧
    ∀ i, i < len → w.cell? ⟨bc, oc + i, none⟩ = some (.int .u8 (b i)) ∧ 0 ≤ b i ∧ b i ≤ 255
theorem Src.lt {w : World} {p : Nat} (h : Src w p) : p < w.heap.size := by
  obtain ⟨ac, len, cap, bc, oc, at', h', f, b, hr, -⟩ := h.ex
  exact hr.lt
theorem Src.kept {w w' : World} {p B T : Nat} (h : Src w p) (hb : Within B T w w') (hd : p < B) : Src w' p := by
  obtain ⟨ac, len, cap, bc, oc, at', h', f, b, hr, h0, h1, h2, h3, h4, h5, h6, h7⟩ := h.ex
  refine ⟨ac, len, cap, bc, oc, at', h', f, b, hr.of_block (hb.block p (by omega) hr.lt), h0, h1, h2, h3, h4, h5, h6, fun i hi => ⟨?_, (h7 i hi).2⟩⟩
  have hc := (h7 i hi).1
  have := (h6 (by omega)).2
  have e := hb.block bc (by omega) (World.block_lt_of_cell? w _ hc)
  have ec : w'.cell? ⟨bc, oc + i, none⟩ = w.cell? ⟨bc, oc + i, none⟩ := by simp only [World.cell?, e]
  rw [ec]; exact hc
theorem Src.keptB {w w' : World} {p : Nat} (h : Src w p) (hb : Below w.heap.size w w') : Src w' p := h.kept (below_within hb w.heap.size) h.lt
theorem u64_bd (y : Int) : 0 ≤ IntKind.u64.wrap y ∧ IntKind.u64.wrap y ≤ 18446744073709551615 := by
  rw [IntKind.wrap_u64]; omega
theorem roll_bd (y : Int) : ∃ x : Int, wrap64 (bits BinOp.and IntKind.u64 (IntKind.u64.wrap y / 8589934592) 16777215) = x ∧ 0 ≤ x ∧ x ≤ 16777215 := by
  have hy := u64_bd y
  generalize IntKind.u64.wrap y = z at *
  rw [u64_and (z / 8589934592) 16777215 (by omega) (by omega) (by omega) (by omega)]
  have h := Nat.and_le_right (n := (z / 8589934592).toNat) (m := (16777215 : Int).toNat)
  refine ⟨_, rfl, ?_, ?_⟩ <;> (unfold wrap64; omega)
theorem within_cellS {B T : Nat} {w w' : World} (h : Within B T w w') {b i : Nat} {v : Value} (hc : w.cell? ⟨b, i, none⟩ = some v) (hd : b < B ∨ T ≤ b) : w'.cell? ⟨b, i, none⟩ = some v := by
  have e := h.block b hd (World.block_lt_of_cell? w ⟨b, i, none⟩ hc)
  have ec : w'.cell? ⟨b, i, none⟩ = w.cell? ⟨b, i, none⟩ := by simp only [World.cell?, e]
  rw [ec]; exact hc
theorem Src.of {w W : World} {p : Nat} {ac : Option Addr} {len cap bc oc at' : Nat} {h : Int} {b : Nat → Int} {f : Nat → Value} (hr : W.rowIs p 78 3 f) (h0 : f 0 = .slice ac len cap) (h1 : f 1 = .int .i64 at') (h2 : f 2 = .int .u64 h) (h3 : 0 ≤ h ∧ h ≤ 18446744073709551615) (h4 : at' ≤ len) (h5 : len ≤ 4096) (h6 : 0 < len → ac = some ⟨bc, oc, none⟩ ∧ bc < p)
    (h7 : ∀ i, i < len → w.cell? ⟨bc, oc + i, none⟩ = some (.int .u8 (b i)) ∧ 0 ≤ b i ∧ b i ≤ 255) (hw : Within p (p + 1) w W) : Src W p :=
  ⟨ac, len, cap, bc, oc, at', h, f, b, hr, h0, h1, h2, h3, h4, h5, h6, fun i hi => ⟨within_cellS hw (h7 i hi).1 (.inl (h6 (by omega)).2), (h7 i hi).2⟩⟩
theorem c_l01Next {w : World} {p : Nat} (h : Src w p) (n : Int) (hn : I64 n) :
    Calls Try.prog 39 #[.pointer (some ⟨p, 0, none⟩), .int .i64 n] w (fun e w' => ∃ k : Int, e = .returned (.int .i64 k) ∧ 0 ≤ k ∧ (1 ≤ n → k < n) ∧ Src w' p ∧ Within p (p + 1) w w') := by
  have hn1 := hn.1
  have hn2 := hn.2
  have HS := Lib.hid h
  obtain ⟨ac, len, cap, bc, oc, at', h', f, b, hr, h0, h1, h2, h3, h4, h5, h6, h7⟩ := h.ex
  have H7 := Lib.hid h7
  have hp := hr.lt
  have c0 := hr.cell (show 0 < 3 by omega)
  have c1 := hr.cell (show 1 < 3 by omega)
  have c2 := hr.cell (show 2 < 3 by omega)
  rw [h0] at c0
  rw [h1] at c1
  rw [h2] at c2
  have f1 := hr.frozen 1
  have f2 := hr.frozen 2
  clear h h7 hn
  by_cases hn0 : n < 1
  · have hb : decide (n < 1) = true := decide_eq_true hn0
    go_enter Try.func39, Try.ntmps39
    go_wp2_with fail
    go_ret
    exact ⟨0, rfl, by omega, by omega, HS.out, Within.refl _ _ _⟩
  · have hb : decide (n < 1) = false := decide_eq_false hn0
    go_enter Try.func39, Try.ntmps39
    go_wp2_with fail
    obtain ⟨X, hX, hX0, hX1⟩ := roll_bd (IntKind.u64.wrap (h' * 6364136223846793005) + 1442695040888963407)
    rw [hX]
    have hH := u64_bd (IntKind.u64.wrap (h' * 6364136223846793005) + 1442695040888963407)
    generalize wrap64 (bits BinOp.and IntKind.u64 (IntKind.u64.wrap (IntKind.u64.wrap (h' * 6364136223846793005) + 1442695040888963407) / 8589934592) 16777215) = X' at *
    subst hX
    generalize IntKind.u64.wrap (IntKind.u64.wrap (h' * 6364136223846793005) + 1442695040888963407) = H at *
    have r1 := hr.set 2 (.int .u64 H)
    have m1 : Within p (p + 1) w (w.setCell ⟨p, 2, none⟩ (.int .u64 H)) := (Within.refl p (p + 1) w).setCell (p := ⟨p, 2, none⟩) (Nat.le_refl _) (Nat.lt_succ_self _) _
    have d0 := r1.cell (show 0 < 3 by omega)
    have d1 := r1.cell (show 1 < 3 by omega)
    simp only [show (0 : Nat) ≠ 2 by omega, show (1 : Nat) ≠ 2 by omega, if_false, h0, h1] at d0 d1
    have g1 := r1.frozen 1
    clear c0 c1 c2 f1 f2 hr
    generalize w.setCell ⟨p, 2, none⟩ (.int .u64 H) = W1 at *
    by_cases hat : at' < len
    · have hab : decide ((at' : Int) < (len : Int)) = true := decide_eq_true (by omega)
      obtain ⟨rfl, hbp⟩ := h6 (by omega)
      obtain ⟨cb, hb0, hb1⟩ := H7.out at' hat
      have cb1 := within_cellS m1 cb (.inl hbp)
      have i0 : (0 : Int) ≤ (at' : Int) := by omega
      have i1 : (at' : Int) < (len : Int) := by omega
      clear cb
      go_wp2_with fail
      go_quiet (fail)
      go_wp2_with fail
      go_quiet (fail)
      go_wp2_with fail
      go_ret
      refine ⟨_, rfl, Int.emod_nonneg _ (by omega), fun _ => Int.emod_lt_of_pos _ (by omega), ?_, ?_⟩
      · exact Src.of (w := w) (cap := cap) (at' := at' + 1) (ac := some ⟨bc, oc, none⟩) (bc := bc) (oc := oc) ((r1.set 1 (.int .i64 (((at' + 1 : Nat)) : Int))).of_block rfl) (by simp [h0]) (by simp) (by simp) hH (by omega) h5 (fun _ => ⟨rfl, hbp⟩) H7.out
          (Within.setCell (w := W1.drewN _) (m1.trans ⟨rfl, rfl, rfl, Nat.le_refl _, fun _ _ _ => rfl⟩) (p := ⟨p, 1, none⟩) (Nat.le_refl _) (Nat.lt_succ_self _) _)
      · exact Within.setCell (w := W1.drewN _) (m1.trans ⟨rfl, rfl, rfl, Nat.le_refl _, fun _ _ _ => rfl⟩) (p := ⟨p, 1, none⟩) (Nat.le_refl _) (Nat.lt_succ_self _) _
    · have hab : decide ((at' : Int) < (len : Int)) = false := decide_eq_false (by omega)
      go_wp2_with fail
      go_quiet (fail)
      go_wp2_with fail
      go_ret
      exact ⟨_, rfl, Int.emod_nonneg _ (by omega), fun _ => Int.emod_lt_of_pos _ (by omega), Src.of (w := w) (cap := cap) (at' := at') (r1.of_block rfl) (by simp [h0]) (by simp [h1]) (by simp) hH h4 h5 h6 H7.out (m1.trans ⟨rfl, rfl, rfl, Nat.le_refl _, fun _ _ _ => rfl⟩), m1.trans ⟨rfl, rfl, rfl, Nat.le_refl _, fun _ _ _ => rfl⟩⟩
/-- A draw's end: a number. -/
def Dn (w : World) (p : Nat) (R : Int → Prop) : Ending → World → Prop := fun e w' => ∃ k : Int, e = .returned (.int .i64 k) ∧ R k ∧ Src w' p ∧ Within p (p + 1) w w'
/-- A draw's end: a list. -/
def Dl (E : TypeId) (w : World) (p : Nat) (R : List Int → Prop) : Ending → World → Prop := fun e w' => ∃ u xs, e = .returned u ∧ R xs ∧ OwnT E w.heap.size w'.heap.size w' u xs ∧ Src w' p ∧ Within p (p + 1) w w'
theorem Within.bel {B T : Nat} {w w' w'' : World} (h : Within B T w w') (hb : Below w'.heap.size w' w'') : Within B T w w'' :=
  h.trans ⟨hb.os, hb.tape, hb.output, hb.size, fun k _ hk => hb.block k hk⟩
theorem Within.al {B T : Nat} {w w' : World} (h : Within B T w w') (o : Obj) : Within B T w (w'.alloc o) := h.bel (bel_alloc (Below.refl _ _) o)
theorem c_l01Pick {w : World} {p : Nat} (h : Src w p) {v : Value} {xs : List Int} (hv : IS w v xs) (hl : 0 < xs.length) (hd : ∀ ao n c, v = .slice ao n c → ∀ a, ao = some a → a.block ≠ p) :
    Calls Try.prog 40 #[.pointer (some ⟨p, 0, none⟩), v] w (Dn w p (· ∈ xs)) := by
  have HN := Lib.hid (c_l01Next h (xs.length : Int) (by have := hv.len; constructor <;> omega))
  have hlen := hv.len
  obtain ⟨ao, b, o, c, rfl, ha, hc⟩ := hv.ex
  obtain rfl := ha hl
  have hbp : b ≠ p := hd _ _ _ rfl _ rfl
  have HC := Lib.hid hc
  clear h hv ha hc hd
  go_enter Try.func40, Try.ntmps40
  go_wp2_with fail
  refine HN.out.mono ?_
  rintro e w1 ⟨k, rfl, k0, k1, hs, hw⟩
  have k1' := k1 (by omega)
  obtain ⟨q, rfl⟩ := Int.eq_ofNat_of_zero_le k0
  have cq := within_cellS hw (HC.out q (by omega)) (by omega)
  have HS := Lib.hid hs
  have HW := Lib.hid hw
  clear hs hw k1 HN
  go_wp2_with fail
  go_ret
  exact ⟨_, rfl, gi_mem (by omega), HS.out, HW.out⟩
end Go.Proofs.Ytocgbhcfnphnhaa
