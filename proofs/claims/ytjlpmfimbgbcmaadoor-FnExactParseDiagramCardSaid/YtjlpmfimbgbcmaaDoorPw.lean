/-
  The law of ParseDiagram: the walk.
-/
import Derived.Test.YtjlpmfimbgbcmaaDoorPv
namespace Go.Proofs.YtjlpmfimbgbcmaaDoor
open Go.RowKit

theorem pdR_len (T : ByteArray) : (pdR T).1.length ≤ 40 := by
  unfold pdR
  split
  · simp only
    split
    · split
      · assumption
      · exact Nat.zero_le _
    · exact Nat.zero_le _
  · exact Nat.zero_le _
set_option maxRecDepth 1000000 in
set_option maxHeartbeats 1600000 in
theorem law_ParseDiagram {w : World} {T : ByteArray} {E : Value} (hE : ErrIn w E) (hT63 : T.size ≤ 9223372036854775807) : Calls Tryd.prog 5 #[.string T] w (Ret w (.bool true)) := by
  by_cases hbig : 1048576 < T.size
  · have b1 : decide ((1048576 : Int) < (T.size : Int)) = true := decide_eq_true (by omega)
    have b1' : decide (1048576 < T.size) = true := decide_eq_true hbig
    go_enter Tryd.func5, Tryd.ntmps5
    go_wp2_with fail
    go_ret
    exact ⟨rfl, Below.refl _ _⟩
  · have b1 : decide ((1048576 : Int) < (T.size : Int)) = false := decide_eq_false (by omega)
    have b1' : decide (1048576 < T.size) = false := decide_eq_false hbig
    have HS := Lib.hid (s_ParseDiagram (w := w) (T := T))
    have HI := Lib.hid (fun (W : World) (h : ErrIn W E) => i_ParseDiagram (T := T) h (by omega))
    have hl := pdR_len T
    obtain ⟨R, hR⟩ : ∃ R, R = pdR T := ⟨_, rfl⟩
    rw [← hR] at HS HI hl
    clear hR
    obtain ⟨L, x, y⟩ := R
    have hl2 : L.length ≤ 40 := hl
    have hx : (x != x) = false := by simp
    have hy : (y != y) = false := by simp
    have HE := Lib.hid hE
    clear hl hE
    go_enter Tryd.func5, Tryd.ntmps5
    go_wp2_with fail
    refine HS.out.mono ?_
    rintro e w1 ⟨s, rfl, os, b01⟩
    have hE1 := HE.out.below b01
    obtain ⟨ao, cs, rfl⟩ := os.shape
    have HOS := Lib.hid (os : OwnP 73 w1 w.heap.size _ L)
    have HB1 := Lib.hid b01
    have HE1 := Lib.hid hE1
    clear os b01 hE1
    go_wp2_with fail
    refine (HI.out w1 HE1.out).mono ?_
    rintro e w2 ⟨i, rfl, oi, b12⟩
    obtain ⟨ai, ci, rfl⟩ := oi.shape
    have HOI := Lib.hid (oi : OwnP 73 w2 w1.heap.size _ L)
    have HB2 := Lib.hid b12
    clear oi b12
    go_wp2_with fail
    refine (c_eqDNS HOI.out.nv (HOS.out.keptB HB2.out).nv (by omega)).mono ?_
    rintro e w3 ⟨rfl, b23⟩
    have HB3 := Lib.hid b23
    clear b23
    go_wp2_with fail
    refine (c_markDNS (HOI.out.keptB HB3.out) (by omega)).mono ?_
    rintro e w4 ⟨rfl, nv4, i34⟩
    have HN4 := Lib.hid nv4
    have HI4 := Lib.hid i34
    have s13 : w1.heap.size ≤ w3.heap.size := Nat.le_trans HB2.out.size HB3.out.size
    have B4 := Lib.hid (HI4.out.below (bel_next HB1.out (bel_next HB2.out HB3.out)) HB1.out.size (Nat.le_refl _))
    have S4 := Lib.hid (show NV w4 (.slice ao L.length cs) L.length (fd L) from (show OwnP 73 w4 w.heap.size _ L from ownsRow_within ((HOS.out.keptB HB2.out).keptB HB3.out) HI4.out (fun k hk => .inl (HOS.out.lt k hk).2)).nv)
    clear nv4 i34
    go_wp2_with fail
    refine (c_heldDNS HN4.out (by omega)).mono ?_
    rintro e w5 ⟨rfl, d45⟩
    have HB5 := Lib.hid (d45.below w4.heap.size)
    have B5 := Lib.hid (bel_next B4.out HB5.out)
    have g1 : decide ((L.length : Int) * 2 + 1 < 0) = false := decide_eq_false (by omega)
    have g2 : ((L.length : Int) * 2 + 1 != (L.length : Int) * 2 + 1) = false := by simp
    clear d45
    go_wp2_with fail
    refine (HI.out w5 (HE.out.below B5.out)).mono ?_
    rintro e w6 ⟨i2, rfl, oi2, b56⟩
    obtain ⟨ai2, ci2, rfl⟩ := oi2.shape
    have HO6 := Lib.hid (oi2 : OwnP 73 w6 w5.heap.size _ L)
    have HB6 := Lib.hid (bel_next HB5.out b56)
    have B6 := Lib.hid (bel_next B4.out HB6.out)
    clear oi2 b56
    go_wp2_with fail
    refine (c_eqDNS HO6.out.nv (S4.out.kept HB6.out) (by omega)).mono ?_
    rintro e w7 ⟨rfl, b67⟩
    have HB7 := Lib.hid (bel_next HB6.out b67)
    have B7 := Lib.hid (bel_next B4.out HB7.out)
    clear b67
    go_wp2_with fail
    refine (c_heldDNS (HN4.out.kept HB7.out) (by omega)).mono ?_
    rintro e w8 ⟨rfl, d78⟩
    have B8 := Lib.hid (bel_next B7.out (d78.below w7.heap.size))
    clear d78
    go_wp2_with fail
    go_ret
    exact ⟨rfl, B8.out⟩
end Go.Proofs.YtjlpmfimbgbcmaaDoor
