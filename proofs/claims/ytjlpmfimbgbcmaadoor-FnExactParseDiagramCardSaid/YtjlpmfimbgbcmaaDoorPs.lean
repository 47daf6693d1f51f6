/-
  The reference's reader of diagrams: one byte, the value of digits, a number.
-/
import Derived.Test.YtjlpmfimbgbcmaaDoorPdi
namespace Go.Proofs.YtjlpmfimbgbcmaaDoor
open Go.RowKit

/-- The reference's reader in block b. -/
def RZ (w : World) (b : Nat) (T : ByteArray) (k : Nat) (f : Bool) : Prop := w.rowIs b 64 3 (fun i => if i = 0 then .string T else if i = 1 then .int .i64 (k : Int) else .bool f)
theorem RZ.facts {w : World} {b : Nat} {T : ByteArray} {k : Nat} {f : Bool} (h : RZ w b T k f) : w.cell? ⟨b, 0, none⟩ = some (.string T) ∧ w.cell? ⟨b, 1, none⟩ = some (.int .i64 (k : Int)) ∧ w.cell? ⟨b, 2, none⟩ = some (.bool f) ∧ w.frozen? ⟨b, 1, none⟩ = false ∧ w.frozen? ⟨b, 2, none⟩ = false :=
  ⟨World.rowIs.cell h (show 0 < 3 by omega), World.rowIs.cell h (show 1 < 3 by omega), World.rowIs.cell h (show 2 < 3 by omega), World.rowIs.frozen h _, World.rowIs.frozen h _⟩
theorem RZ.drawn {w : World} {b : Nat} {T : ByteArray} {k : Nat} {f : Bool} (h : RZ w b T k f) (n : Nat) : RZ (w.drewN n) b T k f := World.rowIs.of_block h rfl
theorem RZ.below {w w' : World} {b : Nat} {T : ByteArray} {k : Nat} {f : Bool} (h : RZ w b T k f) (hb : Below w.heap.size w w') : RZ w' b T k f := World.rowIs.of_block h (hb.block _ (World.rowIs.lt h))
theorem RZ.lt {w : World} {b : Nat} {T : ByteArray} {k : Nat} {f : Bool} (h : RZ w b T k f) : b < w.heap.size := World.rowIs.lt h
theorem RZ.setAt {w : World} {b : Nat} {T : ByteArray} {k : Nat} {f : Bool} (h : RZ w b T k f) (j : Nat) : RZ (w.setCell ⟨b, 1, none⟩ (.int .i64 (j : Int))) b T j f :=
  (World.rowIs.set h 1 _).congr fun i _ => by by_cases e : i = 1 <;> simp [e]
theorem RZ.setF {w : World} {b : Nat} {T : ByteArray} {k : Nat} {f : Bool} (h : RZ w b T k f) (g : Bool) : RZ (w.setCell ⟨b, 2, none⟩ (.bool g)) b T k g :=
  (World.rowIs.set h 2 _).congr fun i hi => by
    by_cases e : i = 2
    · simp [e]
    · have : i = 0 ∨ i = 1 := by omega
      rcases this with rfl | rfl <;> simp
def nxF (T : ByteArray) (k : Nat) (f : Bool) (c : Nat) : Bool := decide (f = false ∧ k < T.size ∧ bA T k = c)
theorem nf_is {w w' : World} {T : ByteArray} {k c : Nat} {f v : Bool} (h : v = nxF T k f c) (hd : Drawn w w') : Rd w (.bool (nxF T k f c)) (.returned (.bool v)) w' := ⟨by rw [h], hd⟩
set_option maxHeartbeats 1600000 in
theorem c_l35Next {w : World} {b : Nat} {T : ByteArray} {k : Nat} {f : Bool} (h : RZ w b T k f) (c : Nat) :
    Calls Tryd.prog 62 #[.pointer (some ⟨b, 0, none⟩), .int .u8 (c : Int)] w (Rd w (.bool (nxF T k f c))) := by
  obtain ⟨c0, c1, c2, f1, f2⟩ := h.facts
  clear h
  cases f with
  | false =>
    by_cases h2 : k < T.size
    · have b2 : decide ((k : Int) < (T.size : Int)) = true := decide_eq_true (by omega)
      have b2' : decide (k < T.size) = true := decide_eq_true h2
      have kp : (0 : Int) ≤ (k : Int) := by omega
      have kq : (k : Int) < (T.size : Int) := by omega
      by_cases h3 : bA T k = c
      · have b3 : ((T[k].toNat : Int) == (c : Int)) = true := by rw [bA_lt h2]; simp [h3]
        have b3' : (T[k].toNat == c) = true := by unfold bA at h3; rw [dif_pos h2] at h3; simp [h3]
        have HN := Lib.hid (show true = nxF T k false c from (decide_eq_true ⟨rfl, h2, h3⟩).symm)
        clear h3
        go_enter Tryd.func62, Tryd.ntmps62
        go_wp2_with fail
        go_quiet (fail)
        go_wp2_with fail
        go_ret
        exact nf_is HN.out ⟨_, rfl⟩
      · have b3 : ((T[k].toNat : Int) == (c : Int)) = false := by rw [bA_lt h2]; simp; omega
        have b3' : (T[k].toNat == c) = false := by unfold bA at h3; rw [dif_pos h2] at h3; simp [h3]
        have HN := Lib.hid (show false = nxF T k false c from (decide_eq_false (fun q => h3 q.2.2)).symm)
        clear h3
        go_enter Tryd.func62, Tryd.ntmps62
        go_wp2_with fail
        go_quiet (fail)
        go_wp2_with fail
        go_ret
        exact nf_is HN.out ⟨_, rfl⟩
    · have b2 : decide ((k : Int) < (T.size : Int)) = false := decide_eq_false (by omega)
      have b2' : decide (k < T.size) = false := decide_eq_false h2
      have HN := Lib.hid (show false = nxF T k false c from (decide_eq_false (fun q => h2 q.2.1)).symm)
      go_enter Tryd.func62, Tryd.ntmps62
      go_wp2_with fail
      go_quiet (fail)
      go_wp2_with fail
      go_ret
      exact nf_is HN.out ⟨_, rfl⟩
  | true =>
    have HN := Lib.hid (show false = nxF T k true c from (decide_eq_false (fun q => by cases q.1)).symm)
    go_enter Tryd.func62, Tryd.ntmps62
    go_wp2_with fail
    go_quiet (fail)
    go_wp2_with fail
    go_ret
    exact nf_is HN.out ⟨_, rfl⟩
def v01B (s : ByteArray) : Bool := decide (s.size ≤ 9) && !(decide (1 < s.size) && decide (bA s 0 = 48))
theorem dV_lt9 {s : ByteArray} (hd : ∀ i, i < s.size → 48 ≤ bA s i ∧ bA s i ≤ 57) : ∀ n, n ≤ 9 → n ≤ s.size → dV s 0 n < 10 ^ n
  | 0, _, _ => Nat.one_pos
  | n + 1, h6, hn => by
    have ih := dV_lt9 hd n (by omega) (by omega)
    have := hd n (by omega)
    rw [dV, Nat.zero_add, Nat.pow_succ]
    omega
def VP (s : ByteArray) (w : World) : Ending → World → Prop := Rd w (.int .i64 (if v01B s = true then (dV s 0 s.size : Int) else -1))
theorem vp_no {s : ByteArray} {w w' : World} (h : v01B s = false) (hd : Drawn w w') : VP s w (.returned (.int .i64 (-1))) w' := ⟨by rw [if_neg (by rw [h]; decide)], hd⟩
theorem vp_yes {s : ByteArray} {w w' : World} {p : Nat} (h : v01B s = true) (hp : p = s.size) (hd : Drawn w w') : VP s w (.returned (.int .i64 (dV s 0 p : Int))) w' := ⟨by rw [if_pos h, hp], hd⟩
set_option maxRecDepth 1000000 in
set_option maxHeartbeats 1600000 in
theorem c_l01Value {w : World} {s : ByteArray} (hs : 0 < s.size) (hs2 : s.size ≤ 200) (hd : ∀ i, i < s.size → 48 ≤ bA s i ∧ bA s i ≤ 57) :
    Calls Tryd.prog 54 #[.string s] w (VP s w) := by
  have HD := Lib.hid hd
  clear hd
  have b1 : ((s.size : Int) == 0) = false := by rw [beq_eq_false_iff_ne]; omega
  have b1' : (s.size == 0) = false := by rw [beq_eq_false_iff_ne]; omega
  by_cases h9 : 9 < s.size
  · have b2 : decide ((9 : Int) < (s.size : Int)) = true := decide_eq_true (by omega)
    have HN := Lib.hid (show v01B s = false by unfold v01B; rw [decide_eq_false (by omega), Bool.false_and])
    go_enter Tryd.func54, Tryd.ntmps54
    go_wp2_with fail
    go_ret
    exact vp_no HN.out (Drawn.refl _)
  · have b2 : decide ((9 : Int) < (s.size : Int)) = false := decide_eq_false (by omega)
    have hz : (0 : Int) < (s.size : Int) := by omega
    by_cases h1 : 1 < s.size
    · have b3 : decide ((1 : Int) < (s.size : Int)) = true := decide_eq_true (by omega)
      by_cases h4 : bA s 0 = 48
      · have b4 : ((s[0].toNat : Int) == 48) = true := by rw [bA_lt hs]; simp; omega
        have HN := Lib.hid (show v01B s = false by unfold v01B; rw [decide_eq_true h1, decide_eq_true h4]; simp)
        clear h4
        go_enter Tryd.func54, Tryd.ntmps54
        go_wp2_with fail
        go_ret
        exact vp_no HN.out (Drawn.refl _)
      · have b4 : ((s[0].toNat : Int) == 48) = false := by rw [bA_lt hs, beq_eq_false_iff_ne]; omega
        have HY := Lib.hid (show v01B s = true by unfold v01B; rw [decide_eq_false h4, decide_eq_true (by omega)]; simp)
        clear h4
        go_enter Tryd.func54, Tryd.ntmps54
        go_wp2_with fail
        go_loopw [3, 4] (fun v i wr => ∃ p : Nat, v = .int .i64 (dV s 0 p : Int) ∧ i = .int .i64 (p : Int) ∧ p ≤ s.size ∧ wr = w) (fun _ i _ => s.size - (intOf i).toNat)
        case atStart => exact ⟨0, rfl, rfl, Nat.zero_le _, rfl⟩
        case round =>
          obtain ⟨p, rfl, rfl, hp, rfl⟩ := hrel
          by_cases hlt : p < s.size
          · have d1 : decide ((p : Int) < (s.size : Int)) = true := decide_eq_true (by omega)
            have d1' : decide (p < s.size) = true := decide_eq_true hlt
            have p0 : (0 : Int) ≤ (p : Int) := by omega
            have p1 : (p : Int) < (s.size : Int) := by omega
            have hda := HD.out p hlt
            have e2 : decide ((s[p].toNat : Int) < 48) = false := decide_eq_false (by rw [bA_lt hlt]; omega)
            have e2' : decide (s[p].toNat < 48) = false := decide_eq_false (by have := bA_lt hlt; omega)
            have e3 : decide ((57 : Int) < (s[p].toNat : Int)) = false := decide_eq_false (by rw [bA_lt hlt]; omega)
            have e3' : decide (57 < s[p].toNat) = false := decide_eq_false (by have := bA_lt hlt; omega)
            have hu : IntKind.u8.wrap ((s[p].toNat : Int) - 48) = (bA s p : Int) - 48 := by
              rw [bA_lt hlt]
              exact IntWalk.u8_in _ (by omega)
            have hv := dV_lt9 HD.out p (by omega) hp
            have hv2 : 10 ^ p ≤ 10 ^ 9 := Nat.pow_le_pow_right (by decide) (by omega)
            have hw : wrap64 (wrap64 ((dV s 0 p : Int) * 10) + wrap64 ((bA s p : Int) - 48)) = ((dV s 0 (p + 1) : Nat) : Int) := by
              rw [dV, Nat.zero_add]
              unfold wrap64
              omega
            have HW := Lib.hid hw
            clear hv hv2 hw hda
            go_wp2_with fail
            go_roundw
            case rel => exact ⟨p + 1, by rw [HW.out], rfl, by omega, trivial⟩
            case measure => simp [intOf]; omega
          · have d1 : decide ((p : Int) < (s.size : Int)) = false := decide_eq_false (by omega)
            have d1' : decide (p < s.size) = false := decide_eq_false hlt
            go_wp2_with fail
            go_ret
            exact vp_yes HY.out (by omega) (Drawn.refl _)
    · have b3 : decide ((1 : Int) < (s.size : Int)) = false := decide_eq_false (by omega)
      have HY := Lib.hid (show v01B s = true by unfold v01B; rw [decide_eq_false h1, decide_eq_true (by omega)]; simp)
      go_enter Tryd.func54, Tryd.ntmps54
      go_wp2_with fail
      go_loopw [3, 4] (fun v i wr => ∃ p : Nat, v = .int .i64 (dV s 0 p : Int) ∧ i = .int .i64 (p : Int) ∧ p ≤ s.size ∧ wr = w) (fun _ i _ => s.size - (intOf i).toNat)
      case atStart => exact ⟨0, rfl, rfl, Nat.zero_le _, rfl⟩
      case round =>
        obtain ⟨p, rfl, rfl, hp, rfl⟩ := hrel
        by_cases hlt : p < s.size
        · have d1 : decide ((p : Int) < (s.size : Int)) = true := decide_eq_true (by omega)
          have d1' : decide (p < s.size) = true := decide_eq_true hlt
          have p0 : (0 : Int) ≤ (p : Int) := by omega
          have p1 : (p : Int) < (s.size : Int) := by omega
          have hda := HD.out p hlt
          have e2 : decide ((s[p].toNat : Int) < 48) = false := decide_eq_false (by rw [bA_lt hlt]; omega)
          have e2' : decide (s[p].toNat < 48) = false := decide_eq_false (by have := bA_lt hlt; omega)
          have e3 : decide ((57 : Int) < (s[p].toNat : Int)) = false := decide_eq_false (by rw [bA_lt hlt]; omega)
          have e3' : decide (57 < s[p].toNat) = false := decide_eq_false (by have := bA_lt hlt; omega)
          have hu : IntKind.u8.wrap ((s[p].toNat : Int) - 48) = (bA s p : Int) - 48 := by
            rw [bA_lt hlt]
            exact IntWalk.u8_in _ (by omega)
          have hv := dV_lt9 HD.out p (by omega) hp
          have hv2 : 10 ^ p ≤ 10 ^ 9 := Nat.pow_le_pow_right (by decide) (by omega)
          have hw : wrap64 (wrap64 ((dV s 0 p : Int) * 10) + wrap64 ((bA s p : Int) - 48)) = ((dV s 0 (p + 1) : Nat) : Int) := by
            rw [dV, Nat.zero_add]
            unfold wrap64
            omega
          have HW := Lib.hid hw
          clear hv hv2 hw hda
          go_wp2_with fail
          go_roundw
          case rel => exact ⟨p + 1, by rw [HW.out], rfl, by omega, trivial⟩
          case measure => simp [intOf]; omega
        · have d1 : decide ((p : Int) < (s.size : Int)) = false := decide_eq_false (by omega)
          have d1' : decide (p < s.size) = false := decide_eq_false hlt
          go_wp2_with fail
          go_ret
          exact vp_yes HY.out (by omega) (Drawn.refl _)
theorem numB_v01 {T : ByteArray} {k j lim : Nat} (hde : dE T k = j) (hkj : k < j) (hj : j ≤ T.size) :
    numB T k lim = (decide (j ≤ k + 2) && (v01B (T.extract k j) && decide (dV T k (j - k) < lim))) := by
  have hz : (T.extract k j).size = j - k := by rw [ByteArray.size_extract]; omega
  have hb0 : bA (T.extract k j) 0 = bA T k := bA_ext hj (by omega)
  unfold numB v01B
  rw [hde, hz, hb0, decide_eq_true hkj, Bool.true_and]
  by_cases h2 : j ≤ k + 2
  · rw [decide_eq_true h2, decide_eq_true (show j - k ≤ 9 by omega)]
    simp
  · rw [decide_eq_false h2]
    simp
def NSP (b : Nat) (T : ByteArray) (k lim : Nat) (w : World) : Ending → World → Prop := fun e w' => e = .returned (.int .i64 (if numB T k lim = true then (dV T k (dE T k - k) : Int) else 0)) ∧ RZ w' b T (if numB T k lim = true then dE T k else k) (!numB T k lim) ∧ Within b (b + 1) w w'
theorem ns_no {b : Nat} {T : ByteArray} {k lim : Nat} {w w' : World} (h : numB T k lim = false) (hr : RZ w' b T k true) (hw : Within b (b + 1) w w') : NSP b T k lim w (.returned (.int .i64 0)) w' := by
  unfold NSP
  rw [h]
  exact ⟨rfl, hr, hw⟩
theorem ns_yes {b : Nat} {T : ByteArray} {k lim j : Nat} {w w' : World} (h : numB T k lim = true) (hde : dE T k = j) (hr : RZ w' b T j false) (hw : Within b (b + 1) w w') : NSP b T k lim w (.returned (.int .i64 (dV T k (j - k) : Int))) w' := by
  unfold NSP
  rw [h, hde]
  exact ⟨rfl, hr, hw⟩
set_option maxRecDepth 1000000 in
set_option maxHeartbeats 3200000 in
theorem c_l35Number {w : World} {b : Nat} {T : ByteArray} {k : Nat} (h : RZ w b T k false) (hk : k ≤ T.size) (hT : T.size ≤ 200) (lim : Nat) :
    Calls Tryd.prog 94 #[.pointer (some ⟨b, 0, none⟩), .int .i64 (lim : Int)] w (NSP b T k lim w) := by
  obtain ⟨c0, c1, c2, f1, f2⟩ := h.facts
  have HR0 := Lib.hid h
  clear h
  go_enter Tryd.func94, Tryd.ntmps94
  go_wp2_with fail
  go_loopw [5] (fun v wr => ∃ j : Nat, v = .int .i64 (j : Int) ∧ k ≤ j ∧ j ≤ T.size ∧ Hid (∀ i, k ≤ i → i < j → isD T i = true) ∧ Drawn w wr) (fun v _ => T.size - (intOf v).toNat)
  case atStart => exact ⟨k, rfl, Nat.le_refl _, hk, fun i _ _ => by omega, Drawn.refl _⟩
  case round =>
    obtain ⟨j, rfl, hkj, hj, HD, hdr⟩ := hrel
    have HR := Lib.hid (HR0.out.below (hdr.below _))
    clear c0 c1 c2 f1 f2
    obtain ⟨c0, c1, c2, f1, f2⟩ := HR.out.facts
    by_cases hd : isD T j = true
    · obtain ⟨h1, h2, h3⟩ := isD_iff.1 hd
      have jp : (0 : Int) ≤ (j : Int) := by omega
      have jq : (j : Int) < (T.size : Int) := by omega
      have b1 : decide ((j : Int) < (T.size : Int)) = true := decide_eq_true (by omega)
      have b1' : decide (j < T.size) = true := decide_eq_true (by omega)
      have b2 : decide ((48 : Int) ≤ (T[j].toNat : Int)) = true := decide_eq_true (by rw [bA_lt h1]; omega)
      have b3 : decide ((T[j].toNat : Int) ≤ (57 : Int)) = true := decide_eq_true (by rw [bA_lt h1]; omega)
      have HD2 := Lib.hid (show ∀ i, k ≤ i → i < j + 1 → isD T i = true from fun i hi hi2 => by
        by_cases e : i = j
        · rw [e]; exact hd
        · exact HD.out i hi (by omega))
      clear h2 h3 hd
      go_wp2_with fail
      go_roundw
      case rel => exact ⟨j + 1, rfl, by omega, by omega, HD2, hdr⟩
      case measure => simp [intOf]; omega
    · have hno : T.size = j ∨ (j < T.size ∧ bA T j < 48) ∨ (j < T.size ∧ 57 < bA T j) := by
        rw [isD_iff] at hd
        omega
      have hde := dE_eq hd hkj hj HD.out
      clear hd
      rcases hno with e | ⟨e, q⟩ | ⟨e, q⟩
      · have b1 : decide ((j : Int) < (T.size : Int)) = false := decide_eq_false (by omega)
        have b1' : decide (j < T.size) = false := decide_eq_false (by omega)
        by_cases he : j = k
        · have b5 : ((j : Int) == (k : Int)) = true := by rw [beq_iff_eq]; omega
          have b5' : (j == k) = true := by rw [beq_iff_eq]; omega
          have HN := Lib.hid (numB_no (T := T) (lim := lim) (by rw [hde, he]))
          clear he hde
          go_wp2_with fail
          go_ret
          exact ns_no HN.out (HR.out.setF true) ((hdr.in_ b).trans (in_set _ _ _ _))
        · have b5 : ((j : Int) == (k : Int)) = false := by rw [beq_eq_false_iff_ne]; omega
          have b5' : (j == k) = false := by rw [beq_eq_false_iff_ne]; omega
          have hkj2 : k < j := by omega
          have HNB := Lib.hid (numB_v01 (lim := lim) hde hkj2 hj)
          have HDE := Lib.hid hde
          have kj : (k : Int) ≤ (j : Int) := by omega
          have kp : (0 : Int) ≤ (k : Int) := by omega
          have jT : (j : Int) ≤ (T.size : Int) := by omega
          have hz : (T.extract k j).size = j - k := by rw [ByteArray.size_extract]; omega
          have HC := Lib.hid (fun (W : World) => c_l01Value (w := W) (s := T.extract k j) (by omega) (by omega) (ext_dig hj HD.out))
          have hdv : v01B (T.extract k j) = true → (dV (T.extract k j) 0 (T.extract k j).size : Int) = (dV T k (j - k) : Int) := fun _ => by rw [dV_ext hj _ (Nat.le_refl _), hz]
          clear hde
          go_wp2_with fail
          go_quiet (fail)
          go_wp2_with fail
          refine (HC.out _).mono ?_
          rintro e w2 ⟨rfl, d2⟩
          have hd2 : Drawn w w2 := by
            obtain ⟨m2, rfl⟩ := d2
            exact ((show Drawn w wr from hdr).step nq).step m2
          generalize T.extract k j = S at *
          obtain ⟨V, hV⟩ : ∃ V : Int, V = if v01B S = true then (dV S 0 S.size : Int) else -1 := ⟨_, rfl⟩
          rw [← hV]
          have HQ := Lib.hid (show (numB T k lim = true ↔ j ≤ k + 2 ∧ 0 ≤ V ∧ V < (lim : Int)) ∧ (0 ≤ V → V = (dV T k (j - k) : Int)) by
            rw [HNB.out, hV]
            by_cases q : v01B S = true
            · rw [if_pos q, q, hdv q]
              simp
            · rw [if_neg q]
              simp [q])
          have HR2 := Lib.hid (HR0.out.below (hd2.below _))
          have HD2 := Lib.hid hd2
          clear c0 c1 c2 f1 f2 hV hdv d2 hd2 HC HNB
          obtain ⟨c0, c1, c2, f1, f2⟩ := HR2.out.facts
          by_cases q1 : j ≤ k + 2
          · have g1 : decide ((2 : Int) < (S.size : Int)) = false := decide_eq_false (by omega)
            have g1' : decide (2 < S.size) = false := decide_eq_false (by omega)
            by_cases q2 : V < 0
            · have g2 : decide (V < 0) = true := decide_eq_true q2
              have HN := Lib.hid (show numB T k lim = false by rw [← Bool.not_eq_true, HQ.out.1]; omega)
              clear q2 hz
              go_wp2_with fail
              go_ret
              exact ns_no HN.out (HR2.out.setF true) ((HD2.out.in_ b).trans (in_set _ _ _ _))
            · have g2 : decide (V < 0) = false := decide_eq_false q2
              by_cases q3 : (lim : Int) ≤ V
              · have g3 : decide ((lim : Int) ≤ V) = true := decide_eq_true q3
                have HN := Lib.hid (show numB T k lim = false by rw [← Bool.not_eq_true, HQ.out.1]; omega)
                clear q2 q3 hz
                go_wp2_with fail
                go_ret
                exact ns_no HN.out (HR2.out.setF true) ((HD2.out.in_ b).trans (in_set _ _ _ _))
              · have g3 : decide ((lim : Int) ≤ V) = false := decide_eq_false q3
                have HN := Lib.hid (show numB T k lim = true by rw [HQ.out.1]; omega)
                have HV := Lib.hid (HQ.out.2 (by omega))
                clear q2 q3 hz
                go_wp2_with fail
                go_ret
                rw [HV.out]
                exact ns_yes HN.out HDE.out (HR2.out.setAt j) ((HD2.out.in_ b).trans (in_set _ _ _ _))
          · have g1 : decide ((2 : Int) < (S.size : Int)) = true := decide_eq_true (by omega)
            have g1' : decide (2 < S.size) = true := decide_eq_true (by omega)
            have HN := Lib.hid (show numB T k lim = false by rw [← Bool.not_eq_true, HQ.out.1]; omega)
            clear q1 hz
            go_wp2_with fail
            go_ret
            exact ns_no HN.out (HR2.out.setF true) ((HD2.out.in_ b).trans (in_set _ _ _ _))
      · have jp : (0 : Int) ≤ (j : Int) := by omega
        have jq : (j : Int) < (T.size : Int) := by omega
        have b1 : decide ((j : Int) < (T.size : Int)) = true := decide_eq_true (by omega)
        have b1' : decide (j < T.size) = true := decide_eq_true (by omega)
        have b2 : decide ((48 : Int) ≤ (T[j].toNat : Int)) = false := decide_eq_false (by rw [bA_lt e]; omega)
        clear q
        by_cases he : j = k
        · have b5 : ((j : Int) == (k : Int)) = true := by rw [beq_iff_eq]; omega
          have b5' : (j == k) = true := by rw [beq_iff_eq]; omega
          have HN := Lib.hid (numB_no (T := T) (lim := lim) (by rw [hde, he]))
          clear he hde
          go_wp2_with fail
          go_ret
          exact ns_no HN.out (HR.out.setF true) ((hdr.in_ b).trans (in_set _ _ _ _))
        · have b5 : ((j : Int) == (k : Int)) = false := by rw [beq_eq_false_iff_ne]; omega
          have b5' : (j == k) = false := by rw [beq_eq_false_iff_ne]; omega
          have hkj2 : k < j := by omega
          have HNB := Lib.hid (numB_v01 (lim := lim) hde hkj2 hj)
          have HDE := Lib.hid hde
          have kj : (k : Int) ≤ (j : Int) := by omega
          have kp : (0 : Int) ≤ (k : Int) := by omega
          have jT : (j : Int) ≤ (T.size : Int) := by omega
          have hz : (T.extract k j).size = j - k := by rw [ByteArray.size_extract]; omega
          have HC := Lib.hid (fun (W : World) => c_l01Value (w := W) (s := T.extract k j) (by omega) (by omega) (ext_dig hj HD.out))
          have hdv : v01B (T.extract k j) = true → (dV (T.extract k j) 0 (T.extract k j).size : Int) = (dV T k (j - k) : Int) := fun _ => by rw [dV_ext hj _ (Nat.le_refl _), hz]
          clear hde
          go_wp2_with fail
          go_quiet (fail)
          go_wp2_with fail
          refine (HC.out _).mono ?_
          rintro e w2 ⟨rfl, d2⟩
          have hd2 : Drawn w w2 := by
            obtain ⟨m2, rfl⟩ := d2
            exact ((show Drawn w wr from hdr).step nq).step m2
          generalize T.extract k j = S at *
          obtain ⟨V, hV⟩ : ∃ V : Int, V = if v01B S = true then (dV S 0 S.size : Int) else -1 := ⟨_, rfl⟩
          rw [← hV]
          have HQ := Lib.hid (show (numB T k lim = true ↔ j ≤ k + 2 ∧ 0 ≤ V ∧ V < (lim : Int)) ∧ (0 ≤ V → V = (dV T k (j - k) : Int)) by
            rw [HNB.out, hV]
            by_cases q : v01B S = true
            · rw [if_pos q, q, hdv q]
              simp
            · rw [if_neg q]
              simp [q])
          have HR2 := Lib.hid (HR0.out.below (hd2.below _))
          have HD2 := Lib.hid hd2
          clear c0 c1 c2 f1 f2 hV hdv d2 hd2 HC HNB
          obtain ⟨c0, c1, c2, f1, f2⟩ := HR2.out.facts
          by_cases q1 : j ≤ k + 2
          · have g1 : decide ((2 : Int) < (S.size : Int)) = false := decide_eq_false (by omega)
            have g1' : decide (2 < S.size) = false := decide_eq_false (by omega)
            by_cases q2 : V < 0
            · have g2 : decide (V < 0) = true := decide_eq_true q2
              have HN := Lib.hid (show numB T k lim = false by rw [← Bool.not_eq_true, HQ.out.1]; omega)
              clear q2 hz
              go_wp2_with fail
              go_ret
              exact ns_no HN.out (HR2.out.setF true) ((HD2.out.in_ b).trans (in_set _ _ _ _))
            · have g2 : decide (V < 0) = false := decide_eq_false q2
              by_cases q3 : (lim : Int) ≤ V
              · have g3 : decide ((lim : Int) ≤ V) = true := decide_eq_true q3
                have HN := Lib.hid (show numB T k lim = false by rw [← Bool.not_eq_true, HQ.out.1]; omega)
                clear q2 q3 hz
                go_wp2_with fail
                go_ret
                exact ns_no HN.out (HR2.out.setF true) ((HD2.out.in_ b).trans (in_set _ _ _ _))
              · have g3 : decide ((lim : Int) ≤ V) = false := decide_eq_false q3
                have HN := Lib.hid (show numB T k lim = true by rw [HQ.out.1]; omega)
                have HV := Lib.hid (HQ.out.2 (by omega))
                clear q2 q3 hz
                go_wp2_with fail
                go_ret
                rw [HV.out]
                exact ns_yes HN.out HDE.out (HR2.out.setAt j) ((HD2.out.in_ b).trans (in_set _ _ _ _))
          · have g1 : decide ((2 : Int) < (S.size : Int)) = true := decide_eq_true (by omega)
            have g1' : decide (2 < S.size) = true := decide_eq_true (by omega)
            have HN := Lib.hid (show numB T k lim = false by rw [← Bool.not_eq_true, HQ.out.1]; omega)
            clear q1 hz
            go_wp2_with fail
            go_ret
            exact ns_no HN.out (HR2.out.setF true) ((HD2.out.in_ b).trans (in_set _ _ _ _))
      · have jp : (0 : Int) ≤ (j : Int) := by omega
        have jq : (j : Int) < (T.size : Int) := by omega
        have b1 : decide ((j : Int) < (T.size : Int)) = true := decide_eq_true (by omega)
        have b1' : decide (j < T.size) = true := decide_eq_true (by omega)
        have b2 : decide ((48 : Int) ≤ (T[j].toNat : Int)) = true := decide_eq_true (by rw [bA_lt e]; omega)
        have b3 : decide ((T[j].toNat : Int) ≤ (57 : Int)) = false := decide_eq_false (by rw [bA_lt e]; omega)
        clear q
        by_cases he : j = k
        · have b5 : ((j : Int) == (k : Int)) = true := by rw [beq_iff_eq]; omega
          have b5' : (j == k) = true := by rw [beq_iff_eq]; omega
          have HN := Lib.hid (numB_no (T := T) (lim := lim) (by rw [hde, he]))
          clear he hde
          go_wp2_with fail
          go_ret
          exact ns_no HN.out (HR.out.setF true) ((hdr.in_ b).trans (in_set _ _ _ _))
        · have b5 : ((j : Int) == (k : Int)) = false := by rw [beq_eq_false_iff_ne]; omega
          have b5' : (j == k) = false := by rw [beq_eq_false_iff_ne]; omega
          have hkj2 : k < j := by omega
          have HNB := Lib.hid (numB_v01 (lim := lim) hde hkj2 hj)
          have HDE := Lib.hid hde
          have kj : (k : Int) ≤ (j : Int) := by omega
          have kp : (0 : Int) ≤ (k : Int) := by omega
          have jT : (j : Int) ≤ (T.size : Int) := by omega
          have hz : (T.extract k j).size = j - k := by rw [ByteArray.size_extract]; omega
          have HC := Lib.hid (fun (W : World) => c_l01Value (w := W) (s := T.extract k j) (by omega) (by omega) (ext_dig hj HD.out))
          have hdv : v01B (T.extract k j) = true → (dV (T.extract k j) 0 (T.extract k j).size : Int) = (dV T k (j - k) : Int) := fun _ => by rw [dV_ext hj _ (Nat.le_refl _), hz]
          clear hde
          go_wp2_with fail
          go_quiet (fail)
          go_wp2_with fail
          refine (HC.out _).mono ?_
          rintro e w2 ⟨rfl, d2⟩
          have hd2 : Drawn w w2 := by
            obtain ⟨m2, rfl⟩ := d2
            exact ((show Drawn w wr from hdr).step nq).step m2
          generalize T.extract k j = S at *
          obtain ⟨V, hV⟩ : ∃ V : Int, V = if v01B S = true then (dV S 0 S.size : Int) else -1 := ⟨_, rfl⟩
          rw [← hV]
          have HQ := Lib.hid (show (numB T k lim = true ↔ j ≤ k + 2 ∧ 0 ≤ V ∧ V < (lim : Int)) ∧ (0 ≤ V → V = (dV T k (j - k) : Int)) by
            rw [HNB.out, hV]
            by_cases q : v01B S = true
            · rw [if_pos q, q, hdv q]
              simp
            · rw [if_neg q]
              simp [q])
          have HR2 := Lib.hid (HR0.out.below (hd2.below _))
          have HD2 := Lib.hid hd2
          clear c0 c1 c2 f1 f2 hV hdv d2 hd2 HC HNB
          obtain ⟨c0, c1, c2, f1, f2⟩ := HR2.out.facts
          by_cases q1 : j ≤ k + 2
          · have g1 : decide ((2 : Int) < (S.size : Int)) = false := decide_eq_false (by omega)
            have g1' : decide (2 < S.size) = false := decide_eq_false (by omega)
            by_cases q2 : V < 0
            · have g2 : decide (V < 0) = true := decide_eq_true q2
              have HN := Lib.hid (show numB T k lim = false by rw [← Bool.not_eq_true, HQ.out.1]; omega)
              clear q2 hz
              go_wp2_with fail
              go_ret
              exact ns_no HN.out (HR2.out.setF true) ((HD2.out.in_ b).trans (in_set _ _ _ _))
            · have g2 : decide (V < 0) = false := decide_eq_false q2
              by_cases q3 : (lim : Int) ≤ V
              · have g3 : decide ((lim : Int) ≤ V) = true := decide_eq_true q3
                have HN := Lib.hid (show numB T k lim = false by rw [← Bool.not_eq_true, HQ.out.1]; omega)
                clear q2 q3 hz
                go_wp2_with fail
                go_ret
                exact ns_no HN.out (HR2.out.setF true) ((HD2.out.in_ b).trans (in_set _ _ _ _))
              · have g3 : decide ((lim : Int) ≤ V) = false := decide_eq_false q3
                have HN := Lib.hid (show numB T k lim = true by rw [HQ.out.1]; omega)
                have HV := Lib.hid (HQ.out.2 (by omega))
                clear q2 q3 hz
                go_wp2_with fail
                go_ret
                rw [HV.out]
                exact ns_yes HN.out HDE.out (HR2.out.setAt j) ((HD2.out.in_ b).trans (in_set _ _ _ _))
          · have g1 : decide ((2 : Int) < (S.size : Int)) = true := decide_eq_true (by omega)
            have g1' : decide (2 < S.size) = true := decide_eq_true (by omega)
            have HN := Lib.hid (show numB T k lim = false by rw [← Bool.not_eq_true, HQ.out.1]; omega)
            clear q1 hz
            go_wp2_with fail
            go_ret
            exact ns_no HN.out (HR2.out.setF true) ((HD2.out.in_ b).trans (in_set _ _ _ _))
end Go.Proofs.YtjlpmfimbgbcmaaDoor
