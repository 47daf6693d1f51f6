/-
  The reference's reading of words and numbers.
-/
import Derived.Test.YtjlpmfimbgbcmaaDoorAny
import Derived.Test.YtjlpmfimbgbcmaaDoorDgv
import Derived.IntWalk
import Derived.Lib.AtoiErr
namespace Go.Proofs.YtjlpmfimbgbcmaaDoor
open Go.RowKit

set_option maxRecDepth 100000 in
theorem c_l31Word {s : ByteArray} (hs : s.size < 4294967281) (w : World) : Calls Tryd.prog 73 #[.string s] w (fun e w' => e = .returned (.bool (wordB s)) ∧ w' = w) := by
  have HW := Lib.hid (wordB_iff s)
  obtain ⟨V, hV⟩ : ∃ V, V = wordB s := ⟨_, rfl⟩
  have HV := Lib.hid hV
  rw [← hV]
  clear hV
  go_enter Tryd.func73, Tryd.ntmps73
  go_wp2_with fail
  go_loopw [3] (fun i wr => ∃ p : Nat, i = .int .i64 (p : Int) ∧ p ≤ s.size ∧ wr = w ∧ Hid (∀ (j : Nat) (hj : j < s.size), j < p → badB (s[j]'hj) = false)) (fun i _ => s.size - (intOf i).toNat)
  case atStart => exact ⟨0, rfl, Nat.zero_le _, rfl, Lib.hid (fun j hj h => by omega)⟩
  case round =>
    obtain ⟨p, rfl, hp, rfl, HG⟩ := hrel
    by_cases hlt : p < s.size
    · have p0 : (0 : Int) ≤ (p : Int) := by omega
      have p1 : (p : Int) < (s.size : Int) := by omega
      have d1 : decide ((p : Int) < (s.size : Int)) = true := decide_eq_true (by omega)
      have d1' : decide (p < s.size) = true := decide_eq_true hlt
      have hb : badB s[p] = (((s[p].toNat : Int) == 59) || ((s[p].toNat : Int) == 47) || ((s[p].toNat : Int) == 10)) := by
        have g : ∀ c : UInt8, (s[p] == c) = (((s[p].toNat : Nat) : Int) == ((c.toNat : Nat) : Int)) := fun c => by
          rw [Bool.eq_iff_iff, beq_iff_eq, beq_iff_eq]
          exact ⟨fun e => by rw [e], fun e => UInt8.toNat_inj.1 (by omega)⟩
        unfold badB
        rw [g 59, g 47, g 10]
        rfl
      have hbad : badB s[p] = true → V = false := fun h => by
        rw [HV.out]
        cases hw : wordB s with
        | false => rfl
        | true =>
          have := HW.out.1 hw p hlt
          rw [h] at this; cases this
      have hgood : badB s[p] = false → ∀ (j : Nat) (hj : j < s.size), j < p + 1 → badB (s[j]'hj) = false := fun h j hj hjp => by
        by_cases e : j = p
        · subst e; exact h
        · exact HG.out j hj (by omega)
      rw [hb] at hbad hgood
      have HB := Lib.hid hbad
      have HGo := Lib.hid hgood
      clear hb hbad hgood
      cases b1 : ((s[p].toNat : Int) == 59) with
      | true =>
        rw [b1] at HB
        have hf := Lib.hid (HB.out rfl)
        go_wp2_with fail
        go_ret
        exact ⟨by rw [hf.out]; rfl, rfl⟩
      | false =>
        cases b2 : ((s[p].toNat : Int) == 47) with
        | true =>
          rw [b1, b2] at HB
          have hf := Lib.hid (HB.out rfl)
          go_wp2_with fail
          go_ret
          exact ⟨by rw [hf.out]; rfl, rfl⟩
        | false =>
          cases b3 : ((s[p].toNat : Int) == 10) with
          | true =>
            rw [b1, b2, b3] at HB
            have hf := Lib.hid (HB.out rfl)
            go_wp2_with fail
            go_ret
            exact ⟨by rw [hf.out]; rfl, rfl⟩
          | false =>
            rw [b1, b2, b3] at HGo
            have HG2 := Lib.hid (HGo.out rfl)
            clear HGo HB
            go_wp2_with fail
            go_roundw
            case rel => exact ⟨p + 1, by go_num, by omega, trivial, HG2⟩
            case measure => simp [intOf]; omega
    · have d1 : decide ((p : Int) < (s.size : Int)) = false := decide_eq_false (by omega)
      have d1' : decide (p < s.size) = false := decide_eq_false hlt
      have hf := Lib.hid (show V = true by
        rw [HV.out]
        exact HW.out.2 (fun j hj => HG.out j hj (by omega)))
      go_wp2_with fail
      go_ret
      exact ⟨by rw [hf.out]; rfl, rfl⟩

theorem val_no {s : ByteArray} {p : Nat} (hp : p < s.size) (h : Lib.digitVal s[p] = none) : val s = -1 := by
  unfold val
  split
  · rfl
  · cases hd : Lib.decFrom 0 s.data.toList with
    | none => rfl
    | some m =>
      obtain ⟨m', hm⟩ := Lib.decFrom_prefix _ _ _ hd (p + 1)
      have hl : p < s.data.toList.length := by simpa using hp
      rw [List.take_succ_eq_append_getElem hl, decFrom_snoc, show s.data.toList[p] = s[p] from rfl, h] at hm
      cases hk : Lib.decFrom 0 (s.data.toList.take p) with
      | none => rw [hk] at hm; cases hm
      | some q => rw [hk] at hm; cases hm

set_option maxRecDepth 100000 in
theorem c_l01Value {s : ByteArray} (hs : s.size < 4294967281) (w : World) : Calls Tryd.prog 54 #[.string s] w (fun e w' => e = .returned (.int .i64 (val s)) ∧ w' = w) := by
  obtain ⟨V, hV⟩ : ∃ V, V = val s := ⟨_, rfl⟩
  have HV := Lib.hid hV
  rw [← hV]
  clear hV
  have hlen : s.data.toList.length = s.size := by simp
  have bad : (s.data.toList.length = 0 ∨ 9 < s.data.toList.length ∨ (1 < s.data.toList.length ∧ s.data.toList.head? = some 48)) → val s = -1 := fun hg => by unfold val; rw [if_pos hg]
  have HBD := Lib.hid bad
  have HLN := Lib.hid hlen
  clear bad hlen
  by_cases h0 : s.size = 0
  · have b1 : ((s.size : Int) == 0) = true := by rw [beq_iff_eq]; omega
    have b1' : (s.size == 0) = true := by rw [beq_iff_eq]; omega
    have hf := Lib.hid (show V = -1 by rw [HV.out]; exact HBD.out (.inl (by rw [HLN.out]; exact h0)))
    clear h0
    go_enter Tryd.func54, Tryd.ntmps54
    go_wp2_with fail
    go_ret
    exact ⟨by rw [hf.out]; rfl, rfl⟩
  · have b1 : ((s.size : Int) == 0) = false := by rw [beq_eq_false_iff_ne]; omega
    have b1' : (s.size == 0) = false := by rw [beq_eq_false_iff_ne]; omega
    by_cases h9 : 9 < s.size
    · have b2 : decide ((9 : Int) < (s.size : Int)) = true := decide_eq_true (by omega)
      have b2' : decide (9 < s.size) = true := decide_eq_true h9
      have hf := Lib.hid (show V = -1 by rw [HV.out]; exact HBD.out (.inr (.inl (by rw [HLN.out]; exact h9))))
      go_enter Tryd.func54, Tryd.ntmps54
      go_wp2_with fail
      go_ret
      exact ⟨by rw [hf.out]; rfl, rfl⟩
    · have b2 : decide ((9 : Int) < (s.size : Int)) = false := decide_eq_false (by omega)
      have b2' : decide (9 < s.size) = false := decide_eq_false h9
      have hz : 0 < s.size := by omega
      have hz' : (0 : Int) < (s.size : Int) := by omega
      have hd0 : s.data.toList.head? = some s[0] := by
        rw [List.head?_eq_getElem?, get_list s 0 hz]
      have hcan : ¬ (1 < s.size ∧ s[0] = 48) → Can s.data.toList := fun h => ⟨fun e => by rw [← List.length_eq_zero_iff, HLN.out] at e; omega, fun h1 h2 => by
        rw [HLN.out] at h1
        rw [hd0] at h2
        exact h ⟨h1, Option.some.inj h2⟩⟩
      have HCAN := Lib.hid hcan
      have main : ¬ (1 < s.size ∧ s[0] = 48) → (b3 : Bool) → True := fun _ _ => trivial
      clear main
      by_cases hbad : 1 < s.size ∧ s[0] = 48
      · have b3 : decide ((1 : Int) < (s.size : Int)) = true := decide_eq_true (by omega)
        have b4 : ((s[0].toNat : Int) == 48) = true := by rw [hbad.2]; rfl
        have hf := Lib.hid (show V = -1 by rw [HV.out]; exact HBD.out (.inr (.inr ⟨by rw [HLN.out]; exact hbad.1, by rw [hd0, hbad.2]⟩)))
        clear hbad hd0 hcan
        go_enter Tryd.func54, Tryd.ntmps54
        go_wp2_with fail
        go_ret
        exact ⟨by rw [hf.out]; rfl, rfl⟩
      · have hc := Lib.hid (hcan hbad)
        have b34 : (decide ((1 : Int) < (s.size : Int)) = false) ∨ (decide ((1 : Int) < (s.size : Int)) = true ∧ ((s[0].toNat : Int) == 48) = false) := by
          by_cases h1 : 1 < s.size
          · right
            refine ⟨decide_eq_true (by omega), beq_eq_false_iff_ne.2 fun e => hbad ⟨h1, UInt8.toNat_inj.1 (by show s[0].toNat = 48; omega)⟩⟩
          · left; exact decide_eq_false (by omega)
        clear hbad hd0 hcan
        rcases b34 with b3 | ⟨b3, b4⟩
        all_goals
          go_enter Tryd.func54, Tryd.ntmps54
          go_wp2_with fail
          go_loopw [3, 4] (fun v i wr => ∃ p n : Nat, v = .int .i64 (n : Int) ∧ i = .int .i64 (p : Int) ∧ p ≤ s.size ∧ wr = w ∧ Hid (Lib.decFrom 0 (s.data.toList.take p) = some n ∧ n < 10 ^ p)) (fun _ i _ => s.size - (intOf i).toNat)
          case atStart => exact ⟨0, 0, rfl, rfl, Nat.zero_le _, rfl, Lib.hid ⟨by simp [Lib.decFrom], by decide⟩⟩
          case round =>
            obtain ⟨p, n, rfl, rfl, hp, rfl, HN⟩ := hrel
            by_cases hlt : p < s.size
            · have p0 : (0 : Int) ≤ (p : Int) := by omega
              have p1 : (p : Int) < (s.size : Int) := by omega
              have d1 : decide ((p : Int) < (s.size : Int)) = true := decide_eq_true (by omega)
              have d1' : decide (p < s.size) = true := decide_eq_true hlt
              cases hd : Lib.digitVal s[p] with
              | none =>
                have hq := Lib.digitVal_none hd
                have hf := Lib.hid (show V = -1 by rw [HV.out]; exact val_no hlt hd)
                rcases hq with hq | hq
                · have e2 : decide ((s[p].toNat : Int) < 48) = true := decide_eq_true (by omega)
                  go_wp2_with fail
                  go_ret
                  exact ⟨by rw [hf.out]; rfl, rfl⟩
                · have e2 : decide ((s[p].toNat : Int) < 48) = false := decide_eq_false (by omega)
                  have e3 : decide ((57 : Int) < (s[p].toNat : Int)) = true := decide_eq_true (by omega)
                  go_wp2_with fail
                  go_ret
                  exact ⟨by rw [hf.out]; rfl, rfl⟩
              | some d =>
                obtain ⟨q1, q2, q3⟩ := Lib.digitVal_eq hd
                have e2 : decide ((s[p].toNat : Int) < 48) = false := decide_eq_false (by omega)
                have e3 : decide ((57 : Int) < (s[p].toNat : Int)) = false := decide_eq_false (by omega)
                obtain ⟨hn1, hn2⟩ := HN.out
                have hnb : n < 1000000000 := Nat.lt_of_lt_of_le hn2 (Nat.le_trans (Nat.pow_le_pow_right (by decide) (by omega : p ≤ 9)) (by decide))
                have hdb : d ≤ 9 := by omega
                have hu : IntKind.u8.wrap ((s[p].toNat : Int) - 48) = (d : Int) := by
                  rw [q3]
                  have := IntWalk.u8_in ((s[p].toNat : Int) - 48) (by omega)
                  rw [this]; omega
                have hw : wrap64 (wrap64 ((n : Int) * 10) + wrap64 (d : Int)) = ((n * 10 + d : Nat) : Int) := by
                  have t1 : wrap64 ((n : Int) * 10) = (n : Int) * 10 := by unfold wrap64; omega
                  have t2 : wrap64 (d : Int) = (d : Int) := by unfold wrap64; omega
                  rw [t1, t2]
                  unfold wrap64
                  omega
                have HW := Lib.hid hw
                have HN2 := Lib.hid (show Lib.decFrom 0 (s.data.toList.take (p + 1)) = some (n * 10 + d) ∧ n * 10 + d < 10 ^ (p + 1) from ⟨Lib.decFrom_take _ p 0 n s[p] d hn1 (get_list s p hlt) hd, by rw [Nat.pow_succ]; omega⟩)
                clear hn1 hn2 hnb hdb hw hd q1 q2 q3 HN
                go_wp2_with fail
                go_roundw
                case rel => exact ⟨p + 1, n * 10 + d, by rw [HW.out], by go_num, by omega, trivial, HN2⟩
                case measure => simp [intOf]; omega
            · have d1 : decide ((p : Int) < (s.size : Int)) = false := decide_eq_false (by omega)
              have d1' : decide (p < s.size) = false := decide_eq_false hlt
              have hf := Lib.hid (show V = (n : Int) by
                rw [HV.out]
                refine val_mk hc.out (by rw [HLN.out]; omega) ?_
                have := HN.out.1
                rwa [List.take_of_length_le (by rw [HLN.out]; omega)] at this)
              go_wp2_with fail
              go_ret
              exact ⟨by rw [hf.out]; rfl, rfl⟩
end Go.Proofs.YtjlpmfimbgbcmaaDoor
