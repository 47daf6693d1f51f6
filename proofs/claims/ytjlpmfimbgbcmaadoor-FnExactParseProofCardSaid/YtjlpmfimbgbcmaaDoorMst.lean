/-
  markStringS, heldStringS, eqStringS.
-/
import Derived.Test.YtjlpmfimbgbcmaaDoorMtx
import Derived.Test.YtjlpmfimbgbcmaaDoorQb
namespace Go.Proofs.YtjlpmfimbgbcmaaDoor
open Go.RowKit

/-- n texts of marks, from k on. -/
def mks (k n : Nat) : List ByteArray := (List.range n).map fun i => mT (k + i)
theorem mks_length (k n : Nat) : (mks k n).length = n := by simp [mks]
theorem mks_get {k n i : Nat} (h : i < (mks k n).length) : (mks k n)[i] = mT (k + i) := by simp [mks]
theorem mks_succ (k n : Nat) : mks k (n + 1) = mks k n ++ [mT (k + n)] := by simp [mks, List.range_succ]
theorem mks_step {k j : Nat} {xs : List ByteArray} (h : j < xs.length) : ((mks k j ++ xs.drop j).map Value.string).set j (.string (mT (k + j))) = (mks k (j + 1) ++ xs.drop (j + 1)).map Value.string := by
  rw [mks_succ, List.drop_eq_getElem_cons h, List.map_append, List.map_cons, List.set_append_right _ _ (by simp [mks_length]), List.length_map, mks_length, Nat.sub_self, List.set_cons_zero]
  simp
theorem c_markTextR {k : Nat} (h1 : 1 ≤ k) (h2 : k < 1000000000000) (w : World) : Calls Tryd.prog 35 #[.int .i64 k] w (Ret w (.string (mT k))) := c_markText h1 h2 w
theorem within_of {B T : Nat} {w w' : World} (h : Below w.heap.size w w') (hBT : B ≤ T) : Within B T w w' := (below_within h B).mono (Nat.le_refl _) hBT

theorem c_markStringS {B T : Nat} {w : World} {v : Value} {xs : List ByteArray} (h : OwS w B v xs) (htop : ∀ k, v.ownBlock = some k → k < T) (hBT : B ≤ T) (k : Nat) (hk : 1 ≤ k) (hk' : k + xs.length < 1000000000000) :
    Calls Tryd.prog 34 #[v, .int .i64 k] w (fun e w' => e = .returned (.int .i64 ((k + xs.length : Nat) : Int)) ∧ OwS w' B v (mks k xs.length) ∧ Within B T w w') := by
  have hlen := h.len
  have hrow := h.row
  clear h
  obtain ⟨ao, b, n, c, hv, hn, ha⟩ : ∃ (ao : Option Addr) (b n c : Nat), v = .slice ao n c ∧ n = xs.length ∧ (0 < n → ao = some ⟨b, 0, none⟩ ∧ B ≤ b ∧ b < T) := by
    rcases hrow.2 with ⟨rfl, hn⟩ | ⟨g, cap, cur, rfl, hB, hg, -⟩
    · exact ⟨none, 0, 0, 0, rfl, hn.symm, fun h0 => by omega⟩
    · exact ⟨some ⟨g, 0, none⟩, g, xs.length, cap, rfl, rfl, fun _ => ⟨rfl, hB, htop g rfl⟩⟩
  subst hv
  rw [← hn] at hk' hlen hrow ⊢
  have HN := Lib.hid hn
  have HA := Lib.hid ha
  clear hn ha
  go_enter Tryd.func34, Tryd.ntmps34
  go_wp2_with fail
  go_loopw [1, 5] (fun q i wr => ∃ j : Nat, j ≤ n ∧ i = .int .i64 j ∧ q = .int .i64 ((k + j : Nat) : Int) ∧ Within B T w wr ∧ wr.ownsRow B 9 1 (.slice ao n c) n ((mks k j ++ xs.drop j).map Value.string)) (fun _ i _ => n - (intOf i).toNat)
  case atStart => exact ⟨0, Nat.zero_le _, rfl, by go_num, Within.refl _ _ _, by simpa [mks] using hrow⟩
  case round =>
    obtain ⟨j, hj, rfl, rfl, hw, hr⟩ := hrel
    by_cases hlt : j < n
    · obtain ⟨rfl, hB, hT⟩ := HA.out (by omega)
      have HW := Lib.hid hw
      have HR := Lib.hid hr
      have j1 : (j : Int) < (n : Int) := by omega
      clear hw hr
      go_wp2_with fail
      refine (c_markText (k := k + j) (by omega) (by omega) _).mono ?_
      rintro e w2 ⟨rfl, b2⟩
      have hr := HR.out.kept (row := none) ⟨b2.os, b2.tape, b2.output, b2.size, fun k hk _ => b2.block k hk⟩ (.inr (by simp [Value.ownBlock]))
      have hll : j < ((mks k j ++ xs.drop j).map Value.string).length := by have := hr.1; omega
      have hst := hr.cellAt j (by omega)
      rw [List.getElem?_eq_getElem hll] at hst
      have hfz := hr.frozenAt j
      obtain ⟨z, hz⟩ : ∃ z, ((mks k j ++ xs.drop j).map Value.string)[j] = z := ⟨_, rfl⟩
      rw [hz] at hst
      have hr2 := hr.stored j (.string (mT (k + j)))
      rw [mks_step (by have := HN.out; omega)] at hr2
      have HR2 := Lib.hid hr2.1
      have HW2 := Lib.hid ((HW.out.trans (within_of b2 hBT)).setCell hB hT (p := ⟨b, j, none⟩) (.string (mT (k + j))))
      clear b2 hr hll hz hr2
      go_wp2_with fail
      go_roundw
      case rel => exact ⟨j + 1, by omega, by go_num, by go_num, HW2.out, HR2.out⟩
      case measure => simp [intOf]; omega
    · have hk1 : j = n := by omega
      subst hk1
      have HW := Lib.hid hw
      have HR := Lib.hid hr
      clear hw hr
      go_wp2_with fail
      go_ret
      have hr := HR.out
      rw [List.drop_of_length_le (by have := HN.out; omega), List.append_nil] at hr
      exact ⟨rfl, ⟨by rw [mks_length]; exact hr, by rw [mks_length]; omega⟩, HW.out⟩

theorem c_heldStringS {w : World} {v : Value} {k n : Nat} (h : SL w v (mks k n)) (hk : 1 ≤ k) (hk' : k + n < 1000000000000) :
    Calls Tryd.prog 37 #[v, .int .i64 k] w (Ret w (.int .i64 ((k + n : Nat) : Int))) := by
  obtain ⟨ao, b, o, c, rfl, ha, hc⟩ := h.ex
  clear h
  have HC := Lib.hid hc
  have HA := Lib.hid ha
  rw [mks_length] at HA ⊢
  clear hc ha
  go_enter Tryd.func37, Tryd.ntmps37
  go_wp2_with fail
  go_loopw [1, 5] (fun q i wr => ∃ j : Nat, j ≤ n ∧ i = .int .i64 j ∧ q = .int .i64 ((k + j : Nat) : Int) ∧ Below w.heap.size w wr) (fun _ i _ => n - (intOf i).toNat)
  case atStart => exact ⟨0, Nat.zero_le _, rfl, by go_num, Below.refl _ _⟩
  case round =>
    obtain ⟨j, hj, rfl, rfl, hw⟩ := hrel
    by_cases hlt : j < n
    · obtain rfl := HA.out (by omega)
      have cx : wr.cell? ⟨b, o + j, none⟩ = some (.string (mT (k + j))) := by
        have := upc hw (HC.out j (by rw [mks_length]; exact hlt))
        rw [mks_get] at this; exact this
      have HW := Lib.hid hw
      have j1 : (j : Int) < (n : Int) := by omega
      have hm := fun W => c_markTextR (k := k + j) (by omega) (by omega) W
      simp only [Int.natCast_add] at hm
      have HM := Lib.hid hm
      clear hm
      clear hw
      go_wp2_with fail
      refine wp_region_qb (by kernel_rfl) (by kernel_rfl) ?_
      repeat (refine qw_step (fun K hK => ?_); first | (refine qb_no rfl ?_; (try simp only [Act.put, List.setIfInBounds_toArray, List.set_cons_zero, List.set_cons_succ]); refine hK _ ?_; clear hK K) | (refine qb_yes rfl ?_; apply Exists.intro; refine ⟨fun w' hC => ?_, ?_⟩; (· (have x0 := up_cell hC cx; (try go_simp); (first | done | (go_at_call 35; with_reducible exact calls_qb hC (HM.out _)) | with_reducible rfl | exact rfl))); (try simp only [Act.put, List.setIfInBounds_toArray, List.set_cons_zero, List.set_cons_succ]); refine hK _ ?_; clear hK K))
      refine qw_nil ?_
      intro wq hbq
      have HQ := Lib.hid hbq
      clear hbq
      go_wp2_with fail
      go_roundw
      case rel => exact ⟨j + 1, by omega, by go_num, by go_num, bel_next HW.out HQ.out⟩
      case measure => simp [intOf]; omega
    · have hk1 : j = n := by omega
      subst hk1
      have HW := Lib.hid hw
      clear hw
      go_wp2_with fail
      go_ret
      exact ⟨rfl, HW.out⟩

theorem c_eqStringS_refl {w : World} {u v : Value} {xs : List ByteArray} (hu : SL w u xs) (hv : SL w v xs) : Calls Tryd.prog 60 #[u, v] w (Rd w (.bool true)) := by
  obtain ⟨ao, b, o, c, rfl, ha, hc⟩ := hu.ex
  obtain ⟨ao', b', o', c', rfl, ha', hc'⟩ := hv.ex
  have HC := Lib.hid hc
  have HA := Lib.hid ha
  have HC' := Lib.hid hc'
  have HA' := Lib.hid ha'
  obtain ⟨n, hn⟩ : ∃ n, n = xs.length := ⟨_, rfl⟩
  have hlen := hu.len
  rw [← hn] at HA HA' hlen ⊢
  have HN := Lib.hid hn
  clear hc ha hc' ha' hn hu hv
  go_enter Tryd.func60, Tryd.ntmps60
  go_wp2_with fail
  go_loopw [5] (fun i wr => ∃ j : Nat, j ≤ n ∧ i = .int .i64 j ∧ Drawn w wr) (fun i _ => n - (intOf i).toNat)
  case atStart => exact ⟨0, Nat.zero_le _, rfl, (by repeat (first | exact Drawn.refl _ | refine Drawn.step ?_ _ | refine Drawn.one ?_))⟩
  case round =>
    obtain ⟨j, hj, rfl, m, rfl⟩ := hrel
    by_cases hlt : j < n
    · obtain rfl := HA.out (by omega)
      obtain rfl := HA'.out (by omega)
      have hjx : j < xs.length := by have := HN.out; omega
      have c1 : w.cell? ⟨b, o + j, none⟩ = some (.string xs[j]) := HC.out j hjx
      have c2 : w.cell? ⟨b', o' + j, none⟩ = some (.string xs[j]) := HC'.out j hjx
      obtain ⟨x, hx⟩ : ∃ x, x = xs[j] := ⟨_, rfl⟩
      rw [← hx] at c1 c2
      have j1 : (j : Int) < (n : Int) := by omega
      clear hx
      go_wp2_with fail
      go_quiet (fail)
      go_wp2
      go_roundw
      case rel => exact ⟨j + 1, by omega, by go_num, (by repeat (first | exact Drawn.refl _ | refine Drawn.step ?_ _ | refine Drawn.one ?_))⟩
      case measure => simp [intOf]; omega
    · have hk1 : j = n := by omega
      subst hk1
      go_wp2_with fail
      go_ret
      exact rd_bool rfl (by repeat (first | exact Drawn.refl _ | refine Drawn.step ?_ _ | refine Drawn.one ?_))
end Go.Proofs.YtjlpmfimbgbcmaaDoor
