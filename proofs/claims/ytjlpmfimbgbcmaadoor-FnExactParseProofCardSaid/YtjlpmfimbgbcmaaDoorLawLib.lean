/-
  The laws' own helpers: toInt64S copies a list, eqInt64S compares two, markInt64S writes, heldInt64S looks.
-/
import Derived.Test.YtjlpmfimbgbcmaaDoorChecked
import Derived.Test.YtjlpmfimbgbcmaaDoorBase
namespace Go.Proofs.YtjlpmfimbgbcmaaDoor
open Go.RowKit

theorem infoInt64 : (Tryd.prog.info? 2).map (fun i => (i.zero, i.size, i.bytes)) = some (some (.int .i64 0), 1, 8) := by kernel_rfl

theorem c_toInt64S {w : World} {v : Value} {xs : List Int} (h : IS w v xs) :
    Calls Tryd.prog 47 #[v] w (Mk w fun w' u => OwnT 2 w.heap.size w'.heap.size w' u xs) := by
  obtain ⟨ao, b, o, c, rfl, ha, hc⟩ := h.ex
  have hlen := h.len
  have hwf := h.wf
  have hmk := run_make_row' (P := Tryd.prog) 42 2 (.int .i64 0) 8 Tryd.underlying42 infoInt64 rfl .i64 .i64 xs.length (by omega) (by omega)
  clear h
  go_enter Tryd.func47, Tryd.ntmps47
  go_wp2
  clear hmk
  go_loopw [4] (fun i wr => ∃ k : Nat, k ≤ xs.length ∧ i = .int .i64 k ∧ Below w.heap.size w wr ∧ wr.rowIs w.heap.size 2 xs.length (fun j => if j < k then .int .i64 (gi xs j) else .int .i64 0)) (fun i _ => xs.length - (intOf i).toNat)
  case atStart => exact ⟨0, Nat.zero_le _, rfl, (Below.refl _ _).alloc (Nat.le_refl _) _, (World.rowIs_made w _ _ _).congr (fun i _ => by simp)⟩
  case round =>
    obtain ⟨k, hk, rfl, hb, hr⟩ := hrel
    by_cases hlt : k < xs.length
    · obtain rfl := ha (by omega)
      have hx := hc k hlt
      have hx' : wr.cell? ⟨b, o + k, none⟩ = some (.int .i64 (gi xs k)) := (hb.cell (World.block_lt_of_cell? _ _ hx)).trans hx
      have hst := hr.cell hlt
      have hfz := hr.frozen k
      clear hx hc
      go_wp2
      go_roundw
      case rel => exact ⟨k + 1, by omega, by go_num, hb.setCell (Nat.le_refl _) _, (hr.set k _).congr (row_step _ _ _)⟩
      case measure => simp [intOf]; omega
    · have hk : k = xs.length := by omega
      subst hk
      go_wp2
      go_ret
      exact ⟨_, rfl, (Own.of_row hr (Nat.le_refl _) (fun i hi => if_pos hi) hwf hlen).top, hb⟩

theorem c_eqInt64S {w : World} {u v : Value} {xs ys : List Int} (hu : IS w u xs) (hv : IS w v ys) :
    Calls Tryd.prog 52 #[u, v] w (Rd w (.bool (xs == ys))) := by
  obtain ⟨ao, b, o, c, rfl, ha, hc⟩ := hu.ex
  obtain ⟨ao', b', o', c', rfl, ha', hc'⟩ := hv.ex
  have hlen := hu.len
  have hlen' := hv.len
  clear hu hv
  by_cases hl : xs.length = ys.length
  · have hlb : ((xs.length : Int) != (ys.length : Int)) = false := by simp [hl]
    have HL := Lib.hid hl
    clear hl
    go_enter Tryd.func52, Tryd.ntmps52
    go_wp2
    go_loopw [5] (fun i wr => ∃ k m : Nat, k ≤ xs.length ∧ i = .int .i64 k ∧ wr = w.drewN m ∧ Hid ((xs == ys) = (xs.drop k == ys.drop k))) (fun i _ => xs.length - (intOf i).toNat)
    case atStart => exact ⟨0, 0, Nat.zero_le _, rfl, rfl, rfl⟩
    case round =>
      obtain ⟨k, m, hk, rfl, rfl, hp⟩ := hrel
      by_cases hlt : k < xs.length
      · have hlt' : k < ys.length := by have := HL.out; omega
        obtain rfl := ha (by omega)
        obtain rfl := ha' (by omega)
        have cx := hc k hlt
        have cy := hc' k hlt'
        clear hc hc'
        have hs := Lib.hid (eq_step hlt hlt')
        by_cases he : gi xs k = gi ys k
        · have hne : (gi xs k != gi ys k) = false := by simp [he]
          have HE := Lib.hid he
          clear he
          go_wp2_with fail
          go_quiet (fail)
          go_wp2
          go_roundw
          case rel => exact ⟨k + 1, _, by omega, by go_num, rfl, by unfold Hid; rw [hp.out, hs.out.1 HE.out]⟩
          case measure => simp [intOf]; omega
        · have hne : (gi xs k != gi ys k) = true := by simp [he]
          have HE := Lib.hid he
          clear he
          go_wp2_with fail
          go_quiet (fail)
          go_wp2
          go_ret
          exact rd_bool (by rw [hp.out, hs.out.2 HE.out]) (by repeat (first | exact Drawn.refl _ | refine Drawn.step ?_ _ | refine Drawn.one ?_))
      · have hk' : k = xs.length := by omega
        subst hk'
        go_wp2
        go_ret
        refine rd_bool ?_ (by repeat (first | exact Drawn.refl _ | refine Drawn.step ?_ _ | refine Drawn.one ?_))
        have := HL.out
        rw [hp.out, List.drop_length, this, List.drop_length]; rfl
  · have hlb : ((xs.length : Int) != (ys.length : Int)) = true := by simp; omega
    go_enter Tryd.func52, Tryd.ntmps52
    go_wp2
    go_ret
    exact rd_bool (beq_false_of_length hl) (by repeat (first | exact Drawn.refl _ | refine Drawn.step ?_ _ | refine Drawn.one ?_))
theorem c_eqInt64S_refl {w : World} {u v : Value} {xs : List Int} (hu : IS w u xs) (hv : IS w v xs) : Calls Tryd.prog 52 #[u, v] w (Rd w (.bool true)) :=
  (c_eqInt64S hu hv).mono fun _ _ ⟨he, hd⟩ => ⟨by rw [he]; simp, hd⟩
theorem c_markInt64S {B T : Nat} {w : World} {v : Value} {xs : List Int} (h : OwnT 2 B T w v xs) (k : Int) (hk : 0 ≤ k) (hk' : k + xs.length ≤ 4611686018427387904) :
    Calls Tryd.prog 33 #[v, .int .i64 k] w (fun e w' => e = .returned (.int .i64 (k + xs.length)) ∧ OwnT 2 B T w' v (mkI k xs.length) ∧ Within B T w w') := by
  have hlen := h.own.len
  have hwf := h.own.wf
  have hrow := h.own.row
  have htop := h.top
  clear h
  obtain ⟨ao, b, n, c, hv, hn, ha⟩ : ∃ (ao : Option Addr) (b n c : Nat), v = .slice ao n c ∧ n = xs.length ∧ (0 < n → ao = some ⟨b, 0, none⟩ ∧ B ≤ b ∧ b < T) := by
    rcases hrow.2 with ⟨rfl, hn⟩ | ⟨g, cap, cur, rfl, hB, hg, -⟩
    · exact ⟨none, 0, 0, 0, rfl, hn.symm, fun h0 => by omega⟩
    · exact ⟨some ⟨g, 0, none⟩, g, xs.length, cap, rfl, rfl, fun _ => ⟨rfl, hB, htop g rfl⟩⟩
  subst hv
  have hL : xs.length ≤ 4294967296 := hlen
  obtain ⟨ys, hys, hyl⟩ : ∃ ys : List Int, ys = xs ∧ ys.length = n := ⟨xs, rfl, hn.symm⟩
  rw [← hn] at hk' hlen hrow ⊢
  clear hn hys hyl hL
  go_enter Tryd.func33, Tryd.ntmps33
  go_wp2
  go_loopw [1, 5] (fun q i wr => ∃ j : Nat, j ≤ n ∧ i = .int .i64 j ∧ q = .int .i64 (k + j) ∧ Within B T w wr ∧ wr.ownsRow B 2 1 (.slice ao n c) n ((mkI k j ++ xs.drop j).map (Value.int .i64))) (fun _ i _ => n - (intOf i).toNat)
  case atStart => exact ⟨0, Nat.zero_le _, rfl, by go_num, Within.refl _ _ _, by simpa [mkI] using hrow⟩
  case round =>
    obtain ⟨j, hj, rfl, rfl, hw, hr⟩ := hrel
    by_cases hlt : j < n
    · obtain ⟨rfl, hB, hT⟩ := ha (by omega)
      have hll : j < ((mkI k j ++ xs.drop j).map (Value.int .i64)).length := by have := hr.1; omega
      have hst := hr.cellAt j (by omega)
      rw [List.getElem?_eq_getElem hll] at hst
      have hfz := hr.frozenAt j
      obtain ⟨z, hz⟩ : ∃ z, ((mkI k j ++ xs.drop j).map (Value.int .i64))[j] = z := ⟨_, rfl⟩
      rw [hz] at hst
      have hr2 := hr.stored j (.int .i64 (k + j))
      have hlx : j < xs.length := by
        have h1 := hrow.1
        simp at h1; omega
      rw [mark_step hlx] at hr2
      clear hrow hr hll hz ha
      go_wp2
      go_roundw
      case rel => exact ⟨j + 1, by omega, by go_num, by go_num, hw.setCell hB hT _, hr2.1⟩
      case measure => simp [intOf]; omega
    · have hk1 : j = n := by omega
      subst hk1
      have hlx : xs.length = j := by
        have h1 := hrow.1
        simp at h1; omega
      rw [List.drop_of_length_le (by omega), List.append_nil] at hr
      go_wp2
      go_ret
      exact ⟨rfl, ⟨⟨by rw [mkI_length]; exact hr, mkI_I64 hk hk', by rw [mkI_length]; omega⟩, htop⟩, hw⟩
theorem c_heldInt64S {w : World} {v : Value} {k : Int} {n : Nat} (h : IS w v (mkI k n)) (hk : 0 ≤ k) (hk' : k + n ≤ 4611686018427387904) :
    Calls Tryd.prog 36 #[v, .int .i64 k] w (Rd w (.int .i64 (k + n))) := by
  obtain ⟨ao, b, o, c, rfl, ha, hc⟩ := h.ex
  clear h
  rw [mkI_length] at ha hc ⊢
  go_enter Tryd.func36, Tryd.ntmps36
  go_wp2
  go_loopw [1, 5] (fun q i wr => ∃ j m : Nat, j ≤ n ∧ i = .int .i64 j ∧ q = .int .i64 (k + j) ∧ wr = w.drewN m) (fun _ i _ => n - (intOf i).toNat)
  case atStart => exact ⟨0, 0, Nat.zero_le _, rfl, by go_num, rfl⟩
  case round =>
    obtain ⟨j, m, hj, rfl, rfl, rfl⟩ := hrel
    by_cases hlt : j < n
    · obtain rfl := ha (by omega)
      have cx := hc j hlt
      rw [gi_mkI hlt] at cx
      clear hc
      go_wp2
      go_roundw
      case rel => exact ⟨j + 1, _, by omega, by go_num, by go_num, rfl⟩
      case measure => simp [intOf]; omega
    · have hk1 : j = n := by omega
      subst hk1
      go_wp2
      go_ret
      exact rd_int rfl (by repeat (first | exact Drawn.refl _ | refine Drawn.step ?_ _ | refine Drawn.one ?_))
end Go.Proofs.YtjlpmfimbgbcmaaDoor
