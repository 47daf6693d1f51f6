/-
  Chapter 1: l01Join of the reference.
-/
import Derived.Test.YtocgbhcfnphnhaaJoin1
namespace Go.Proofs.Ytocgbhcfnphnhaa
open Go.RowKit

theorem Own.opened {E : TypeId} {w : World} {B : Nat} {v : Value} {xs : List Int} (h : Own E w B v xs) : ∃ ao g c, v = .slice ao xs.length c ∧ (0 < xs.length → ao = some ⟨g, 0, none⟩ ∧ B ≤ g) := by
  rcases h.row.2 with ⟨rfl, hn⟩ | ⟨g, cap, cur, rfl, hB, _⟩
  · exact ⟨none, 0, 0, by rw [hn], fun h0 => by omega⟩
  · exact ⟨some ⟨g, 0, none⟩, g, cap, rfl, fun _ => ⟨rfl, hB⟩⟩
theorem Own.cellAt {E : TypeId} {w : World} {B g n c : Nat} {xs : List Int} (h : Own E w B (.slice (some ⟨g, 0, none⟩) n c) xs) (hn : n = xs.length) {i : Nat} (hi : i < xs.length) : w.cell? ⟨g, i, none⟩ = some (.int .i64 (gi xs i)) := by
  subst hn
  rw [h.row.cellAt i (by omega), gi_lt hi]
  simp [hi]
theorem Own.frozenAt {E : TypeId} {w : World} {B g n c : Nat} {xs : List Int} (h : Own E w B (.slice (some ⟨g, 0, none⟩) n c) xs) (hn : n = xs.length) (i : Nat) : w.frozen? ⟨g, i, none⟩ = false := by
  subst hn
  exact h.row.frozenAt i
theorem Own.set {E : TypeId} {w : World} {B g n c : Nat} {xs : List Int} (h : Own E w B (.slice (some ⟨g, 0, none⟩) n c) xs) (hn : n = xs.length) (i : Nat) {x : Int} (hx : I64 x) :
    Own E (w.setCell ⟨g, i, none⟩ (.int .i64 x)) B (.slice (some ⟨g, 0, none⟩) n c) (xs.set i x) := by
  subst hn
  have := (h.row.stored i (.int .i64 x)).1
  refine ⟨?_, ?_, by simpa using h.len⟩
  · rw [List.length_set, List.map_set]; exact this
  · intro z hz
    rcases List.mem_or_eq_of_mem_set hz with hz | rfl
    · exact h.wf z hz
    · exact hx

/-- Labels, of which the first i have been looked at. -/
def pr (a b : Int) (ls : List Int) (i : Nat) : List Int := relabel a b (ls.take i) ++ ls.drop i
theorem pr_length (a b : Int) (ls : List Int) (i : Nat) : (pr a b ls i).length = ls.length := by
  simp [pr, relabel_length]; omega
theorem pr_zero (a b : Int) (ls : List Int) : pr a b ls 0 = ls := by simp [pr, relabel]
theorem pr_end (a b : Int) (ls : List Int) : pr a b ls ls.length = relabel a b ls := by simp [pr]
theorem gi_pr {a b : Int} {ls : List Int} {i : Nat} (h : i < ls.length) : gi (pr a b ls i) i = gi ls i := by
  unfold pr
  rw [drop_gi h]
  exact gi_at_len (by rw [relabel_length]; simp; omega)
theorem pr_no {a b : Int} {ls : List Int} {i : Nat} (h : i < ls.length) (hb : ¬ gi ls i = b) : pr a b ls (i + 1) = pr a b ls i := by
  unfold pr
  rw [take_gi h, drop_gi h]
  simp [relabel, hb]
theorem pr_yes {a b : Int} {ls : List Int} {i : Nat} (h : i < ls.length) (hb : gi ls i = b) : pr a b ls (i + 1) = (pr a b ls i).set i a := by
  unfold pr
  rw [take_gi h, drop_gi h]
  have e : (relabel a b (ls.take i)).length = i := by rw [relabel_length]; simp; omega
  rw [List.set_append_right _ _ (by omega), e]
  simp [relabel, hb]
/-- Each is a pair of elements. -/
def PairsOk (n : Nat) (ps : List (List Int)) : Prop := ∀ i, i < ps.length → (gr ps i).length = 2 ∧ 0 ≤ gi (gr ps i) 0 ∧ gi (gr ps i) 0 < n ∧ 0 ≤ gi (gr ps i) 1 ∧ gi (gr ps i) 1 < n
theorem tab_upto (n : Nat) : tab (fun i => (i : Int)) n = upto n := rfl

set_option maxHeartbeats 800000 in
theorem c_l01Join {w : World} {v : Value} {ps : List (List Int)} (h : ISS w v ps) (n : Nat) (hn : n < 4294967296) (hok : PairsOk n ps) :
    Calls Try.prog 54 #[.int .i64 (n : Int), v] w (Mk w fun w' u => OwnT 2 w.heap.size w'.heap.size w' u (cls (joinL ps (upto n)))) := by
  obtain ⟨aop, bp, op, cp, R, rfl, hap, hcp, hrp⟩ := h.ex
  have hlen := h.len
  have HOK := Lib.hid hok
  have HRP := Lib.hid hrp
  clear h hok hrp
  have b1 := Below.refl w.heap.size w
  go_enter Try.func54, Try.ntmps54
  go_wp2_with fail
  go_loopw [5, 6] (fun out i wr => ∃ (k : Nat) (os : List Int), k ≤ n ∧ i = .int .i64 k ∧ Below w.heap.size w wr ∧ Own 2 wr w.heap.size out os ∧ os.length ≤ k ∧ Hid (os = tab (fun i => (i : Int)) k)) (fun _ i _ => n - (intOf i).toNat)
  case atStart => exact ⟨0, [], Nat.zero_le _, rfl, bel_alloc b1 _, Own.empty _ _ _ b1.size, Nat.le_refl _, rfl⟩
  case round =>
    obtain ⟨k, os, hk, rfl, hb, ho, hol, hp⟩ := hrel
    by_cases hlt : k < n
    · have hw0 := hb.size

      clear b1
      go_wp2_with (at_builtin; refine hold ?_)
      refine app1 (x := (fun i => (i : Int)) k) ho (by constructor <;> simp only [] <;> omega) (by omega) (by first | omega | (simp; omega)) Try.underlying24 infoInt64 (by rfl) _ _ (by rfl) (by rfl) (by rfl) ?_
      intro v' w2 ho2 g2
      have hb2 := g2.below hb (by first | omega | (simp; omega)) (fun k hk => (ho.lt k hk).1)
      clear ho g2 hb
      go_wp2_with fail
      go_roundw
      case rel => exact ⟨k + 1, _, by omega, by go_num, hb2, ho2, by simp; omega, by unfold Hid; rw [tab_succ, ← hp.out]⟩
      case measure => simp [intOf]; omega
    · have hk : n = k := by omega
      subst hk
      go_wp2_with fail
      have hl5 : os.length = n := by rw [hp.out, tab_length]
      have hp5 : os = upto n := hp.out
      subst hp5
      clear hp hol
      obtain ⟨ao5, g5, c5, hv5, hg5⟩ := ho.opened
      rw [upto_length] at hv5 hg5
      subst hv5
      obtain ⟨wo, rfl⟩ : ∃ wo : World, wo = wr := ⟨_, rfl⟩
      go_loopw [7, 8, 9, 10] (fun kv _ _ _ wr2 => ∃ (k : Nat) (ls : List Int), k ≤ ps.length ∧ kv = .int .i64 k ∧ Below w.heap.size w wr2 ∧ Own 2 wr2 w.heap.size (.slice ao5 n c5) ls ∧ Hid (ls.length = n ∧ joinL ps (upto n) = joinL (ps.drop k) ls)) (fun kv _ _ _ _ => ps.length - (intOf kv).toNat)
      case atStart => exact ⟨0, upto n, Nat.zero_le _, rfl, hb, ho, upto_length n, rfl⟩
      case round =>
        obtain ⟨k, ls, hk, rfl, hb2, ho2, hp2⟩ := hrel
        clear ho hb hl5 hlt
        by_cases hlt : k < ps.length
        · obtain rfl := hap (by omega)
          have cpk := IS.cellAt hb2 (hcp k hlt) rfl
          obtain ⟨hp20, hp21, hp22, hp23, hp24⟩ := HOK.out k hlt
          obtain ⟨aoq, bq, oq, cq, hRk, haq, hcq⟩ := (HRP.out k hlt).ex
          rw [hRk] at cpk
          have hq0 := hcq 0 (by omega)
          have hq1 := hcq 1 (by omega)
          obtain rfl := haq (by omega)
          have cq0 := IS.cellAt hb2 hq0 rfl
          have cq1 := IS.cellAt hb2 hq1 rfl
          rw [hp20] at cpk
          obtain ⟨x, hx⟩ := Int.eq_ofNat_of_zero_le hp21
          obtain ⟨y, hy⟩ := Int.eq_ofNat_of_zero_le hp23
          rw [hx] at cq0 hp22
          rw [hy] at cq1 hp24
          rw [Nat.add_zero] at cq0
          have hxn : x < n := by omega
          have hyn : y < n := by omega
          have hll : ls.length = n := hp2.out.1
          obtain ⟨rfl, hgB⟩ := hg5 (by omega)
          have cx := ho2.cellAt hll.symm (i := x) (by omega)
          have cy := ho2.cellAt hll.symm (i := y) (by omega)
          have HJ := Lib.hid (show joinL (ps.drop k) ls = joinL (ps.drop (k + 1)) (relabel (gi ls x) (gi ls y) ls) by rw [drop_gr hlt, joinL, hx, hy]; rfl)
          have HLL := Lib.hid hll
          have hax := gi_I64 ho2.wf x
          clear hx hy hp21 hp23 hp20 hRk hcq haq hq0 hq1 hcp hap hll
          go_wp2_with fail
          go_quiet (fail)
          obtain ⟨wq, hq⟩ : ∃ wq, wq = wr.drewN nq := ⟨_, rfl⟩
          rw [← hq]
          have hdq : Drawn wr wq := by subst hq; exact Drawn.step (Drawn.refl _) _
          clear hq
          replace hb2 := hb2.trans (hdq.below _)
          replace ho2 := ho2.kept (hdq.below _)
          clear hdq cpk cq0 cq1 cx cy
          obtain ⟨a, ha⟩ : ∃ a, gi ls x = a := ⟨_, rfl⟩
          obtain ⟨b, hbb⟩ : ∃ b, gi ls y = b := ⟨_, rfl⟩
          have HJ2 := HJ.out
          rw [ha, hbb] at HJ2
          rw [ha] at hax
          rw [ha, hbb]
          replace HJ := Lib.hid HJ2
          clear ha hbb HJ2
          go_wp2_with fail
          by_cases hab : a = b
          · subst hab
            have hne : (a != a) = false := by simp
            go_loopw [10] (fun iv wr3 => iv = .int .i64 0 ∧ wr3 = wq) (fun _ _ => 0)
            case atStart => exact ⟨rfl, rfl⟩
            case round =>
              obtain ⟨rfl, rfl⟩ := hrel
              go_wp2_with fail
              go_roundw
              case rel => exact ⟨k + 1, ls, by omega, by go_num, hb2, ho2, HLL.out, by rw [hp2.out.2, HJ.out, relabel_same]⟩
              case measure => simp [intOf]; omega
          · have hne : (a != b) = true := by simp [hab]
            have HAB := Lib.hid hab
            clear hab
            go_loopw [10] (fun iv wr3 => ∃ (i : Nat), i ≤ n ∧ iv = .int .i64 i ∧ Below w.heap.size w wr3 ∧ Own 2 wr3 w.heap.size (.slice (some ⟨g5, 0, none⟩) n c5) (pr a b ls i)) (fun iv _ => n - (intOf iv).toNat)
            case atStart => exact ⟨0, Nat.zero_le _, rfl, hb2, by rw [pr_zero]; exact ho2⟩
            case round =>
              obtain ⟨i, hi, rfl, hb3, ho3⟩ := hrel
              by_cases hil : i < n
              · have hpl := (pr_length a b ls i).trans HLL.out
                have ci := ho3.cellAt hpl.symm (i := i) (by omega)
                rw [gi_pr (by rw [HLL.out]; exact hil)] at ci
                have fi := ho3.frozenAt hpl.symm i
                by_cases he : gi ls i = b
                · have heb : (gi ls i == b) = true := by simp [he]
                  have HE := Lib.hid he
                  have HS := Lib.hid (ho3.set hpl.symm i hax)
                  rw [← pr_yes (by rw [HLL.out]; exact hil) he] at HS
                  clear he ho3 hpl ho2
                  go_wp2_with fail
                  go_roundw
                  case rel => exact ⟨i + 1, by omega, by go_num, hb3.setCell hgB _, HS.out⟩
                  case measure => simp [intOf]; omega
                · have heb : (gi ls i == b) = false := by simp [he]
                  have HS := Lib.hid ho3
                  rw [← pr_no (by rw [HLL.out]; exact hil) he] at HS
                  clear he ho3 hpl ho2
                  go_wp2_with fail
                  go_roundw
                  case rel => exact ⟨i + 1, by omega, by go_num, hb3, HS.out⟩
                  case measure => simp [intOf]; omega
              · have hie : i = n := by omega
                subst hie
                go_wp2_with fail
                go_roundw
                case rel => exact ⟨k + 1, _, by omega, by go_num, hb3, ho3, by rw [pr_length, HLL.out], by rw [hp2.out.2, HJ.out, ← pr_end, HLL.out]⟩
                case measure => simp [intOf]; omega
        · have hke : k = ps.length := by omega
          subst hke
          have hll : ls.length = n := hp2.out.1
          go_wp2_with fail
          refine (c_l01Classes ho2.is (by omega)).mono ?_
          rintro e w4 ⟨u4, rfl, o4, b4⟩
          go_wp2_with fail
          go_ret
          have e : joinL ps (upto n) = ls := by rw [hp2.out.2, List.drop_length]; rfl
          rw [e]
          exact ⟨_, rfl, ⟨o4.own.base hb2.size, o4.top⟩, hb2.trans (b4.mono hb2.size)⟩
end Go.Proofs.Ytocgbhcfnphnhaa
