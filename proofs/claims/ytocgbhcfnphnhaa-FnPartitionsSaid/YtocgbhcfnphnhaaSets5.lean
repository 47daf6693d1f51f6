/-
  Chapter 1: KernelOf, MeetPartitions of program and reference.
-/
import Derived.Test.YtocgbhcfnphnhaaNormal
import Derived.StillTailTactics
namespace Go.Proofs.Ytocgbhcfnphnhaa
open Go.RowKit

/-- What KernelOf returns. -/
def kernelR (n : Int) (f : List Int) : List Int × Int := if codeOf n f = 0 then (cls f, 0) else ([], codeOf n f)
/-- Both lists are partitions of one set. -/
def twoParts (p q : List Int) : Bool := isPart p && (isPart q && decide (p.length = q.length))
theorem isPart_bd {p : List Int} (h : isPart p = true) : p.length ≤ 256 ∧ ∀ i, 0 ≤ gi p i ∧ gi p i ≤ 256 := by
  simp [isPart] at h
  refine ⟨h.1, fun i => ?_⟩
  by_cases hi : i < p.length
  · have hm := gi_mem hi
    have := cls_bd p (gi p i) (by rw [← h.2]; exact hm)
    omega
  · unfold gi
    rw [List.getD_eq_getElem?_getD, List.getElem?_eq_none (by omega)]; simp
theorem eq_len (a b : Nat) : ((a : Int) == (b : Int)) = decide (a = b) := by
  have := ne_len a b
  by_cases h : a = b
  · simp [h]
  · have h2 : (a : Int) ≠ b := by omega
    rw [beq_eq_false_iff_ne.2 h2]; simp [h]
theorem c_pairOfPartitions {w : World} {u v : Value} {p q : List Int} (hp : IS w u p) (hq : IS w v q) : Calls Try.prog 47 #[u, v] w (Ret w (.bool (twoParts p q))) := by
  obtain ⟨ao, b, o, c, hu, -⟩ := hp.ex
  obtain ⟨ao', b', o', c', hv, -⟩ := hq.ex
  have l1 := hp.len
  have l2 := hq.len
  have HP := Lib.hid hp
  have HQ := Lib.hid hq
  clear hp hq
  subst hu hv
  have hlb := eq_len p.length q.length
  by_cases h1 : isPart p = true
  · by_cases h2 : isPart q = true
    · go_enter Try.func47, Try.ntmps47
      go_wp2_with fail
      refine (i_IsPartition HP.out).mono ?_
      rintro e w1 ⟨rfl, b1⟩
      go_wp2_with fail
      refine (i_IsPartition (HQ.out.kept b1)).mono ?_
      rintro e w2 ⟨rfl, b2⟩
      go_wp2_with fail
      go_ret
      exact ⟨by simp [twoParts, h1, h2], b1.trans (b2.mono b1.size)⟩
    · go_enter Try.func47, Try.ntmps47
      go_wp2_with fail
      refine (i_IsPartition HP.out).mono ?_
      rintro e w1 ⟨rfl, b1⟩
      go_wp2_with fail
      refine (i_IsPartition (HQ.out.kept b1)).mono ?_
      rintro e w2 ⟨rfl, b2⟩
      go_wp2_with fail
      go_ret
      exact ⟨by simp [twoParts, h1, h2], b1.trans (b2.mono b1.size)⟩
  · go_enter Try.func47, Try.ntmps47
    go_wp2_with fail
    refine (i_IsPartition HP.out).mono ?_
    rintro e w1 ⟨rfl, b1⟩
    go_wp2_with fail
    go_ret
    exact ⟨by simp [twoParts, h1], b1⟩
theorem c_l01Both {w : World} {u v : Value} {p q : List Int} (hp : IS w u p) (hq : IS w v q) : Calls Try.prog 52 #[u, v] w (Ret w (.bool (twoParts p q))) := by
  obtain ⟨ao, b, o, c, hu, -⟩ := hp.ex
  obtain ⟨ao', b', o', c', hv, -⟩ := hq.ex
  have l1 := hp.len
  have l2 := hq.len
  have HP := Lib.hid hp
  have HQ := Lib.hid hq
  clear hp hq
  subst hu hv
  have hlb := eq_len p.length q.length
  by_cases h1 : isPart p = true
  · by_cases h2 : isPart q = true
    · go_enter Try.func52, Try.ntmps52
      go_wp2_with fail
      refine (s_IsPartition HP.out).mono ?_
      rintro e w1 ⟨rfl, b1⟩
      go_wp2_with fail
      refine (s_IsPartition (HQ.out.kept b1)).mono ?_
      rintro e w2 ⟨rfl, b2⟩
      go_wp2_with fail
      go_ret
      exact ⟨by simp [twoParts, h1, h2], b1.trans (b2.mono b1.size)⟩
    · go_enter Try.func52, Try.ntmps52
      go_wp2_with fail
      refine (s_IsPartition HP.out).mono ?_
      rintro e w1 ⟨rfl, b1⟩
      go_wp2_with fail
      refine (s_IsPartition (HQ.out.kept b1)).mono ?_
      rintro e w2 ⟨rfl, b2⟩
      go_wp2_with fail
      go_ret
      exact ⟨by simp [twoParts, h1, h2], b1.trans (b2.mono b1.size)⟩
  · go_enter Try.func52, Try.ntmps52
    go_wp2_with fail
    refine (s_IsPartition HP.out).mono ?_
    rintro e w1 ⟨rfl, b1⟩
    go_wp2_with fail
    go_ret
    exact ⟨by simp [twoParts, h1], b1⟩
/-- The labels of the meet. -/
def meetL (p q : List Int) : List Int := tab (fun i => gi p i * 256 + gi q i) p.length
/-- What MeetPartitions returns. -/
def meetR (p q : List Int) : List Int × Int := if twoParts p q = true then (cls (meetL p q), 0) else ([], 1)
theorem i_MeetPartitions {w : World} {u v : Value} {p q : List Int} (hp : IS w u p) (hq : IS w v q) : Calls Try.prog 14 #[u, v] w (Mk2 2 w (meetR p q)) := by
  have hm := c_pairOfPartitions hp hq
  obtain ⟨ao, b, o, c, rfl, ha, hc⟩ := hp.ex
  obtain ⟨ao', b', o', c', rfl, ha', hc'⟩ := hq.ex
  have Hm := Lib.hid hm
  clear hp hq hm
  by_cases h1 : twoParts p q = true
  · have h1' := h1
    simp [twoParts] at h1'
    obtain ⟨hp1, hp2⟩ := isPart_bd h1'.1
    obtain ⟨hq1, hq2⟩ := isPart_bd h1'.2.1
    have hlen : p.length ≤ q.length := by omega
    have HP2 := Lib.hid hp2
    have HQ2 := Lib.hid hq2
    have H1 := Lib.hid h1
    clear h1' h1 hp2 hq2
    have hmk := run_make_row' (P := Try.prog) 24 2 (.int .i64 0) 8 Try.underlying24 infoInt64 rfl .i64 .i64 p.length (by omega) (by omega)
    have H1b := H1.out
    go_enter Try.func14, Try.ntmps14
    go_wp2_with fail
    refine Hm.out.mono ?_
    rintro e w1 ⟨rfl, b1⟩
    clear Hm
    go_wp2_with fail
    clear hmk H1b
    go_loopw [7, 8, 18] (fun _ _ i wr => ∃ k : Nat, k ≤ p.length ∧ i = .int .i64 k ∧ Below w.heap.size w wr ∧ w1.heap.size < wr.heap.size ∧ wr.rowIs w1.heap.size 2 p.length (fun j => if j < k then .int .i64 (gi (meetL p q) j) else .int .i64 0)) (fun _ _ i _ => p.length - (intOf i).toNat)
    case atStart => exact ⟨0, Nat.zero_le _, rfl, bel_alloc b1 _, by simp, (World.rowIs_made w1 _ _ _).congr (fun i _ => by simp)⟩
    case round =>
      obtain ⟨k, hk, rfl, hb, hw1, hr⟩ := hrel
      by_cases hlt : k < p.length
      · obtain rfl := ha (by omega)
        obtain rfl := ha' (by omega)
        have x1 := IS.cellAt hb (hc k hlt) rfl
        have x2 := IS.cellAt hb (hc' k (by omega)) rfl
        have y1 := HP2.out k
        have y2 := HQ2.out k
        have hst := hr.cell hlt
        have hfz := hr.frozen k
        have hb1 := b1.size
        have HG := Lib.hid (gi_tab (g := fun i => gi p i * 256 + gi q i) hlt)
        clear hc hc' b1
        go_wp2_with fail
        go_roundw
        case rel => exact ⟨k + 1, by omega, by go_num, hb.setCell hb1 _, by simpa using hw1, (hr.set k _).congr (row_step2 _ _ _ _ (fun j => .int .i64 (gi (meetL p q) j)) (by rw [meetL, HG.out]))⟩
        case measure => simp [intOf]; omega
      · have hk : k = p.length := by omega
        subst hk
        have hI : IS wr (.slice (some ⟨w1.heap.size, 0, none⟩) p.length p.length) (meetL p q) := by
          have e : p.length = (meetL p q).length := (tab_length _ _).symm
          rw [e] at hr ⊢
          exact (Own.of_row hr (Nat.le_refl _) (fun i hi => if_pos hi) (tab_I64 fun i _ => by have := HP2.out i; have := HQ2.out i; constructor <;> omega) (by rw [← e]; omega)).is
        have HI := Lib.hid hI
        clear hI hr
        go_wp2_with fail
        refine (c_normal HI.out).mono ?_
        rintro e w2 ⟨u2, rfl, o2, b2⟩
        go_wp2_with fail
        go_ret2
        exact mk2_own (by rw [meetR, if_pos H1.out]) (o2.own.base hb.size) (hb.trans (b2.mono hb.size))
  · have H1 := Lib.hid h1
    go_enter Try.func14, Try.ntmps14
    go_wp2_with fail
    refine Hm.out.mono ?_
    rintro e w1 ⟨rfl, b1⟩
    go_wp2_with fail
    go_ret2
    exact mk2_nil (by rw [meetR, if_neg H1.out]) b1
theorem s_MeetPartitions {w : World} {u v : Value} {p q : List Int} (hp : IS w u p) (hq : IS w v q) : Calls Try.prog 16 #[u, v] w (Mk2 2 w (meetR p q)) := by
  have hm := c_l01Both hp hq
  obtain ⟨ao, b, o, c, rfl, ha, hc⟩ := hp.ex
  obtain ⟨ao', b', o', c', rfl, ha', hc'⟩ := hq.ex
  have Hm := Lib.hid hm
  clear hp hq hm
  by_cases h1 : twoParts p q = true
  · have h1' := h1
    simp [twoParts] at h1'
    obtain ⟨hp1, hp2⟩ := isPart_bd h1'.1
    obtain ⟨hq1, hq2⟩ := isPart_bd h1'.2.1
    have hlen : p.length ≤ q.length := by omega
    have HP2 := Lib.hid hp2
    have HQ2 := Lib.hid hq2
    have H1 := Lib.hid h1
    clear h1' h1 hp2 hq2
    have H1b := H1.out
    go_enter Try.func16, Try.ntmps16
    go_wp2_with fail
    refine Hm.out.mono ?_
    rintro e w1 ⟨rfl, b1⟩
    clear Hm
    go_wp2_with fail
    clear H1b
    go_loopw [6, 7] (fun out i wr => ∃ (k : Nat) (os : List Int), k ≤ p.length ∧ i = .int .i64 k ∧ Below w.heap.size w wr ∧ Own 2 wr w.heap.size out os ∧ os.length ≤ k ∧ Hid (os = tab (fun i => gi p i * 256 + gi q i) k)) (fun _ i _ => p.length - (intOf i).toNat)
    case atStart => exact ⟨0, [], Nat.zero_le _, rfl, bel_alloc b1 _, Own.empty _ _ _ b1.size, Nat.le_refl _, rfl⟩
    case round =>
      obtain ⟨k, os, hk, rfl, hb, ho, hol, hp⟩ := hrel
      by_cases hlt : k < p.length
      · have hw0 := hb.size
        obtain rfl := ha (by omega)
        obtain rfl := ha' (by omega)
        have hkq : k < q.length := by omega
        have x1 := IS.cellAt hb (hc k hlt) rfl
        have x2 := IS.cellAt hb (hc' k (by omega)) rfl
        have y1 := HP2.out k
        have y2 := HQ2.out k
        have e1 : IntKind.i64.wrap (gi p k * 256) = gi p k * 256 := IntWalk.i64_in _ (by omega)
        have e2 : IntKind.i64.wrap (gi p k * 256 + gi q k) = gi p k * 256 + gi q k := IntWalk.i64_in _ (by omega)
        clear hc hc'
        clear b1
        have HX : Hid (I64 ((fun i => gi p i * 256 + gi q i) k)) := (by constructor <;> simp only [] <;> omega)
        go_wp2_with fail
        have HO : ∀ o, Own 2 ((wr.alloc o).drew) w.heap.size _ os := fun o => (ho.alloc o).kept (Drawn.below (by repeat (first | exact Drawn.refl _ | refine Drawn.step ?_ _ | refine Drawn.one ?_)) _)
        have HB : ∀ o, Below w.heap.size w ((wr.alloc o).drew) := fun o => (bel_alloc hb o).trans (Drawn.below (by repeat (first | exact Drawn.refl _ | refine Drawn.step ?_ _ | refine Drawn.one ?_)) _)
        have HOh := Lib.hid HO
        have HBh := Lib.hid HB
        clear HO HB ho hb
        go_region_law ((refine stepApp1 (n := wr.heap.size) (x := (fun i => gi p i * 256 + gi q i) k) (HOh.out _) HX.out ?_ ?_ ?_ Try.underlying24 infoInt64 ?_ (.tmp 19) (.tmp 30) ?_ ?_ ?_ ?_; (· simp); (· omega); (· (simp; omega)); (· rfl); (· rfl); (· rfl); (· rfl); intro v' w2 ho2 g2))
        all_goals
          have hb2 := g2.below (HBh.out _) (by simp; omega) (fun k hk => ((HOh.out (.map #[] 0)).lt k hk).1)
          clear HOh HBh g2
          go_wp2_with fail
          go_roundw
          case rel => exact ⟨k + 1, _, by omega, by go_num, hb2, ho2, by simp; omega, by unfold Hid; rw [tab_succ, ← hp.out]⟩
          case measure => simp [intOf]; omega
      · have hk : k = p.length := by omega
        subst hk
        go_wp2_with fail
        refine (c_l01Classes ho.is (by omega)).mono ?_
        rintro e w2 ⟨u2, rfl, o2, b2⟩
        go_wp2_with fail
        go_ret2
        exact mk2_own (by rw [meetR, if_pos H1.out, meetL, ← hp.out]) (o2.own.base hb.size) (hb.trans (b2.mono hb.size))
  · have H1 := Lib.hid h1
    go_enter Try.func16, Try.ntmps16
    go_wp2_with fail
    refine Hm.out.mono ?_
    rintro e w1 ⟨rfl, b1⟩
    go_wp2_with fail
    go_ret2
    exact mk2_nil (by rw [meetR, if_neg H1.out]) b1
end Go.Proofs.Ytocgbhcfnphnhaa
