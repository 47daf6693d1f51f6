/-
  Chapter 10: the sizes of the hom sets.
-/
import Derived.Test.YtkmkbmhpdnddnaaArr
namespace Go.Proofs.Ytkmkbmhpdnddnaa
open Go.RowKit
set_option maxHeartbeats 1600000 in
set_option maxRecDepth 100000 in
theorem c_homSizes {w : World} {b : Nat} {c : Cat} (P : PC w b c) (S : Shape c) : Calls Try.prog 89 #[.pointer (some ⟨b, 0, none⟩)] w
    (fun e w' => ∃ cs : Array Value, e = .returned (.agg cs) ∧ cs.size = 64 ∧ (∀ i, i < 64 → cs[i]? = some (.int .i64 (cntA c c.fr.length i))) ∧ Below w.heap.size w w') := by
  obtain ⟨aF, aT, aI, aC, bF, oF, kF, bT, oT, kT, bI, oI, kI, bC, oC, kC, bR, oR, kR, V⟩ := P.opens
  have m40 : c.fr.length ≤ 40 := by have := S.m40; unfold Cat.m at this; omega
  have n8 := S.n8
  have SH := Lib.hid S
  clear S P
  have r0 : (w.alloc (.cells z64 80)).rowIs w.heap.size 80 64 (fun _ => .int .i64 0) := World.rowIs_alloc w z64 _ _ fun i hi => z64_at (by simpa [z64_size] using hi)
  have g0 : ((w.alloc (.cells z64 80)).alloc (.cells z64 80)).rowIs (w.heap.size + 1) 80 64 (fun _ => .int .i64 0) := by
    have := World.rowIs_alloc (w.alloc (.cells z64 80)) z64 80 (fun _ => .int .i64 0) fun i hi => z64_at (by simpa [z64_size] using hi)
    simpa [z64_size] using this
  have r1 := r0.of_block (w' := (w.alloc (.cells z64 80)).alloc (.cells z64 80)) (Below.heap_alloc _ _ _ (by simp))
  have b0 : Below w.heap.size w ((w.alloc (.cells z64 80)).alloc (.cells z64 80)) := bel_alloc (bel_box _ _) _
  clear r0
  go_enter Try.func89, Try.ntmps89
  go_wp2_with (first | (refine wpList_alloc64 (by rfl) (by rfl) ?_) | (refine wpList_build64 (by rfl) (by rfl) ?_) | (refine stop_store (by rfl) ?_; refine hold ?_))
  have H0 := there_row g0
  have gS := rowIs_setCells z64.toList 0 _ _ g0
  have rS := r1.of_block (w' := ((w.alloc (.cells z64 80)).alloc (.cells z64 80)).setCells (w.heap.size + 1) 0 z64.toList) (heap_setCells (by omega) _ _ _)
  have bS := below_setCells (show w.heap.size ≤ w.heap.size + 1 by omega) z64.toList 0 _ _ b0
  have gS2 := gS.congr (g := fun _ => .int .i64 0) (fun j hj => by
    rw [if_pos ⟨Nat.zero_le _, by rw [Array.length_toList, z64_size]; omega⟩]
    have := z64_at hj
    simp only [Nat.sub_zero]
    rw [List.getD_eq_getElem?_getD, Array.getElem?_toList, this]
    rfl)
  show wpList Try.prog _ _ _ _ _
  refine wpList_store_mid rfl _ _ _ rfl (w.heap.size + 1) 0 z64 rfl rfl (by rw [z64_size]; exact H0) (by rw [z64_size]; exact info64) (by decide +kernel) ?_
  generalize ((w.alloc (.cells z64 80)).alloc (.cells z64 80)).setCells (w.heap.size + 1) 0 z64.toList = w1 at *
  clear gS g0 r1 b0 H0
  have c1 := (V.kept bS).c1
  have hgs := gS2.lt
  go_wp2_with fail
  clear c1
  go_loopw [4, 11] (fun _ i wr => ∃ k : Nat, k ≤ c.fr.length ∧ i = .int .i64 (k : Int) ∧ Below w.heap.size w wr ∧ wr.rowIs w.heap.size 80 64 (fun _ => .int .i64 0) ∧ wr.rowIs (w.heap.size + 1) 80 64 (fun j => .int .i64 (cntA c k j))) (fun _ i _ => c.fr.length - (intOf i).toNat)
  case atStart => exact ⟨0, Nat.zero_le _, rfl, bS, rS, gS2.congr (fun j _ => rfl)⟩
  case round =>
    clear bS rS gS2 hgs
    obtain ⟨k, hk, rfl, hb, hr, hg⟩ := hrel
    by_cases hlt : k < c.fr.length
    · have hA : c.Arr k := ⟨by omega, by unfold Cat.m; omega⟩
      obtain ⟨x, hx⟩ := Int.eq_ofNat_of_zero_le (SH.out.fO k hA).1
      obtain ⟨y, hy⟩ := Int.eq_ofNat_of_zero_le (SH.out.tO k hA).1
      have hx8 : x < 8 := by have := (SH.out.fO k hA).2; omega
      have hy8 : y < 8 := by have := (SH.out.tO k hA).2; omega
      have x8i : (x : Int) < 8 := by omega
      have y8i : (y : Int) < 8 := by omega
      have HCN : Hid (∀ i, cntA c (k + 1) i = if x * 8 + y = i then cntA c k i + 1 else cntA c k i) := fun i => by
        show (if (c.F k).toNat * 8 + (c.T k).toNat = i then cntA c k i + 1 else cntA c k i) = _
        rw [hx, hy]; rfl
      have HX := Lib.hid hx
      have HY := Lib.hid hy
      clear hx hy
      go_wp2_with fail
      refine wp_region_still_tail 20 (by kernel_rfl) (by kernel_rfl) ?_
      simp only [List.take_succ_cons, List.take_zero, List.drop_succ_cons, List.drop_zero]
      obtain ⟨wq, hq⟩ : ∃ wq, wq = wr.drew := ⟨_, rfl⟩
      change wpStill _ _ wr.drew _ _ _
      rw [← hq]
      have hdq : Drawn wr wq := by subst hq; exact Drawn.one (Drawn.refl _)
      have Hq := Lib.hid hq
      clear hq
      replace hb := hb.trans (hdq.below _)
      replace hr := hr.of_block (hdq.bel0.block _ hr.lt)
      replace hg := hg.of_block (hdq.bel0.block _ hg.lt)
      clear hdq
      have V3 := V.kept hb
      have c1 := V3.c1
      have c2 := V3.c2
      obtain ⟨rfl, rfl, rfl, rfl⟩ := V.som SH.out (by omega)
      have cF := V3.cF hA
      have cT := V3.cT SH.out hA
      simp only [Int.toNat_natCast] at cF cT
      rw [HX.out] at cF
      rw [HY.out] at cT
      have l1 : k < c.to.length := by rw [SH.out.tl]; exact hlt
      have hst := hg.cell (show x * 8 + y < 64 by omega)
      have hfz := hg.frozen (x * 8 + y)
      have hcb := cntA_bd c (x * 8 + y) k
      have HB := Lib.hid hb
      have HR := Lib.hid hr
      have HG := Lib.hid hg
      clear hb hr hg V3
      repeat still_step
      refine wpStill_nil ?_
      change wpList _ _ _ _ _ wr.drew
      rw [← Hq.out]
      clear Hq c1 c2 cF cT
      go_wp2_with fail
      go_roundw
      case rel => exact ⟨k + 1, by omega, by go_num, HB.out.setCell (by simp) _, HR.out.of_block (Below.heap_setCell _ _ _ _ (by simp)), (HG.out.set (x * 8 + y) _).congr (fun j _ => by
        rw [HCN.out]
        by_cases e : j = x * 8 + y
        · subst e; simp
        · rw [if_neg e, if_neg (Ne.symm e)])⟩
      case measure => simp [intOf]; omega
    · have hke : k = c.fr.length := by omega
      have hlb : decide ((k : Int) < (c.fr.length : Int)) = false := by simp; omega
      obtain ⟨cs, hcs, hcn, hca⟩ := hg
      rw [hke] at hca
      have hcb := hb
      have H0 := there_row hr
      have hall : cs.all (·.oneCell') = true := by
        rw [Array.all_eq_true]
        intro i hi
        have := hca i (by omega)
        rw [Array.getElem?_eq_getElem hi] at this
        injection this with this
        rw [this]; rfl
      have HB := Lib.hid hb
      have HR := Lib.hid hr
      have HCA := Lib.hid hca
      have HALL := Lib.hid hall
      have HCS := Lib.hid hcs
      have HT := Lib.hid H0
      clear hke hcb hb hr hca hall H0 hcs
      go_wp2_with (first | (refine stop_load (by rfl) ?_; refine hold ?_))
      have hlit : (wr.setCells w.heap.size 0 cs.toList).heap[w.heap.size]? = some (.cells cs 80 (0, 0)) :=
        rowIs_lit (by rw [hcn]; exact rowIs_setCells cs.toList 0 _ _ HR.out) (fun i hi => by
          rw [if_pos ⟨Nat.zero_le _, by simp; omega⟩, Nat.sub_zero, List.getD_eq_getElem?_getD, Array.getElem?_toList, Array.getElem?_eq_getElem hi]
          rfl)
      have HL := Lib.hid hlit
      have HBS := Lib.hid (below_setCells (Nat.le_refl _) cs.toList 0 _ _ HB.out)
      clear hlit
      show wpList Try.prog _ _ _ _ _
      refine wpList_load_row rfl _ _ rfl (w.heap.size + 1) rfl _ cs _ _ HCS.out Try.underlying80 rfl (by rw [hcn]; exact info64) ?_
      refine wpList_store_mid rfl _ _ _ rfl w.heap.size 0 cs rfl rfl (by rw [hcn]; exact HT.out) (by rw [hcn]; exact info64) HALL.out ?_
      generalize wr.setCells w.heap.size 0 cs.toList = wf at *
      go_wp2_with fail
      refine bodyPost_ret (results_cell_row rfl _ _ w.heap.size 80 cs (0, 0) _ (by rfl) HL.out Try.underlying80 rfl (by rw [hcn]; exact info64)) rfl ?_
      exact ⟨cs, rfl, hcn, HCA.out, HBS.out⟩
/-- The product with 2 .. j + 1, at most 5001. -/
def facI (v : Int) : Nat → Int
  | 0 => v
  | j + 1 => min (facI v j * ((j : Int) + 2)) 5001
theorem facI_bd {v : Int} (h : 1 ≤ v ∧ v ≤ 5001) : ∀ j, 1 ≤ facI v j ∧ facI v j ≤ 5001
  | 0 => h
  | j + 1 => by
    have ih := facI_bd h j
    have h1 : 1 * 1 ≤ facI v j * ((j : Int) + 2) := Int.mul_le_mul ih.1 (by omega) (by omega) (by omega)
    unfold facI
    omega
set_option maxHeartbeats 800000 in
theorem c_facI {w : World} {p B : Nat} {v : Int} {n : Int} (hB : B ≤ p) (hr : w.rowIs p 2 1 (fun _ => .int .i64 v)) (hv : 1 ≤ v ∧ v ≤ 5001) (hn : n ≤ 40) (hn0 : -1 ≤ n) :
    Calls Try.prog 88 #[.int .i64 n, .pointer (some ⟨p, 0, none⟩)] w (fun e w' => e = .returned (.tuple #[]) ∧ w'.rowIs p 2 1 (fun _ => .int .i64 (facI v (n - 1).toNat)) ∧ Below B w w') := by
  have HFB := Lib.hid (facI_bd hv)
  clear hv
  go_enter Try.func88, Try.ntmps88
  go_wp2_with fail
  go_loopw [3] (fun kv wr => ∃ j : Nat, j ≤ (n - 1).toNat ∧ kv = .int .i64 ((j : Int) + 2) ∧ Below B w wr ∧ wr.rowIs p 2 1 (fun _ => .int .i64 (facI v j))) (fun kv _ => 50 - (intOf kv).toNat)
  case atStart => exact ⟨0, Nat.zero_le _, rfl, Below.refl _ _, hr⟩
  case round =>
    clear hr
    obtain ⟨j, hj, rfl, hb, hr⟩ := hrel
    by_cases hlt : (j : Int) + 2 ≤ n
    · have hst := hr.cell (show 0 < 1 by omega)
      have hfz := hr.frozen 0
      have hfb := HFB.out j
      have HR := Lib.hid hr
      have HB := Lib.hid hb
      have hm0 : 0 ≤ facI v j * ((j : Int) + 2) := Int.mul_nonneg (by omega) (by omega)
      have hm1 : facI v j * ((j : Int) + 2) ≤ 5001 * 42 := Int.mul_le_mul hfb.2 (by omega) (by omega) (by omega)
      clear hr hb
      go_wp2_with fail
      have e : (if 5001 < facI v j * ((j : Int) + 2) then 5001 else facI v j * ((j : Int) + 2)) = facI v (j + 1) := by
        show _ = min (facI v j * ((j : Int) + 2)) 5001
        split <;> omega
      rw [e]
      refine ⟨⟨j + 1, by omega, by rw [show ((j + 1 : Nat) : Int) + 2 = (j : Int) + 2 + 1 by omega], HB.out.setCell hB _, (HR.out.set 0 _).congr (fun i hi => by rw [if_pos (by omega)])⟩, by simp [intOf]; omega⟩
    · have hje : j = (n - 1).toNat := by omega
      rw [hje] at hr
      clear hje
      go_wp2_with fail
      go_end0
      have e : (n - 1).toNat = n.toNat - 1 := by omega
      exact ⟨rfl, by first | exact hr | (rw [← e]; exact hr), hb⟩
end Go.Proofs.Ytkmkbmhpdnddnaa
