/-
  Chapter 33: chains: the plain law and the program.
-/
import Derived.Test.YtkmkbmhpdnddnaaCat7
import Derived.Deep.RegionHeld
import Derived.StillTailTactics
namespace Go.Proofs.Ytkmkbmhpdnddnaa
open Go.RowKit

def anyP (_ : Int) : Bool := true
def movP (c : Cat) (f : Int) : Bool := !(c.I (c.F f) == f)
/-- The next row, the first j arrows counted. -/
def stp (c : Cat) (p : Int → Bool) (row : List Int) : Nat → List Int
  | 0 => List.replicate c.n.toNat 0
  | j + 1 => if p (j : Int) then (stp c p row j).set (c.T j).toNat (gi (stp c p row j) (c.T j).toNat + gi row (c.F j).toNat) else stp c p row j
def wlk (c : Cat) (p : Int → Bool) : Nat → List Int
  | 0 => List.replicate c.n.toNat 1
  | k + 1 => stp c p (wlk c p k) c.fr.length
def chn (c : Cat) (p : Int → Bool) (k : Nat) : Int := (wlk c p k).sum
theorem stp_length (c : Cat) (p : Int → Bool) (row : List Int) (j : Nat) : (stp c p row j).length = c.n.toNat := by
  induction j with
  | zero => simp [stp]
  | succ j ih => unfold stp; split <;> simp [ih]
theorem wlk_length (c : Cat) (p : Int → Bool) (k : Nat) : (wlk c p k).length = c.n.toNat := by
  cases k with
  | zero => simp [wlk]
  | succ k => exact stp_length _ _ _ _
theorem stp_yes {c : Cat} {p : Int → Bool} {row : List Int} {j : Nat} (h : p (j : Int) = true) : stp c p row (j + 1) = (stp c p row j).set (c.T j).toNat (gi (stp c p row j) (c.T j).toNat + gi row (c.F j).toNat) := by
  rw [stp, if_pos h]
theorem stp_no {c : Cat} {p : Int → Bool} {row : List Int} {j : Nat} (h : p (j : Int) = false) : stp c p row (j + 1) = stp c p row j := by
  rw [stp, if_neg (by rw [h]; exact Bool.false_ne_true)]
def Bd (l : List Int) (M : Int) : Prop := ∀ i, 0 ≤ gi l i ∧ gi l i ≤ M
theorem gi_ge {l : List Int} {i : Nat} (h : l.length ≤ i) : gi l i = 0 := by
  simp [gi, List.getElem?_eq_none h]
theorem gi_set (l : List Int) (t i : Nat) (v : Int) : gi (l.set t v) i = gi l i ∨ gi (l.set t v) i = v := by
  by_cases hi : i < l.length
  · rw [gi_lt (by simpa using hi), gi_lt hi, List.getElem_set]
    split
    · exact .inr rfl
    · exact .inl rfl
  · left; rw [gi_ge (by simp; omega), gi_ge (by omega)]
theorem gi_rep (n i : Nat) (x : Int) : gi (List.replicate n x) i = x ∨ gi (List.replicate n x) i = 0 := by
  by_cases hi : i < n
  · left; rw [gi_lt (by simpa using hi)]; simp
  · right; exact gi_ge (by simp; omega)
theorem stp_bd {c : Cat} {p : Int → Bool} {row : List Int} {M : Int} (h : Bd row M) (M0 : 0 ≤ M) : ∀ j : Nat, Bd (stp c p row j) ((j : Int) * M)
  | 0 => fun i => by
    have := gi_rep c.n.toNat i 0
    simp only [stp]
    have e : ((0 : Nat) : Int) * M = 0 := by simp
    rw [e]
    omega
  | j + 1 => fun i => by
    have ih := stp_bd (c := c) (p := p) h M0 j
    have e : ((j + 1 : Nat) : Int) * M = (j : Int) * M + M := by
      rw [Int.natCast_add, Int.add_mul]
      simp
    rw [e]
    cases hp : p (j : Int) with
    | true =>
      rw [stp_yes hp]
      have h1 := ih i
      have h2 := ih (c.T j).toNat
      have h3 := h (c.F j).toNat
      rcases gi_set (stp c p row j) (c.T j).toNat i (gi (stp c p row j) (c.T j).toNat + gi row (c.F j).toNat) with h4 | h4 <;> omega
    | false =>
      rw [stp_no hp]
      have h1 := ih i
      omega
def m40 : Nat → Nat
  | 0 => 1
  | k + 1 => 40 * m40 k
theorem m40_le {k : Nat} (h : k ≤ 8) : m40 k ≤ 6553600000000 := by
  have : ∀ k : Fin 9, m40 k.val ≤ 6553600000000 := by decide
  exact this ⟨k, by omega⟩
theorem mul_le40 {f M : Nat} (h : f ≤ 40) : (f : Int) * (M : Int) ≤ ((40 * M : Nat) : Int) := by
  have := Nat.mul_le_mul_right M h
  rw [← Int.natCast_mul]
  omega
theorem wlk_bd {c : Cat} (p : Int → Bool) (hm : c.fr.length ≤ 40) : ∀ k : Nat, Bd (wlk c p k) (m40 k : Int)
  | 0 => fun i => by
    have := gi_rep c.n.toNat i 1
    simp only [wlk, m40]
    omega
  | k + 1 => fun i => by
    have ih := stp_bd (c := c) (p := p) (wlk_bd p hm k) (by omega) c.fr.length i
    have := mul_le40 (M := m40 k) hm
    simp only [wlk, m40]
    omega
theorem wlk_num {c : Cat} (p : Int → Bool) (hm : c.fr.length ≤ 40) {k : Nat} (hk : k ≤ 8) (i : Nat) : 0 ≤ gi (wlk c p k) i ∧ gi (wlk c p k) i ≤ 6553600000000 := by
  have h1 := wlk_bd p hm k i
  have h2 := m40_le hk
  omega
theorem stp_num {c : Cat} (p : Int → Bool) (hm : c.fr.length ≤ 40) {k f : Nat} (hk : k < 8) (hf : f ≤ c.fr.length) (i : Nat) : 0 ≤ gi (stp c p (wlk c p k) f) i ∧ gi (stp c p (wlk c p k) f) i ≤ 6553600000000 := by
  have h1 := stp_bd (c := c) (p := p) (wlk_bd p hm k) (by omega) f i
  have h2 := m40_le (show k + 1 ≤ 8 from hk)
  have h3 := mul_le40 (f := f) (M := m40 k) (by omega)
  simp only [m40] at h2
  omega
theorem sum_take {l : List Int} {i : Nat} (h : i < l.length) : (l.take (i + 1)).sum = (l.take i).sum + gi l i := by
  rw [take_gi h, List.sum_append]; simp
theorem sum_bd {l : List Int} (h : ∀ i, 0 ≤ gi l i ∧ gi l i ≤ 6553600000000) : ∀ i : Nat, i ≤ l.length → 0 ≤ (l.take i).sum ∧ (l.take i).sum ≤ (i : Int) * 6553600000000
  | 0, _ => by simp
  | i + 1, hi => by
    rw [sum_take (by omega)]
    have h1 := sum_bd h i (by omega)
    have h2 := h i
    omega
theorem chn_bd {c : Cat} (p : Int → Bool) (hm : c.fr.length ≤ 40) (hn : c.n ≤ 8) {k : Nat} (hk : k ≤ 8) : 0 ≤ chn c p k ∧ chn c p k ≤ 52428800000000 := by
  have h1 := sum_bd (wlk_num p hm hk) (wlk c p k).length (Nat.le_refl _)
  have h2 := wlk_length c p k
  rw [List.take_length] at h1
  unfold chn
  omega
theorem Own.cellAt2 {E : TypeId} {w : World} {B g n c : Nat} {xs : List Int} (h : Own E w B (.slice (some ⟨g, 0, none⟩) n c) xs) (hn : n = xs.length) {i : Nat} (hi : i < xs.length) : w.cell? ⟨g, i, none⟩ = some (.int .i64 (gi xs i)) := by
  subst hn
  rw [h.row.cellAt i (by omega), gi_lt hi]
  simp [hi]
theorem Own.frozenAt2 {E : TypeId} {w : World} {B g n c : Nat} {xs : List Int} (h : Own E w B (.slice (some ⟨g, 0, none⟩) n c) xs) (hn : n = xs.length) (i : Nat) : w.frozen? ⟨g, i, none⟩ = false := by
  subst hn
  exact h.row.frozenAt i
theorem Own.set2 {E : TypeId} {w : World} {B g n c : Nat} {xs : List Int} (h : Own E w B (.slice (some ⟨g, 0, none⟩) n c) xs) (hn : n = xs.length) (i : Nat) {x : Int} (hx : I64 x) :
    Own E (w.setCell ⟨g, i, none⟩ (.int .i64 x)) B (.slice (some ⟨g, 0, none⟩) n c) (xs.set i x) := by
  subst hn
  have := (h.row.stored i (.int .i64 x)).1
  refine ⟨?_, ?_, by simpa using h.len⟩
  · rw [List.length_set, List.map_set]; exact this
  · intro z hz
    rcases List.mem_or_eq_of_mem_set hz with hz | rfl
    · exact h.wf z hz
    · exact hx
theorem Own.opened2 {E : TypeId} {w : World} {B : Nat} {v : Value} {xs : List Int} (h : Own E w B v xs) : ∃ ao g c, v = .slice ao xs.length c ∧ (0 < xs.length → ao = some ⟨g, 0, none⟩ ∧ B ≤ g ∧ g < w.heap.size) := by
  rcases h.row.2 with ⟨rfl, hn⟩ | ⟨g, cap, cur, rfl, hB, hg, _⟩
  · exact ⟨none, 0, 0, by rw [hn], fun h0 => by omega⟩
  · exact ⟨some ⟨g, 0, none⟩, g, cap, rfl, fun _ => ⟨rfl, hB, (h.lt g rfl).2⟩⟩
theorem Own.made (E : TypeId) (w : World) (B N : Nat) (hB : B ≤ w.heap.size) (hN : N ≤ 8) : Own E (w.alloc (.cells (madeCells #[.int .i64 0] N) E)) B (.slice (some ⟨w.heap.size, 0, none⟩) N N) (List.replicate N 0) := by
  have h := Own.of_row (E := E) (w := w.alloc (.cells (madeCells #[.int .i64 0] N) E)) (B := B) (b := w.heap.size) (xs := List.replicate N 0) (f := fun _ => .int .i64 0)
    (by simpa using World.rowIs_made w (.int .i64 0) N E) hB (fun i hi => by rw [gi_lt hi]; simp) (fun x hx => by rw [List.mem_replicate] at hx; rw [hx.2]; constructor <;> omega) (by simp; omega)
  simpa using h

theorem c_repeated {w : World} (x : Int) (hx : I64 x) (N : Nat) (hN : N ≤ 8) : Calls Try.prog 99 #[.int .i64 x, .int .i64 (N : Int)] w (Mk w fun w' r => OwnT 2 w.heap.size w'.heap.size w' r (List.replicate N x)) := by
  have hmk := run_make_row' (P := Try.prog) 22 2 (.int .i64 0) 8 Try.underlying22 infoInt64 rfl .i64 .i64 N (by omega) (by omega)
  go_enter Try.func99, Try.ntmps99
  go_wp2
  clear hmk
  go_loopw [6, 11] (fun _ i wr => ∃ k : Nat, k ≤ N ∧ i = .int .i64 k ∧ Below w.heap.size w wr ∧ wr.rowIs w.heap.size 2 N (fun j => if j < k then .int .i64 x else .int .i64 0)) (fun _ i _ => N - (intOf i).toNat)
  case atStart => exact ⟨0, Nat.zero_le _, rfl, (Below.refl _ _).alloc (Nat.le_refl _) _, (World.rowIs_made w _ _ _).congr (fun i _ => by simp)⟩
  case round =>
    obtain ⟨k, hk, rfl, hb, hr⟩ := hrel
    by_cases hlt : k < N
    · have hst := hr.cell hlt
      have hfz := hr.frozen k
      go_wp2
      go_roundw
      case rel =>
        refine ⟨k + 1, by omega, by go_num, hb.setCell (Nat.le_refl _) _, (hr.set k _).congr (fun j hj => ?_)⟩
        by_cases e : j = k
        · subst e; simp
        · have e2 : (j < k + 1) = (j < k) := by simp only [eq_iff_iff]; omega
          simp only [e, if_false, e2]
      case measure => simp [intOf]; omega
    · have hk : k = N := by omega
      subst hk
      go_wp2
      go_ret
      have h := Own.of_row (B := w.heap.size) (xs := List.replicate k x) (by simpa using hr) (Nat.le_refl _) (fun i hi => by rw [gi_lt hi]; simp at hi; simp [hi]) (fun y hy => by rw [List.mem_replicate] at hy; rw [hy.2]; exact hx) (by simp; omega)
      exact ⟨_, rfl, by simpa using h.top, hb⟩
theorem c_anyArrow (f : Int) (w : World) : Calls Try.prog 64 #[.int .i64 f] w (Rd w (.bool (anyP f))) := by
  go_enter Try.func64, Try.ntmps64
  go_wp2
  go_ret
  exact rd_bool rfl (by repeat (first | exact Drawn.refl _ | refine Drawn.step ?_ _ | refine Drawn.one ?_))
theorem c_moves {w : World} {b : Nat} {c : Cat} (P : PC w b c) (S : Shape c) {f : Int} (hf : c.Arr f) : Calls Try.prog 65 #[.pointer (some ⟨b, 0, none⟩), .int .i64 f] w (Rd w (.bool (movP c f))) := by
  go_enter Try.func65, Try.ntmps65
  go_wp2_with fail
  refine (c_isIdentity P S hf).mono ?_
  rintro e w2 ⟨rfl, n, rfl⟩
  go_wp2_with fail
  go_ret
  exact rd_bool (by unfold movP; simp) (by repeat (first | exact Drawn.refl _ | refine Drawn.step ?_ _ | refine Drawn.one ?_))
set_option maxHeartbeats 3200000 in
set_option maxRecDepth 100000 in
theorem c_chains_any {w : World} {b : Nat} {c : Cat} (P : PC w b c) (S : Shape c) {K : Nat} (k8 : K ≤ 8) :
    Calls Try.prog 66 #[.pointer (some ⟨b, 0, none⟩), .int .i64 (K : Int), (.func (.func 64) #[] #[])] w (Ret w (.int .i64 (chn c anyP K))) := by
  obtain ⟨aF, aT, aI, aC, bF, oF, kF, bT, oT, kT, bI, oI, kI, bC, oC, kC, bR, oR, kR, V⟩ := P.opens
  obtain ⟨N, hN⟩ := Int.eq_ofNat_of_zero_le S.n0
  have n8 := S.n8
  have hN8 : N ≤ 8 := by omega
  have hmk := run_make_row' (P := Try.prog) 22 2 (.int .i64 0) 8 Try.underlying22 infoInt64 rfl .i64 .i64 N (by omega) (by omega)
  have hm40 : c.fr.length ≤ 40 := by have := S.m40; unfold Cat.m at this; omega
  have hNN : Hid (c.n.toNat = N) := by unfold Hid; rw [hN]; simp
  have HNN := Lib.hid hN
  have SH := Lib.hid S
  have c0 := V.c0
  rw [hN] at c0
  clear S P hN n8
  have HMK := Lib.hid hmk
  clear hmk
  go_enter Try.func66, Try.ntmps66
  go_wp2_with fail
  refine (c_repeated 1 (by constructor <;> omega) N hN8).mono ?_
  rintro e w2 ⟨u, rfl, o2, b2⟩
  have hw2 : Own 2 w2 w.heap.size u (wlk c anyP 0) := by unfold wlk; rw [hNN.out]; exact o2.own
  clear o2 c0
  go_wp2_with fail
  go_loopw [1, 7, 8, 9] (fun kv en _ _ wr => ∃ j : Nat, j ≤ K ∧ kv = .int .i64 ((K : Int) - j) ∧ Below w.heap.size w wr ∧ Own 2 wr w.heap.size en (wlk c anyP j)) (fun kv _ _ _ _ => (intOf kv).toNat)
  case atStart => exact ⟨0, Nat.zero_le _, by simp, b2, hw2⟩
  case round =>
    obtain ⟨j, hj, rfl, hb, he⟩ := hrel
    by_cases hlt : j < K
    · have c0 := (V.kept hb).c0
      rw [HNN.out] at c0
      have hmk := HMK.out
      have c1 := (V.kept hb).c1
      have lb : b < wr.heap.size := World.block_lt_of_cell? _ _ c1
      obtain ⟨ao, ge, ce, rfl, hg⟩ := he.opened2
      rw [wlk_length, hNN.out] at hg
      rw [wlk_length, hNN.out]
      rw [wlk_length, hNN.out] at he
      have hgw := hb.size
      have hn0 := Own.made 2 wr w.heap.size N hgw hN8
      have hn1 : Own 2 (wr.alloc (.cells (madeCells #[.int .i64 0] N) 2)) w.heap.size (.slice (some ⟨wr.heap.size, 0, none⟩) N N) (stp c anyP (wlk c anyP j) 0) := by unfold stp; rw [hNN.out]; exact hn0
      have HE0 : Hid (∀ i, i < N → (wr.alloc (.cells (madeCells #[.int .i64 0] N) 2)).cell? ⟨ge, i, none⟩ = some (.int .i64 (gi (wlk c anyP j) i))) := fun i hi => by
        obtain ⟨rfl, -, -⟩ := hg (by omega)
        exact up_cell (bel_box _ _) (he.cellAt2 (by rw [wlk_length, hNN.out]) (by rw [wlk_length, hNN.out]; exact hi))
      have hgne : 0 < N → ge < wr.heap.size := fun h => (hg h).2.2
      have hga : 0 < N → ao = some ⟨ge, 0, none⟩ := fun h => (hg h).1
      have hbm := bel_next hb (bel_box wr (.cells (madeCells #[.int .i64 0] N) 2))
      clear he hn0 hg
      go_wp2_with fail
      clear hmk c0 c1
      generalize wr.alloc (.cells (madeCells #[.int .i64 0] N) 2) = wm at *
      generalize wr.heap.size = g at *
      go_loopw [9, 32] (fun _ i wr => ∃ f : Nat, f ≤ c.fr.length ∧ i = .int .i64 f ∧ Below w.heap.size w wr ∧ Own 2 wr w.heap.size (.slice (some ⟨g, 0, none⟩) N N) (stp c anyP (wlk c anyP j) f) ∧ Hid (∀ i, i < N → wr.cell? ⟨ge, i, none⟩ = some (.int .i64 (gi (wlk c anyP j) i)))) (fun _ i _ => c.fr.length - (intOf i).toNat)
      case atStart => exact ⟨0, Nat.zero_le _, rfl, hbm, hn1, HE0⟩
      case round =>
        clear hb hbm hn1 HE0
        obtain ⟨f, hf, rfl, hb, hn, HE⟩ := hrel
        have V2 := V.kept hb
        by_cases hlf : f < c.fr.length
        · have hA : c.Arr f := ⟨by omega, by unfold Cat.m; omega⟩
          cases hp : anyP (f : Int) with
          | true =>
            have HP := Lib.hid (stp_yes (c := c) (row := wlk c anyP j) hp)
            go_wp2_with fail
            refine (c_anyArrow _ _).mono ?_
            rintro e wp ⟨rfl, np, rfl⟩
            have dp : Drawn wr (wr.drewN np) := ⟨np, rfl⟩
            generalize wr.drewN np = wp at *
            replace hb := hb.trans (dp.below _)
            replace hn := hn.kept (dp.below _)
            have HE2 : Hid (∀ i, i < N → wp.cell? ⟨ge, i, none⟩ = some (.int .i64 (gi (wlk c anyP j) i))) := fun i hi => up_cell (dp.below _) (HE.out i hi)
            clear dp HE
            rw [hp]
            clear hp V2
            go_wp2_with fail
            refine wp_region_still_tail 22 (by kernel_rfl) (by kernel_rfl) ?_
            simp only [List.take_succ_cons, List.take_zero, List.drop_succ_cons, List.drop_zero]
            obtain ⟨wq, hq⟩ : ∃ wq, wq = wp.drew := ⟨_, rfl⟩
            change wpStill _ _ wp.drew _ _ _
            rw [← hq]
            have hdq : Drawn wp wq := by subst hq; exact Drawn.one (Drawn.refl _)
            have Hq := Lib.hid hq
            clear hq
            replace hb := hb.trans (hdq.below _)
            replace hn := hn.kept (hdq.below _)
            have HE3 : Hid (∀ i, i < N → wq.cell? ⟨ge, i, none⟩ = some (.int .i64 (gi (wlk c anyP j) i))) := fun i hi => up_cell (hdq.below _) (HE2.out i hi)
            clear hdq HE2
            have V3 := V.kept hb
            have c1 := V3.c1
            have c2 := V3.c2
            obtain ⟨rfl, rfl, rfl, rfl⟩ := V.som SH.out (by omega)
            have cF := V3.cF hA
            have cT := V3.cT SH.out hA
            simp only [Int.toNat_natCast] at cF cT
            have l1 : f < c.to.length := by rw [SH.out.tl]; exact hlf
            obtain ⟨x, hx⟩ := Int.eq_ofNat_of_zero_le (SH.out.fO f hA).1
            obtain ⟨y, hy⟩ := Int.eq_ofNat_of_zero_le (SH.out.tO f hA).1
            have hxN : x < N := by have := (SH.out.fO f hA).2; have := HNN.out; omega
            have hyN : y < N := by have := (SH.out.tO f hA).2; have := HNN.out; omega
            have hl1 : N = (stp c anyP (wlk c anyP j) f).length := by rw [stp_length, hNN.out]
            obtain rfl := hga (by omega)
            have hgn := hgne (by omega)
            have cn := hn.cellAt2 hl1 (i := y) (by omega)
            have ce' := HE3.out x hxN
            have fz := hn.frozenAt2 hl1 y
            have hb1 := stp_num anyP hm40 (k := j) (f := f) (by omega) (by omega) y
            have hb2 := wlk_num anyP hm40 (k := j) (by omega) x
            have HS := HP.out
            rw [hx, hy] at HS
            rw [hx] at cF
            rw [hy] at cT
            simp only [Int.toNat_natCast] at HS
            have HSS := Lib.hid HS
            have HL1 := Lib.hid hl1
            clear hx hy HS HP hl1 V3
            repeat still_step
            refine wpStill_nil ?_
            change wpList _ _ _ _ _ wp.drew
            rw [← Hq.out]
            clear Hq c1 c2 cF cT
            go_wp2_with fail
            go_roundw
            case rel => exact ⟨f + 1, by omega, by go_num, hb.setCell hgw _, by rw [HSS.out]; exact hn.set2 HL1.out y (by constructor <;> omega), fun i hi => by rw [World.cell?_setCell_far _ _ _ _ (by simp; omega)]; exact HE3.out i hi⟩
            case measure => simp [intOf]; omega
          | false =>
            have HP := Lib.hid (stp_no (c := c) (row := wlk c anyP j) hp)
            go_wp2_with fail
            refine (c_anyArrow _ _).mono ?_
            rintro e wp ⟨rfl, np, rfl⟩
            have dp : Drawn wr (wr.drewN np) := ⟨np, rfl⟩
            rw [hp]
            clear hp
            go_wp2_with fail
            go_roundw
            case rel => exact ⟨f + 1, by omega, by go_num, hb.trans (dp.below _), by rw [HP.out]; exact hn.kept (dp.below _), fun i hi => up_cell (dp.below _) (HE.out i hi)⟩
            case measure => simp [intOf]; omega
        · have hfe : f = c.fr.length := by omega
          have hlb : decide ((f : Int) < (c.fr.length : Int)) = false := by simp; omega
          have HB := Lib.hid hb
          have HO : Hid (Own 2 wr w.heap.size (.slice (some ⟨g, 0, none⟩) N N) (wlk c anyP (j + 1))) := by unfold Hid; rw [hfe] at hn; exact hn
          clear hb hn
          go_wp2_with fail
          go_roundw
          case rel => exact ⟨j + 1, by omega, by simp; omega, HB.out, HO.out⟩
          case measure => simp [intOf]; omega
    · obtain rfl : j = K := by omega
      obtain ⟨ao, ge, ce, rfl, hg⟩ := he.opened2
      rw [wlk_length, hNN.out] at hg
      rw [wlk_length, hNN.out]
      rw [wlk_length, hNN.out] at he
      have HSB := Lib.hid (sum_bd (wlk_num (c := c) anyP hm40 k8))
      have hlw : Hid (N = (wlk c anyP j).length) := by unfold Hid; rw [wlk_length, hNN.out]
      go_wp2_with fail
      go_loopw [10, 12, 64] (fun s _ i wr2 => ∃ x : Nat, x ≤ N ∧ i = .int .i64 x ∧ s = .int .i64 ((wlk c anyP j).take x).sum ∧ wr2 = wr) (fun _ _ i _ => N - (intOf i).toNat)
      case atStart => exact ⟨0, Nat.zero_le _, rfl, by simp, rfl⟩
      case round =>
        obtain ⟨x, hx, rfl, rfl, rfl⟩ := hrel
        by_cases hlx : x < N
        · obtain ⟨rfl, -, -⟩ := hg (by omega)
          have cx := he.cellAt2 hlw.out (i := x) (by rw [← hlw.out]; exact hlx)
          have hs1 := HSB.out x (by rw [← hlw.out]; omega)
          have hs2 := wlk_num (c := c) anyP hm40 k8 x
          have HS := Lib.hid (sum_take (l := wlk c anyP j) (i := x) (by rw [← hlw.out]; exact hlx))
          go_wp2_with fail
          go_roundw
          case rel => exact ⟨x + 1, by omega, by go_num, by rw [HS.out], by first | rfl | trivial⟩
          case measure => simp [intOf]; omega
        · have hxe : x = (wlk c anyP j).length := by rw [← hlw.out]; omega
          have HG : Hid (((wlk c anyP j).take x).sum = chn c anyP j) := by unfold Hid chn; rw [hxe, List.take_length]
          have hlb : decide ((x : Int) < (N : Int)) = false := by simp; omega
          clear hxe
          go_wp2_with fail
          go_ret
          exact ⟨by rw [← HG.out]; rfl, hb⟩
set_option maxHeartbeats 3200000 in
set_option maxRecDepth 100000 in
theorem c_chains_mov {w : World} {b : Nat} {c : Cat} (P : PC w b c) (S : Shape c) {K : Nat} (k8 : K ≤ 8) :
    Calls Try.prog 66 #[.pointer (some ⟨b, 0, none⟩), .int .i64 (K : Int), (.func (.func 65) #[.pointer (some ⟨b, 0, none⟩)] #[])] w (Ret w (.int .i64 (chn c (movP c) K))) := by
  obtain ⟨aF, aT, aI, aC, bF, oF, kF, bT, oT, kT, bI, oI, kI, bC, oC, kC, bR, oR, kR, V⟩ := P.opens
  obtain ⟨N, hN⟩ := Int.eq_ofNat_of_zero_le S.n0
  have n8 := S.n8
  have hN8 : N ≤ 8 := by omega
  have hmk := run_make_row' (P := Try.prog) 22 2 (.int .i64 0) 8 Try.underlying22 infoInt64 rfl .i64 .i64 N (by omega) (by omega)
  have hm40 : c.fr.length ≤ 40 := by have := S.m40; unfold Cat.m at this; omega
  have hNN : Hid (c.n.toNat = N) := by unfold Hid; rw [hN]; simp
  have HNN := Lib.hid hN
  have SH := Lib.hid S
  have c0 := V.c0
  rw [hN] at c0
  clear S P hN n8
  have HMK := Lib.hid hmk
  clear hmk
  go_enter Try.func66, Try.ntmps66
  go_wp2_with fail
  refine (c_repeated 1 (by constructor <;> omega) N hN8).mono ?_
  rintro e w2 ⟨u, rfl, o2, b2⟩
  have hw2 : Own 2 w2 w.heap.size u (wlk c (movP c) 0) := by unfold wlk; rw [hNN.out]; exact o2.own
  clear o2 c0
  go_wp2_with fail
  go_loopw [1, 7, 8, 9] (fun kv en _ _ wr => ∃ j : Nat, j ≤ K ∧ kv = .int .i64 ((K : Int) - j) ∧ Below w.heap.size w wr ∧ Own 2 wr w.heap.size en (wlk c (movP c) j)) (fun kv _ _ _ _ => (intOf kv).toNat)
  case atStart => exact ⟨0, Nat.zero_le _, by simp, b2, hw2⟩
  case round =>
    obtain ⟨j, hj, rfl, hb, he⟩ := hrel
    by_cases hlt : j < K
    · have c0 := (V.kept hb).c0
      rw [HNN.out] at c0
      have hmk := HMK.out
      have c1 := (V.kept hb).c1
      have lb : b < wr.heap.size := World.block_lt_of_cell? _ _ c1
      obtain ⟨ao, ge, ce, rfl, hg⟩ := he.opened2
      rw [wlk_length, hNN.out] at hg
      rw [wlk_length, hNN.out]
      rw [wlk_length, hNN.out] at he
      have hgw := hb.size
      have hn0 := Own.made 2 wr w.heap.size N hgw hN8
      have hn1 : Own 2 (wr.alloc (.cells (madeCells #[.int .i64 0] N) 2)) w.heap.size (.slice (some ⟨wr.heap.size, 0, none⟩) N N) (stp c (movP c) (wlk c (movP c) j) 0) := by unfold stp; rw [hNN.out]; exact hn0
      have HE0 : Hid (∀ i, i < N → (wr.alloc (.cells (madeCells #[.int .i64 0] N) 2)).cell? ⟨ge, i, none⟩ = some (.int .i64 (gi (wlk c (movP c) j) i))) := fun i hi => by
        obtain ⟨rfl, -, -⟩ := hg (by omega)
        exact up_cell (bel_box _ _) (he.cellAt2 (by rw [wlk_length, hNN.out]) (by rw [wlk_length, hNN.out]; exact hi))
      have hgne : 0 < N → ge < wr.heap.size := fun h => (hg h).2.2
      have hga : 0 < N → ao = some ⟨ge, 0, none⟩ := fun h => (hg h).1
      have hbm := bel_next hb (bel_box wr (.cells (madeCells #[.int .i64 0] N) 2))
      clear he hn0 hg
      go_wp2_with fail
      clear hmk c0 c1
      generalize wr.alloc (.cells (madeCells #[.int .i64 0] N) 2) = wm at *
      generalize wr.heap.size = g at *
      go_loopw [9, 32] (fun _ i wr => ∃ f : Nat, f ≤ c.fr.length ∧ i = .int .i64 f ∧ Below w.heap.size w wr ∧ Own 2 wr w.heap.size (.slice (some ⟨g, 0, none⟩) N N) (stp c (movP c) (wlk c (movP c) j) f) ∧ Hid (∀ i, i < N → wr.cell? ⟨ge, i, none⟩ = some (.int .i64 (gi (wlk c (movP c) j) i)))) (fun _ i _ => c.fr.length - (intOf i).toNat)
      case atStart => exact ⟨0, Nat.zero_le _, rfl, hbm, hn1, HE0⟩
      case round =>
        clear hb hbm hn1 HE0
        obtain ⟨f, hf, rfl, hb, hn, HE⟩ := hrel
        have V2 := V.kept hb
        by_cases hlf : f < c.fr.length
        · have hA : c.Arr f := ⟨by omega, by unfold Cat.m; omega⟩
          cases hp : (movP c) (f : Int) with
          | true =>
            have HP := Lib.hid (stp_yes (c := c) (row := wlk c (movP c) j) hp)
            go_wp2_with fail
            refine (c_moves V2.pc SH.out hA).mono ?_
            rintro e wp ⟨rfl, np, rfl⟩
            have dp : Drawn wr (wr.drewN np) := ⟨np, rfl⟩
            generalize wr.drewN np = wp at *
            replace hb := hb.trans (dp.below _)
            replace hn := hn.kept (dp.below _)
            have HE2 : Hid (∀ i, i < N → wp.cell? ⟨ge, i, none⟩ = some (.int .i64 (gi (wlk c (movP c) j) i))) := fun i hi => up_cell (dp.below _) (HE.out i hi)
            clear dp HE
            rw [hp]
            clear hp V2
            go_wp2_with fail
            refine wp_region_still_tail 22 (by kernel_rfl) (by kernel_rfl) ?_
            simp only [List.take_succ_cons, List.take_zero, List.drop_succ_cons, List.drop_zero]
            obtain ⟨wq, hq⟩ : ∃ wq, wq = wp.drew := ⟨_, rfl⟩
            change wpStill _ _ wp.drew _ _ _
            rw [← hq]
            have hdq : Drawn wp wq := by subst hq; exact Drawn.one (Drawn.refl _)
            have Hq := Lib.hid hq
            clear hq
            replace hb := hb.trans (hdq.below _)
            replace hn := hn.kept (hdq.below _)
            have HE3 : Hid (∀ i, i < N → wq.cell? ⟨ge, i, none⟩ = some (.int .i64 (gi (wlk c (movP c) j) i))) := fun i hi => up_cell (hdq.below _) (HE2.out i hi)
            clear hdq HE2
            have V3 := V.kept hb
            have c1 := V3.c1
            have c2 := V3.c2
            obtain ⟨rfl, rfl, rfl, rfl⟩ := V.som SH.out (by omega)
            have cF := V3.cF hA
            have cT := V3.cT SH.out hA
            simp only [Int.toNat_natCast] at cF cT
            have l1 : f < c.to.length := by rw [SH.out.tl]; exact hlf
            obtain ⟨x, hx⟩ := Int.eq_ofNat_of_zero_le (SH.out.fO f hA).1
            obtain ⟨y, hy⟩ := Int.eq_ofNat_of_zero_le (SH.out.tO f hA).1
            have hxN : x < N := by have := (SH.out.fO f hA).2; have := HNN.out; omega
            have hyN : y < N := by have := (SH.out.tO f hA).2; have := HNN.out; omega
            have hl1 : N = (stp c (movP c) (wlk c (movP c) j) f).length := by rw [stp_length, hNN.out]
            obtain rfl := hga (by omega)
            have hgn := hgne (by omega)
            have cn := hn.cellAt2 hl1 (i := y) (by omega)
            have ce' := HE3.out x hxN
            have fz := hn.frozenAt2 hl1 y
            have hb1 := stp_num (movP c) hm40 (k := j) (f := f) (by omega) (by omega) y
            have hb2 := wlk_num (movP c) hm40 (k := j) (by omega) x
            have HS := HP.out
            rw [hx, hy] at HS
            rw [hx] at cF
            rw [hy] at cT
            simp only [Int.toNat_natCast] at HS
            have HSS := Lib.hid HS
            have HL1 := Lib.hid hl1
            clear hx hy HS HP hl1 V3
            repeat still_step
            refine wpStill_nil ?_
            change wpList _ _ _ _ _ wp.drew
            rw [← Hq.out]
            clear Hq c1 c2 cF cT
            go_wp2_with fail
            go_roundw
            case rel => exact ⟨f + 1, by omega, by go_num, hb.setCell hgw _, by rw [HSS.out]; exact hn.set2 HL1.out y (by constructor <;> omega), fun i hi => by rw [World.cell?_setCell_far _ _ _ _ (by simp; omega)]; exact HE3.out i hi⟩
            case measure => simp [intOf]; omega
          | false =>
            have HP := Lib.hid (stp_no (c := c) (row := wlk c (movP c) j) hp)
            go_wp2_with fail
            refine (c_moves V2.pc SH.out hA).mono ?_
            rintro e wp ⟨rfl, np, rfl⟩
            have dp : Drawn wr (wr.drewN np) := ⟨np, rfl⟩
            rw [hp]
            clear hp
            go_wp2_with fail
            go_roundw
            case rel => exact ⟨f + 1, by omega, by go_num, hb.trans (dp.below _), by rw [HP.out]; exact hn.kept (dp.below _), fun i hi => up_cell (dp.below _) (HE.out i hi)⟩
            case measure => simp [intOf]; omega
        · have hfe : f = c.fr.length := by omega
          have hlb : decide ((f : Int) < (c.fr.length : Int)) = false := by simp; omega
          have HB := Lib.hid hb
          have HO : Hid (Own 2 wr w.heap.size (.slice (some ⟨g, 0, none⟩) N N) (wlk c (movP c) (j + 1))) := by unfold Hid; rw [hfe] at hn; exact hn
          clear hb hn
          go_wp2_with fail
          go_roundw
          case rel => exact ⟨j + 1, by omega, by simp; omega, HB.out, HO.out⟩
          case measure => simp [intOf]; omega
    · obtain rfl : j = K := by omega
      obtain ⟨ao, ge, ce, rfl, hg⟩ := he.opened2
      rw [wlk_length, hNN.out] at hg
      rw [wlk_length, hNN.out]
      rw [wlk_length, hNN.out] at he
      have HSB := Lib.hid (sum_bd (wlk_num (c := c) (movP c) hm40 k8))
      have hlw : Hid (N = (wlk c (movP c) j).length) := by unfold Hid; rw [wlk_length, hNN.out]
      go_wp2_with fail
      go_loopw [10, 12, 64] (fun s _ i wr2 => ∃ x : Nat, x ≤ N ∧ i = .int .i64 x ∧ s = .int .i64 ((wlk c (movP c) j).take x).sum ∧ wr2 = wr) (fun _ _ i _ => N - (intOf i).toNat)
      case atStart => exact ⟨0, Nat.zero_le _, rfl, by simp, rfl⟩
      case round =>
        obtain ⟨x, hx, rfl, rfl, rfl⟩ := hrel
        by_cases hlx : x < N
        · obtain ⟨rfl, -, -⟩ := hg (by omega)
          have cx := he.cellAt2 hlw.out (i := x) (by rw [← hlw.out]; exact hlx)
          have hs1 := HSB.out x (by rw [← hlw.out]; omega)
          have hs2 := wlk_num (c := c) (movP c) hm40 k8 x
          have HS := Lib.hid (sum_take (l := wlk c (movP c) j) (i := x) (by rw [← hlw.out]; exact hlx))
          go_wp2_with fail
          go_roundw
          case rel => exact ⟨x + 1, by omega, by go_num, by rw [HS.out], by first | rfl | trivial⟩
          case measure => simp [intOf]; omega
        · have hxe : x = (wlk c (movP c) j).length := by rw [← hlw.out]; omega
          have HG : Hid (((wlk c (movP c) j).take x).sum = chn c (movP c) j) := by unfold Hid chn; rw [hxe, List.take_length]
          have hlb : decide ((x : Int) < (N : Int)) = false := by simp; omega
          clear hxe
          go_wp2_with fail
          go_ret
          exact ⟨by rw [← HG.out]; rfl, hb⟩
end Go.Proofs.Ytkmkbmhpdnddnaa
