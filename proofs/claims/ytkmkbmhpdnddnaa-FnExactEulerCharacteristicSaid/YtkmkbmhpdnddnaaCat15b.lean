/-
  Chapter 33: chains: the reference.
-/
import Derived.Test.YtkmkbmhpdnddnaaCat15
namespace Go.Proofs.Ytkmkbmhpdnddnaa
open Go.RowKit

theorem rep_succ (n : Nat) (x : Int) : List.replicate (n + 1) x = List.replicate n x ++ [x] := List.replicate_succ'
theorem c_l22Repeat {w : World} (x : Int) (hx : I64 x) (N : Nat) (hN : N ≤ 8) : Calls Try.prog 95 #[.int .i64 x, .int .i64 (N : Int)] w (Mk w fun w' r => OwnT 2 w.heap.size w'.heap.size w' r (List.replicate N x)) := by
  go_enter Try.func95, Try.ntmps95
  go_wp2_with fail
  go_loopw [5, 6] (fun out i wr => ∃ k : Nat, k ≤ N ∧ i = .int .i64 k ∧ Below w.heap.size w wr ∧ Own 2 wr w.heap.size out (List.replicate k x)) (fun _ i _ => N - (intOf i).toNat)
  case atStart => exact ⟨0, Nat.zero_le _, rfl, bel_alloc (Below.refl _ _) _, Own.empty _ _ _ (Nat.le_refl _)⟩
  case round =>
    obtain ⟨k, hk, rfl, hb, ho⟩ := hrel
    have hw0 := hb.size
    by_cases hlt : k < N
    · go_wp2_with (at_builtin; refine hold ?_)
      refine app1 ho hx (by simp; omega) (by first | omega | (simp; omega)) Try.underlying22 infoInt64 (by rfl) _ _ (by rfl) (by rfl) (by rfl) ?_
      intro v' w2 ho2 g2
      have hb2 := g2.below hb (by first | omega | (simp; omega)) (fun k hk => (ho.lt k hk).1)
      clear ho g2 hb
      go_wp2_with fail
      go_roundw
      case rel => exact ⟨k + 1, by omega, by go_num, hb2, by rw [rep_succ]; exact ho2⟩
      case measure => simp [intOf]; omega
    · obtain rfl : k = N := by omega
      go_wp2_with fail
      go_ret
      exact ⟨_, rfl, ho.top, hb⟩
theorem c_l22RepeatI {w : World} (x : Int) (hx : I64 x) (n : Int) (h0 : 0 ≤ n) (h8 : n ≤ 8) : Calls Try.prog 95 #[.int .i64 x, .int .i64 n] w (Mk w fun w' r => OwnT 2 w.heap.size w'.heap.size w' r (List.replicate n.toNat x)) := by
  obtain ⟨N, rfl⟩ := Int.eq_ofNat_of_zero_le h0
  rw [Int.toNat_natCast]
  exact c_l22Repeat x hx N (by omega)
theorem c_l33Sum {w : World} {v : Value} {xs : List Int} (h : IS w v xs) (hl : xs.length ≤ 8) (hx : ∀ i, 0 ≤ gi xs i ∧ gi xs i ≤ 6553600000000) : Calls Try.prog 61 #[v] w (Ret w (.int .i64 xs.sum)) := by
  obtain ⟨ao, bb, oo, cc, rfl, ha, hc⟩ := h.ex
  have HC := Lib.hid hc
  have HSB := Lib.hid (sum_bd hx)
  have HX := Lib.hid hx
  clear h hc hx
  go_enter Try.func61, Try.ntmps61
  go_wp2_with fail
  go_loopw [3, 4] (fun s i wr => ∃ x : Nat, x ≤ xs.length ∧ i = .int .i64 x ∧ s = .int .i64 (xs.take x).sum ∧ wr = w) (fun _ i _ => xs.length - (intOf i).toNat)
  case atStart => exact ⟨0, Nat.zero_le _, rfl, by simp, rfl⟩
  case round =>
    obtain ⟨x, hxl, rfl, rfl, rfl⟩ := hrel
    by_cases hlx : x < xs.length
    · obtain rfl := ha (by omega)
      have cx := HC.out x hlx
      have hs1 := HSB.out x (by omega)
      have hs2 := HX.out x
      have HS := Lib.hid (sum_take (l := xs) (i := x) hlx)
      go_wp2_with fail
      go_roundw
      case rel => exact ⟨x + 1, by omega, by go_num, by rw [HS.out], by first | rfl | trivial⟩
      case measure => simp [intOf]; omega
    · have hxe : x = xs.length := by omega
      have HG : Hid ((xs.take x).sum = xs.sum) := by unfold Hid; rw [hxe, List.take_length]
      have hlb : decide ((x : Int) < (xs.length : Int)) = false := by simp; omega
      clear hxe
      go_wp2_with fail
      go_ret
      exact ⟨by rw [← HG.out]; rfl, Below.refl _ _⟩
/-- What the counting of chains returns. -/
noncomputable def chR (c : Cat) (p : Int → Bool) (k : Int) : Int × Int := if catB c then (if inR k 0 8 then (chn c p k.toNat, 0) else (0, 2)) else (0, 1)
noncomputable def chC (c : Cat) (k : Int) : Int := if catB c then (if inR k 0 8 then 0 else 2) else 1
theorem inR08 {k : Int} (h : inR k 0 8 = true) : ∃ K : Nat, k = (K : Int) ∧ K ≤ 8 := by
  simp [inR] at h
  exact ⟨k.toNat, by omega, by omega⟩
theorem c_l33Length {w : World} {v : Value} {c : Cat} (h : IC w v c) (k : Int) : Calls Try.prog 60 #[v, .int .i64 k] w (Ret w (.int .i64 (chC c k))) := by
  obtain ⟨aF, aT, aI, aC, bF, oF, kF, bT, oT, kT, bI, oI, kI, bC, oC, kC, bR, oR, kR, rfl, V⟩ := h.boxed 29
  have B : Bel w (w.alloc (.cells #[.int .i64 c.n, .slice aF c.fr.length kF, .slice aT c.to.length kT, .slice aI c.id.length kI, .slice aC c.cm.length kC] 29)) := bel_box w _
  have ZB := Lib.hid (show (w.alloc (.cells #[.int .i64 c.n, .slice aF c.fr.length kF, .slice aT c.to.length kT, .slice aI c.id.length kI, .slice aC c.cm.length kC] 29)).heap.size = w.heap.size + 1 from by simp)
  clear h
  go_enter Try.func60, Try.ntmps60
  go_wp2_with fail
  generalize w.alloc (.cells #[.int .i64 c.n, .slice aF c.fr.length kF, .slice aT c.to.length kT, .slice aI c.id.length kI, .slice aC c.cm.length kC] 29) = w1 at *
  generalize w.heap.size = b at *
  have c0 := V.c0
  have c1 := V.c1
  have c2 := V.c2
  have c3 := V.c3
  have c4 := V.c4
  refine (c_l02Is V.ic).mono ?_
  rintro e w2 ⟨rfl, b2⟩
  clear c0 c1 c2 c3 c4
  by_cases hc : catB c = true
  · have HC := Lib.hid hc
    go_wp2_with fail
    refine (c_l01In k 0 8 _).mono ?_
    rintro e w3 ⟨rfl, n3, rfl⟩
    clear hc
    cases hi : inR k 0 8 with
    | true =>
      have HI := Lib.hid hi
      go_wp2_with fail
      go_ret
      exact ⟨by rw [chC, if_pos HC.out, if_pos HI.out]; rfl, B.next (bel_next b2 (Drawn.bel0 ⟨n3, rfl⟩))⟩
    | false =>
      have HI := Lib.hid hi
      go_wp2_with fail
      go_ret
      exact ⟨by rw [chC, if_pos HC.out, HI.out]; rfl, B.next (bel_next b2 (Drawn.bel0 ⟨n3, rfl⟩))⟩
  · have hn : catB c = false := by simpa using hc
    have HC := Lib.hid hc
    clear hc
    go_wp2_with fail
    go_ret
    exact ⟨by rw [chC, if_neg HC.out]; rfl, B.next b2⟩
set_option maxHeartbeats 3200000 in
set_option maxRecDepth 100000 in
theorem c_l33Walks_any {w : World} {v : Value} {c : Cat} (h : IC w v c) (S : Shape c) {K : Nat} (k8 : K ≤ 8) :
    Calls Try.prog 62 #[v, .int .i64 (K : Int), .bool false] w (Mk w fun w' r => OwnT 2 w.heap.size w'.heap.size w' r (wlk c anyP K)) := by
  obtain ⟨N, hN⟩ := Int.eq_ofNat_of_zero_le S.n0
  have n8 := S.n8
  have hN8 : N ≤ 8 := by omega
  have hmk := run_make_row' (P := Try.prog) 22 2 (.int .i64 0) 8 Try.underlying22 infoInt64 rfl .i64 .i64 N (by omega) (by omega)
  rw [← hN] at hmk
  have hm40 : c.fr.length ≤ 40 := by have := S.m40; unfold Cat.m at this; omega
  have hNN : Hid (c.n.toNat = N) := by unfold Hid; rw [hN]; simp
  have HNN := Lib.hid hN
  have SH := Lib.hid S
  clear S hN n8
  have HMK := Lib.hid hmk
  clear hmk
  obtain ⟨aF, aT, aI, aC, bF, oF, kF, bT, oT, kT, bI, oI, kI, bC, oC, kC, bR, oR, kR, rfl, V⟩ := h.boxed 29
  have B : Bel w (w.alloc (.cells #[.int .i64 c.n, .slice aF c.fr.length kF, .slice aT c.to.length kT, .slice aI c.id.length kI, .slice aC c.cm.length kC] 29)) := bel_box w _
  have ZB := Lib.hid (show (w.alloc (.cells #[.int .i64 c.n, .slice aF c.fr.length kF, .slice aT c.to.length kT, .slice aI c.id.length kI, .slice aC c.cm.length kC] 29)).heap.size = w.heap.size + 1 from by simp)
  clear h
  go_enter Try.func62, Try.ntmps62
  go_wp2_with fail
  generalize w.alloc (.cells #[.int .i64 c.n, .slice aF c.fr.length kF, .slice aT c.to.length kT, .slice aI c.id.length kI, .slice aC c.cm.length kC] 29) = w1 at *
  generalize w.heap.size = b at *
  have c0 := V.c0
  have c1 := V.c1
  have c2 := V.c2
  have c3 := V.c3
  have c4 := V.c4
  clear c0 c1 c2 c3 c4
  have HB : Hid (w.heap.size ≤ w1.heap.size) := B.size
  try go_wp2_with fail
  refine (c_l22RepeatI 1 (by constructor <;> omega) c.n SH.out.n0 SH.out.n8).mono ?_
  rintro e w2 ⟨u, rfl, o2, b2⟩
  have hw2 : Own 2 w2 w1.heap.size u (wlk c anyP 0) := by unfold wlk; exact o2.own
  clear o2
  go_wp2_with fail
  go_loopw [1, 7, 8, 9] (fun kv en _ _ wr => ∃ j : Nat, j ≤ K ∧ kv = .int .i64 ((K : Int) - j) ∧ Below w1.heap.size w1 wr ∧ Own 2 wr w1.heap.size en (wlk c anyP j)) (fun kv _ _ _ _ => (intOf kv).toNat)
  case atStart => exact ⟨0, Nat.zero_le _, by simp, b2, hw2⟩
  case round =>
    obtain ⟨j, hj, rfl, hb, he⟩ := hrel
    by_cases hlt : j < K
    · have c0 := (V.kept hb).c0
      have hmk := HMK.out
      have c1 := (V.kept hb).c1
      have lb : b < wr.heap.size := World.block_lt_of_cell? _ _ c1
      obtain ⟨ao, ge, ce, rfl, hg⟩ := he.opened2
      rw [wlk_length, hNN.out] at hg
      rw [wlk_length, hNN.out]
      rw [wlk_length, hNN.out] at he
      have hgw := hb.size
      have hn0 := Own.made 2 wr w1.heap.size N hgw hN8
      have hn1 : Own 2 (wr.alloc (.cells (madeCells #[.int .i64 0] N) 2)) w1.heap.size (.slice (some ⟨wr.heap.size, 0, none⟩) N N) (stp c anyP (wlk c anyP j) 0) := by unfold stp; rw [hNN.out]; exact hn0
      have HE0 : Hid (∀ i, i < N → (wr.alloc (.cells (madeCells #[.int .i64 0] N) 2)).cell? ⟨ge, i, none⟩ = some (.int .i64 (gi (wlk c anyP j) i))) := fun i hi => by
        obtain ⟨rfl, -, -⟩ := hg (by omega)
        exact up_cell (bel_box _ _) (he.cellAt2 (by rw [wlk_length, hNN.out]) (by rw [wlk_length, hNN.out]; exact hi))
      have hgne : 0 < N → ge < wr.heap.size := fun h => (hg h).2.2
      have hga : 0 < N → ao = some ⟨ge, 0, none⟩ := fun h => (hg h).1
      have hbm := bel_next hb (bel_box wr (.cells (madeCells #[.int .i64 0] N) 2))
      clear he hn0 hg
      go_wp2_with fail
      clear hmk c0 c1
      generalize wr.alloc (.cells (madeCells #[.int .i64 0] N) 2) = wm at *
      generalize wr.heap.size = g at *
      go_loopw [9] (fun i wr => ∃ f : Nat, f ≤ c.fr.length ∧ i = .int .i64 f ∧ Below w1.heap.size w1 wr ∧ Own 2 wr w1.heap.size (.slice (some ⟨g, 0, none⟩) N N) (stp c anyP (wlk c anyP j) f) ∧ Hid (∀ i, i < N → wr.cell? ⟨ge, i, none⟩ = some (.int .i64 (gi (wlk c anyP j) i)))) (fun i _ => c.fr.length - (intOf i).toNat)
      case atStart => exact ⟨0, Nat.zero_le _, rfl, hbm, hn1, HE0⟩
      case round =>
        clear hb hbm hn1 HE0
        obtain ⟨f, hf, rfl, hb, hn, HE⟩ := hrel
        have V2 := V.kept hb
        have c0 := V2.c0
        have c1 := V2.c1
        have c2 := V2.c2
        have c3 := V2.c3
        have c4 := V2.c4
        by_cases hlf : f < c.fr.length
        · have hA : c.Arr f := ⟨by omega, by unfold Cat.m; omega⟩
          go_wp2_with fail
          cases hp : anyP (f : Int) with
          | true =>
            have HP := Lib.hid (stp_yes (c := c) (row := wlk c anyP j) hp)
            obtain ⟨wp, hwp⟩ : ∃ wp, wp = wr := ⟨_, rfl⟩
            rw [← hwp]
            have bp : Below wr.heap.size wr wp := by rw [hwp]; exact Below.refl _ _
            clear hwp c0 c1 c2 c3 c4
            replace hb := bel_next hb bp
            replace hn := hn.kept bp
            have HE2 : Hid (∀ i, i < N → wp.cell? ⟨ge, i, none⟩ = some (.int .i64 (gi (wlk c anyP j) i))) := fun i hi => up_cell bp (HE.out i hi)
            clear HE bp hp V2
            go_wp2_with fail
            refine wp_region_still_tail 24 (by kernel_rfl) (by kernel_rfl) ?_
            simp only [List.take_succ_cons, List.take_zero, List.drop_succ_cons, List.drop_zero]
            obtain ⟨wq, hq⟩ : ∃ wq, wq = wp.drew := ⟨_, rfl⟩
            change wpStill _ _ wp.drew _ _ _
            rw [← hq]
            have hdq : Drawn wp wq := by subst hq; exact Drawn.one (Drawn.refl _)
            have Hq := Lib.hid hq
            clear hq
            replace hb := hb.trans (hdq.below _)
            replace hn := hn.kept (hdq.below _)
            have HE3 : Hid (∀ i, i < N → wq.cell? ⟨ge, i, none⟩ = some (.int .i64 (gi (wlk c anyP j) i))) := fun i hi => up_cell (hdq.below _) (HE2.out i hi)
            clear hdq HE2
            have V3 := V.kept hb
            have c1 := V3.c1
            have c2 := V3.c2
            obtain ⟨rfl, rfl, rfl, rfl⟩ := V.som SH.out (by omega)
            have cF := V3.cF hA
            have cT := V3.cT SH.out hA
            simp only [Int.toNat_natCast] at cF cT
            have l1 : f < c.to.length := by rw [SH.out.tl]; exact hlf
            obtain ⟨x, hx⟩ := Int.eq_ofNat_of_zero_le (SH.out.fO f hA).1
            obtain ⟨y, hy⟩ := Int.eq_ofNat_of_zero_le (SH.out.tO f hA).1
            have hxN : x < N := by have := (SH.out.fO f hA).2; have := HNN.out; omega
            have hyN : y < N := by have := (SH.out.tO f hA).2; have := HNN.out; omega
            have hl1 : N = (stp c anyP (wlk c anyP j) f).length := by rw [stp_length, hNN.out]
            obtain rfl := hga (by omega)
            have hgn := hgne (by omega)
            have cn := hn.cellAt2 hl1 (i := y) (by omega)
            have ce' := HE3.out x hxN
            have fz := hn.frozenAt2 hl1 y
            have hb1 := stp_num anyP hm40 (k := j) (f := f) (by omega) (by omega) y
            have hb2 := wlk_num anyP hm40 (k := j) (by omega) x
            have HS := HP.out
            rw [hx, hy] at HS
            rw [hx] at cF
            rw [hy] at cT
            simp only [Int.toNat_natCast] at HS
            have HSS := Lib.hid HS
            have HL1 := Lib.hid hl1
            clear hx hy HS HP hl1 V3
            repeat still_step
            refine wpStill_nil ?_
            change wpList _ _ _ _ _ wp.drew
            rw [← Hq.out]
            clear Hq c1 c2 cF cT
            go_wp2_with fail
            go_roundw
            case rel => exact ⟨f + 1, by omega, by go_num, hb.setCell hgw _, by rw [HSS.out]; exact hn.set2 HL1.out y (by constructor <;> omega), fun i hi => by rw [World.cell?_setCell_far _ _ _ _ (by simp; omega)]; exact HE3.out i hi⟩
            case measure => simp [intOf]; omega
          | false =>
            cases hp
        · have hfe : f = c.fr.length := by omega
          have hlb : decide ((f : Int) < (c.fr.length : Int)) = false := by simp; omega
          have HB1 := Lib.hid hb
          have HO : Hid (Own 2 wr w1.heap.size (.slice (some ⟨g, 0, none⟩) N N) (wlk c anyP (j + 1))) := by unfold Hid; rw [hfe] at hn; exact hn
          clear hb hn
          go_wp2_with fail
          go_roundw
          case rel => exact ⟨j + 1, by omega, by simp; omega, HB1.out, HO.out⟩
          case measure => simp [intOf]; omega
    · obtain rfl : j = K := by omega
      go_wp2_with fail
      go_ret
      exact ⟨_, rfl, (he.base HB.out).top, B.next hb⟩
set_option maxHeartbeats 3200000 in
set_option maxRecDepth 100000 in
theorem c_l33Walks_mov {w : World} {v : Value} {c : Cat} (h : IC w v c) (S : Shape c) {K : Nat} (k8 : K ≤ 8) :
    Calls Try.prog 62 #[v, .int .i64 (K : Int), .bool true] w (Mk w fun w' r => OwnT 2 w.heap.size w'.heap.size w' r (wlk c (movP c) K)) := by
  obtain ⟨N, hN⟩ := Int.eq_ofNat_of_zero_le S.n0
  have n8 := S.n8
  have hN8 : N ≤ 8 := by omega
  have hmk := run_make_row' (P := Try.prog) 22 2 (.int .i64 0) 8 Try.underlying22 infoInt64 rfl .i64 .i64 N (by omega) (by omega)
  rw [← hN] at hmk
  have hm40 : c.fr.length ≤ 40 := by have := S.m40; unfold Cat.m at this; omega
  have hNN : Hid (c.n.toNat = N) := by unfold Hid; rw [hN]; simp
  have HNN := Lib.hid hN
  have SH := Lib.hid S
  clear S hN n8
  have HMK := Lib.hid hmk
  clear hmk
  obtain ⟨aF, aT, aI, aC, bF, oF, kF, bT, oT, kT, bI, oI, kI, bC, oC, kC, bR, oR, kR, rfl, V⟩ := h.boxed 29
  have B : Bel w (w.alloc (.cells #[.int .i64 c.n, .slice aF c.fr.length kF, .slice aT c.to.length kT, .slice aI c.id.length kI, .slice aC c.cm.length kC] 29)) := bel_box w _
  have ZB := Lib.hid (show (w.alloc (.cells #[.int .i64 c.n, .slice aF c.fr.length kF, .slice aT c.to.length kT, .slice aI c.id.length kI, .slice aC c.cm.length kC] 29)).heap.size = w.heap.size + 1 from by simp)
  clear h
  go_enter Try.func62, Try.ntmps62
  go_wp2_with fail
  generalize w.alloc (.cells #[.int .i64 c.n, .slice aF c.fr.length kF, .slice aT c.to.length kT, .slice aI c.id.length kI, .slice aC c.cm.length kC] 29) = w1 at *
  generalize w.heap.size = b at *
  have c0 := V.c0
  have c1 := V.c1
  have c2 := V.c2
  have c3 := V.c3
  have c4 := V.c4
  clear c0 c1 c2 c3 c4
  have HB : Hid (w.heap.size ≤ w1.heap.size) := B.size
  try go_wp2_with fail
  refine (c_l22RepeatI 1 (by constructor <;> omega) c.n SH.out.n0 SH.out.n8).mono ?_
  rintro e w2 ⟨u, rfl, o2, b2⟩
  have hw2 : Own 2 w2 w1.heap.size u (wlk c (movP c) 0) := by unfold wlk; exact o2.own
  clear o2
  go_wp2_with fail
  go_loopw [1, 7, 8, 9] (fun kv en _ _ wr => ∃ j : Nat, j ≤ K ∧ kv = .int .i64 ((K : Int) - j) ∧ Below w1.heap.size w1 wr ∧ Own 2 wr w1.heap.size en (wlk c (movP c) j)) (fun kv _ _ _ _ => (intOf kv).toNat)
  case atStart => exact ⟨0, Nat.zero_le _, by simp, b2, hw2⟩
  case round =>
    obtain ⟨j, hj, rfl, hb, he⟩ := hrel
    by_cases hlt : j < K
    · have c0 := (V.kept hb).c0
      have hmk := HMK.out
      have c1 := (V.kept hb).c1
      have lb : b < wr.heap.size := World.block_lt_of_cell? _ _ c1
      obtain ⟨ao, ge, ce, rfl, hg⟩ := he.opened2
      rw [wlk_length, hNN.out] at hg
      rw [wlk_length, hNN.out]
      rw [wlk_length, hNN.out] at he
      have hgw := hb.size
      have hn0 := Own.made 2 wr w1.heap.size N hgw hN8
      have hn1 : Own 2 (wr.alloc (.cells (madeCells #[.int .i64 0] N) 2)) w1.heap.size (.slice (some ⟨wr.heap.size, 0, none⟩) N N) (stp c (movP c) (wlk c (movP c) j) 0) := by unfold stp; rw [hNN.out]; exact hn0
      have HE0 : Hid (∀ i, i < N → (wr.alloc (.cells (madeCells #[.int .i64 0] N) 2)).cell? ⟨ge, i, none⟩ = some (.int .i64 (gi (wlk c (movP c) j) i))) := fun i hi => by
        obtain ⟨rfl, -, -⟩ := hg (by omega)
        exact up_cell (bel_box _ _) (he.cellAt2 (by rw [wlk_length, hNN.out]) (by rw [wlk_length, hNN.out]; exact hi))
      have hgne : 0 < N → ge < wr.heap.size := fun h => (hg h).2.2
      have hga : 0 < N → ao = some ⟨ge, 0, none⟩ := fun h => (hg h).1
      have hbm := bel_next hb (bel_box wr (.cells (madeCells #[.int .i64 0] N) 2))
      clear he hn0 hg
      go_wp2_with fail
      clear hmk c0 c1
      generalize wr.alloc (.cells (madeCells #[.int .i64 0] N) 2) = wm at *
      generalize wr.heap.size = g at *
      go_loopw [9] (fun i wr => ∃ f : Nat, f ≤ c.fr.length ∧ i = .int .i64 f ∧ Below w1.heap.size w1 wr ∧ Own 2 wr w1.heap.size (.slice (some ⟨g, 0, none⟩) N N) (stp c (movP c) (wlk c (movP c) j) f) ∧ Hid (∀ i, i < N → wr.cell? ⟨ge, i, none⟩ = some (.int .i64 (gi (wlk c (movP c) j) i)))) (fun i _ => c.fr.length - (intOf i).toNat)
      case atStart => exact ⟨0, Nat.zero_le _, rfl, hbm, hn1, HE0⟩
      case round =>
        clear hb hbm hn1 HE0
        obtain ⟨f, hf, rfl, hb, hn, HE⟩ := hrel
        have V2 := V.kept hb
        have c0 := V2.c0
        have c1 := V2.c1
        have c2 := V2.c2
        have c3 := V2.c3
        have c4 := V2.c4
        by_cases hlf : f < c.fr.length
        · have hA : c.Arr f := ⟨by omega, by unfold Cat.m; omega⟩
          go_wp2_with fail
          cases hp : (movP c) (f : Int) with
          | true =>
            have HP := Lib.hid (stp_yes (c := c) (row := wlk c (movP c) j) hp)
            go_wp2_with fail
            refine (c_l02Unit V2.ic SH.out hA).mono ?_
            rintro e wp ⟨rfl, bp⟩
            clear c0 c1 c2 c3 c4
            have hu : (c.I (c.F f) == (f : Int)) = false := by unfold movP at hp; simpa using hp
            rw [hu]
            clear hu
            replace hb := bel_next hb bp
            replace hn := hn.kept bp
            have HE2 : Hid (∀ i, i < N → wp.cell? ⟨ge, i, none⟩ = some (.int .i64 (gi (wlk c (movP c) j) i))) := fun i hi => up_cell bp (HE.out i hi)
            clear HE bp hp V2
            go_wp2_with fail
            refine wp_region_still_tail 24 (by kernel_rfl) (by kernel_rfl) ?_
            simp only [List.take_succ_cons, List.take_zero, List.drop_succ_cons, List.drop_zero]
            obtain ⟨wq, hq⟩ : ∃ wq, wq = wp.drew := ⟨_, rfl⟩
            change wpStill _ _ wp.drew _ _ _
            rw [← hq]
            have hdq : Drawn wp wq := by subst hq; exact Drawn.one (Drawn.refl _)
            have Hq := Lib.hid hq
            clear hq
            replace hb := hb.trans (hdq.below _)
            replace hn := hn.kept (hdq.below _)
            have HE3 : Hid (∀ i, i < N → wq.cell? ⟨ge, i, none⟩ = some (.int .i64 (gi (wlk c (movP c) j) i))) := fun i hi => up_cell (hdq.below _) (HE2.out i hi)
            clear hdq HE2
            have V3 := V.kept hb
            have c1 := V3.c1
            have c2 := V3.c2
            obtain ⟨rfl, rfl, rfl, rfl⟩ := V.som SH.out (by omega)
            have cF := V3.cF hA
            have cT := V3.cT SH.out hA
            simp only [Int.toNat_natCast] at cF cT
            have l1 : f < c.to.length := by rw [SH.out.tl]; exact hlf
            obtain ⟨x, hx⟩ := Int.eq_ofNat_of_zero_le (SH.out.fO f hA).1
            obtain ⟨y, hy⟩ := Int.eq_ofNat_of_zero_le (SH.out.tO f hA).1
            have hxN : x < N := by have := (SH.out.fO f hA).2; have := HNN.out; omega
            have hyN : y < N := by have := (SH.out.tO f hA).2; have := HNN.out; omega
            have hl1 : N = (stp c (movP c) (wlk c (movP c) j) f).length := by rw [stp_length, hNN.out]
            obtain rfl := hga (by omega)
            have hgn := hgne (by omega)
            have cn := hn.cellAt2 hl1 (i := y) (by omega)
            have ce' := HE3.out x hxN
            have fz := hn.frozenAt2 hl1 y
            have hb1 := stp_num (movP c) hm40 (k := j) (f := f) (by omega) (by omega) y
            have hb2 := wlk_num (movP c) hm40 (k := j) (by omega) x
            have HS := HP.out
            rw [hx, hy] at HS
            rw [hx] at cF
            rw [hy] at cT
            simp only [Int.toNat_natCast] at HS
            have HSS := Lib.hid HS
            have HL1 := Lib.hid hl1
            clear hx hy HS HP hl1 V3
            repeat still_step
            refine wpStill_nil ?_
            change wpList _ _ _ _ _ wp.drew
            rw [← Hq.out]
            clear Hq c1 c2 cF cT
            go_wp2_with fail
            go_roundw
            case rel => exact ⟨f + 1, by omega, by go_num, hb.setCell hgw _, by rw [HSS.out]; exact hn.set2 HL1.out y (by constructor <;> omega), fun i hi => by rw [World.cell?_setCell_far _ _ _ _ (by simp; omega)]; exact HE3.out i hi⟩
            case measure => simp [intOf]; omega
          | false =>
            have HP := Lib.hid (stp_no (c := c) (row := wlk c (movP c) j) hp)
            go_wp2_with fail
            refine (c_l02Unit V2.ic SH.out hA).mono ?_
            rintro e wp ⟨rfl, bp⟩
            clear c0 c1 c2 c3 c4
            have hu : (c.I (c.F f) == (f : Int)) = true := by unfold movP at hp; simpa using hp
            rw [hu]
            clear hu
            clear hp
            go_wp2_with fail
            go_roundw
            case rel => exact ⟨f + 1, by omega, by go_num, bel_next hb bp, by rw [HP.out]; exact hn.kept bp, fun i hi => up_cell bp (HE.out i hi)⟩
            case measure => simp [intOf]; omega
        · have hfe : f = c.fr.length := by omega
          have hlb : decide ((f : Int) < (c.fr.length : Int)) = false := by simp; omega
          have HB1 := Lib.hid hb
          have HO : Hid (Own 2 wr w1.heap.size (.slice (some ⟨g, 0, none⟩) N N) (wlk c (movP c) (j + 1))) := by unfold Hid; rw [hfe] at hn; exact hn
          clear hb hn
          go_wp2_with fail
          go_roundw
          case rel => exact ⟨j + 1, by omega, by simp; omega, HB1.out, HO.out⟩
          case measure => simp [intOf]; omega
    · obtain rfl : j = K := by omega
      go_wp2_with fail
      go_ret
      exact ⟨_, rfl, (he.base HB.out).top, B.next hb⟩
end Go.Proofs.Ytkmkbmhpdnddnaa
