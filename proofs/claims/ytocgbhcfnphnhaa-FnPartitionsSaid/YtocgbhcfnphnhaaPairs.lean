/-
  Chapter 1: JoinPairs of program and reference.
-/
import Derived.Test.YtocgbhcfnphnhaaCoeq
namespace Go.Proofs.Ytocgbhcfnphnhaa
open Go.RowKit

theorem take_gr {xss : List (List Int)} {i : Nat} (h : i < xss.length) : xss.take (i + 1) = xss.take i ++ [gr xss i] := by
  rw [gr_lt h, List.take_succ_eq_append_getElem h]
/-- Every list is a pair of elements. -/
def pairsB (n : Int) (ps : List (List Int)) : Bool := ps.all fun p => decide (p.length = 2) && allIn n p
theorem pairsB_step {n : Int} {ps : List (List Int)} {k : Nat} (h : k < ps.length) : pairsB n (ps.drop k) = ((decide ((gr ps k).length = 2) && allIn n (gr ps k)) && pairsB n (ps.drop (k + 1))) := by
  rw [drop_gr h]; rfl
theorem pairsB_ok {n : Nat} {ps : List (List Int)} (h : pairsB n ps = true) : PairsOk n ps := by
  intro i hi
  have hm : gr ps i ∈ ps := by rw [gr_lt hi]; exact List.getElem_mem _
  have := List.all_eq_true.1 h _ hm
  simp only [Bool.and_eq_true, decide_eq_true_eq] at this
  obtain ⟨h1, h2⟩ := this
  have a0 := allIn_gi h2 (show 0 < (gr ps i).length by omega)
  have a1 := allIn_gi h2 (show 1 < (gr ps i).length by omega)
  exact ⟨h1, a0.1, a0.2, a1.1, a1.2⟩
def jpR (n : Int) (ps : List (List Int)) : List Int × Int := if inR n 0 256 = true then (if pairsB n ps = true then (cls (joinL ps (upto n.toNat)), 0) else ([], 1)) else ([], 2)
set_option maxHeartbeats 1000000 in
theorem i_JoinPairs (n : Int) (_ : I64 n) {w : World} {v : Value} {ps : List (List Int)} (hp : ISS w v ps) :
    Calls Try.prog 18 #[.int .i64 n, v] w (Mk2 2 w (jpR n ps)) := by
  obtain ⟨aop, bp, op, cp, V, rfl, hap, hcp, hrp⟩ := hp.ex
  have hlen := hp.len
  have HRP := Lib.hid hrp
  clear hp hrp
  by_cases h1 : inR n 0 256 = true
  · have g1 : 0 ≤ n ∧ n ≤ 256 := by simpa [inR] using h1
    obtain ⟨N, rfl⟩ : ∃ N : Nat, n = N := ⟨n.toNat, by omega⟩
    have HR : Hid (∀ b, (if pairsB N ps = true then (cls (joinL ps (upto N)), (0 : Int)) else ([], 1)) = b → jpR N ps = b) := fun b hb => by rw [← hb, jpR, if_pos h1]; rfl
    go_enter Try.func18, Try.ntmps18
    go_wp2_with (first | (go_at_call 56; (with_reducible refine (c_isSize _ _).mono ?_); rintro e w' ⟨rfl, n1, rfl⟩))
    refine (c_joinerOf N (by omega) _).mono ?_
    rintro e w2 ⟨rfl, jn0, b2⟩
    have bj2 : Below w.heap.size w w2 := (Drawn.below (by repeat (first | exact Drawn.refl _ | refine Drawn.step ?_ _ | refine Drawn.one ?_)) _).trans b2
    have jn : JN w2 w.heap.size N id := jn0
    clear jn0 b2 h1
    go_wp2_with fail
    obtain ⟨gj, hgj⟩ : ∃ gj, gj = w.heap.size := ⟨_, rfl⟩
    have hgw : w.heap.size ≤ gj := by omega
    rw [← hgj] at jn
    rw [← hgj]
    clear hgj
    go_loopw [8, 16] (fun _ i wr => ∃ (k : Nat) (R : Nat → Nat), k ≤ ps.length ∧ i = .int .i64 k ∧ Below w.heap.size w wr ∧ w.heap.size ≤ wr.heap.size ∧ JN wr gj N R ∧ Hid (SameR N R (joinL (ps.take k) (upto N)) ∧ pairsB N ps = pairsB N (ps.drop k))) (fun _ i _ => ps.length - (intOf i).toNat)
    case atStart => exact ⟨0, id, Nat.zero_le _, rfl, bj2, bj2.size, jn, SameR.start _, rfl⟩
    case round =>
      obtain ⟨k, R, hk, rfl, hb, hw2, hj, hp⟩ := hrel
      clear jn bj2
      by_cases hlt : k < ps.length
      · obtain rfl := hap (by omega)
        have cp := IS.cellAt hb (hcp k hlt) rfl
        have HI := Lib.hid ((HRP.out k hlt).kept hb)
        obtain ⟨aoq, bq, oq, cq, hq, haq, hcq⟩ := (HRP.out k hlt).ex
        have hql := (HRP.out k hlt).len
        rw [hq] at cp HI
        clear hcp hq
        have HST := Lib.hid (pairsB_step (n := (N : Int)) hlt)
        by_cases h2 : (gr ps k).length = 2
        · by_cases h3 : allIn N (gr ps k) = true
          · have h2b : (((gr ps k).length : Int) != 2) = false := by simp [h2]
            obtain ⟨x1, x2⟩ := allIn_gi h3 (show 0 < (gr ps k).length by omega)
            obtain ⟨y1, y2⟩ := allIn_gi h3 (show 1 < (gr ps k).length by omega)
            obtain rfl := haq (by omega)
            have hc0 := hcq 0 (by omega)
            have hc1 := hcq 1 (by omega)
            obtain ⟨x, hx⟩ := Int.eq_ofNat_of_zero_le x1
            obtain ⟨y, hy⟩ := Int.eq_ofNat_of_zero_le y1
            rw [hx] at hc0 x2
            rw [hy] at hc1 y2
            have HE : Hid (joinL (ps.take (k + 1)) (upto N) = relabel (gi (joinL (ps.take k) (upto N)) x) (gi (joinL (ps.take k) (upto N)) y) (joinL (ps.take k) (upto N))) := by
              unfold Hid
              rw [take_gr hlt, joinL_snoc, hx, hy]; rfl
            have HH : Hid (pairsB N ps = pairsB N (ps.drop (k + 1))) := by
              unfold Hid
              rw [hp.out.2, HST.out, h3, h2]; simp
            have hxn : x < N := by omega
            have hyn : y < N := by omega
            rw [h2] at HI cp
            clear hx hy x1 y1 x2 y2 hcq haq
            go_wp2_with (first | (go_at_call 57; (with_reducible refine (c_within (HI.out.drawn (by repeat (first | exact Drawn.refl _ | refine Drawn.step ?_ _ | refine Drawn.one ?_))) N (by omega) (by omega)).mono ?_); rintro e w' ⟨rfl, n1, rfl⟩))
            generalize hwq : wr.drewN n1 = wq
            have hdq : Drawn wr wq := by subst hwq; exact Drawn.step (Drawn.refl _) _
            have hb2 := hb.trans (hdq.below _)
            have c0 := IS.cellAt hb2 hc0 rfl
            have c1 := IS.cellAt hb2 hc1 rfl
            rw [Nat.add_zero] at c0
            have hj2 := hj.kept (hdq.within 0) (.inr (Nat.zero_le _))
            have hsz : wr.heap.size ≤ wq.heap.size := (hdq.below 0).size
            clear hwq hdq hb hj cp hc0 hc1 HI
            go_still_tail 7, (by kernel_rfl)
            change wpList _ _ _ _ _ wq.drew
            clear c0 c1
            have HB3 := Lib.hid (hb2.trans ((Drawn.one (Drawn.refl wq)).below _))
            have HJ3 := Lib.hid (hj2.kept ((Drawn.one (Drawn.refl wq)).within 0) (.inr (Nat.zero_le _)))
            have hs3 : wr.heap.size ≤ wq.drew.heap.size := hsz
            clear hb2 hj2 hsz
            generalize wq.drew = wt at *
            go_wp2_with fail
            refine (c_join HJ3.out (by omega) x y hxn hyn).mono ?_
            rintro e w3 ⟨rfl, hj4, hw3⟩
            have hb4 := hw3.below HB3.out hgw (Nat.le_refl _)
            have hsz4 := hw3.size
            have HS : Hid (SameR N (joinR R (R x) (R y)) (joinL (ps.take (k + 1)) (upto N)) ∧ pairsB N ps = pairsB N (ps.drop (k + 1))) := ⟨by rw [HE.out]; exact hp.out.1.join hxn hyn, HH.out⟩
            clear hw3 HB3 HJ3 HE HH hp HST HRP
            go_wp2_with fail
            go_roundw
            case rel => exact ⟨k + 1, _, by omega, by go_num, hb4, by omega, hj4, HS⟩
            case measure => simp [intOf]; omega
          · have h2b : (((gr ps k).length : Int) != 2) = false := by simp [h2]
            have HBAD : Hid (pairsB N ps = false) := by
              unfold Hid
              rw [hp.out.2, HST.out]; simp [h3]
            rw [h2] at HI cp
            obtain rfl := haq (by omega)
            clear hcq haq hp HST
            go_wp2_with (first | (go_at_call 57; (with_reducible refine (c_within (HI.out.drawn (by repeat (first | exact Drawn.refl _ | refine Drawn.step ?_ _ | refine Drawn.one ?_))) N (by omega) (by omega)).mono ?_); rintro e w' ⟨rfl, n1, rfl⟩))
            go_ret2
            exact mk2_nil (HR.out _ (if_neg (by rw [HBAD.out]; simp))) (hb.trans (Drawn.below (by repeat (first | exact Drawn.refl _ | refine Drawn.step ?_ _ | refine Drawn.one ?_)) _))
        · have h2b : (((gr ps k).length : Int) != 2) = true := by simp; omega
          have HBAD : Hid (pairsB N ps = false) := by
            unfold Hid
            rw [hp.out.2, HST.out]; simp [h2]
          go_wp2_with (first | (go_at_call 57; (with_reducible refine (c_within (HI.out.drawn (by repeat (first | exact Drawn.refl _ | refine Drawn.step ?_ _ | refine Drawn.one ?_))) N (by omega) (by omega)).mono ?_); rintro e w' ⟨rfl, n1, rfl⟩))
          go_ret2
          exact mk2_nil (HR.out _ (if_neg (by rw [HBAD.out]; simp))) (hb.trans (Drawn.below (by repeat (first | exact Drawn.refl _ | refine Drawn.step ?_ _ | refine Drawn.one ?_)) _))
      · have hke : ps.length = k := by omega
        subst hke
        go_wp2_with fail
        refine (c_partition hj (by omega)).mono ?_
        rintro e w2 ⟨u2, rfl, o2, hw3⟩
        have hb2 := hw3.below hb hgw (Nat.le_refl _)
        clear hw3
        go_wp2_with fail
        go_ret2
        obtain ⟨e1, e2⟩ := hp.out
        rw [List.take_length] at e1
        rw [List.drop_length] at e2
        exact mk2_own (by rw [HR.out _ (if_pos (by rw [e2]; rfl)), e1.cls]) (o2.own.base hw2) hb2
  · go_enter Try.func18, Try.ntmps18
    go_wp2_with (first | (go_at_call 56; (with_reducible refine (c_isSize _ _).mono ?_); rintro e w' ⟨rfl, n1, rfl⟩))
    go_ret2
    exact mk2_nil (by simp [jpR, *]) (Drawn.below (by repeat (first | exact Drawn.refl _ | refine Drawn.step ?_ _ | refine Drawn.one ?_)) _)
end Go.Proofs.Ytocgbhcfnphnhaa
