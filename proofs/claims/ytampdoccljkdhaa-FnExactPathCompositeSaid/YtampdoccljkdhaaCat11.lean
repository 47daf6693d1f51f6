/-
  Chapter 2: PathComposite: program and reference.
-/
import Derived.Test.YtampdoccljkdhaaCat7
namespace Go.Proofs.Ytampdoccljkdhaa
open Go.RowKit

/-- h, then all of a list; -1 where that breaks off. -/
def pathG (c : Cat) : Int → List Int → Int
  | h, [] => h
  | h, f :: r => if c.M h f < 0 then -1 else pathG c (c.M h f) r
theorem pathG_step {c : Cat} {h : Int} {xs : List Int} {k : Nat} (hk : k < xs.length) : pathG c h (xs.drop k) = if c.M h (gi xs k) < 0 then -1 else pathG c (c.M h (gi xs k)) (xs.drop (k + 1)) := by
  rw [drop_gi hk]; rfl
/-- What PathComposite returns. -/
noncomputable def pathR (c : Cat) (x : Int) (p : List Int) : Int × Int := if codeA c p = 0 then (if inR x 0 (c.n - 1) = true then (if pathG c (c.I x) p < 0 then (0, 5) else (pathG c (c.I x) p, 0)) else (0, 2)) else (0, codeA c p)
theorem arr_of {c : Cat} (S : Shape c) {f g : Int} (hf : c.Arr f) (hg : c.Arr g) (h : ¬ c.M f g < 0) : c.Arr (c.M f g) := by
  by_cases e : c.T f = c.F g
  · exact (S.mA f g hf hg e).1
  · exact absurd ((ne_neg S hf hg).2 e) h
theorem codeO_x {c : Cat} {x : Int} (h : catB c = true) : codeO c [x] = if inR x 0 (c.n - 1) = true then 0 else 2 := by
  unfold codeO
  rw [if_pos h]
  have e : allIn c.n [x] = inR x 0 (c.n - 1) := by
    rw [allIn_one]
    unfold inR
    by_cases a : 0 ≤ x <;> by_cases b : x < c.n
    · rw [decide_eq_true a, decide_eq_true b, decide_eq_true (show 0 ≤ x ∧ x ≤ c.n - 1 by omega)]; rfl
    · rw [decide_eq_true a, decide_eq_false b, decide_eq_false (show ¬ (0 ≤ x ∧ x ≤ c.n - 1) by omega)]; rfl
    · rw [decide_eq_false a, decide_eq_false (show ¬ (0 ≤ x ∧ x ≤ c.n - 1) by omega)]; rfl
    · rw [decide_eq_false a, decide_eq_false (show ¬ (0 ≤ x ∧ x ≤ c.n - 1) by omega)]; rfl
  rw [e]
set_option maxHeartbeats 800000 in
theorem i_PathComposite {w : World} {v u : Value} {c : Cat} {p : List Int} (h : IC w v c) (x : Int) (_ : I64 x) (hp : IS w u p) : Calls Try.prog 40 #[v, .int .i64 x, u] w (Ret w (.tuple #[.int .i64 (pathR c x p).1, .int .i64 (pathR c x p).2])) := by
  obtain ⟨ao, bb, oo, cc, rfl, ha, hc⟩ := hp.ex
  have lP := hp.len
  obtain ⟨aF, aT, aI, aC, bF, oF, kF, bT, oT, kT, bI, oI, kI, bC, oC, kC, bR, oR, kR, rfl, V⟩ := h.boxed 28
  have B : Bel w (w.alloc (.cells #[.int .i64 c.n, .slice aF c.fr.length kF, .slice aT c.to.length kT, .slice aI c.id.length kI, .slice aC c.cm.length kC] 28)) := bel_box w _
  have ZB := Lib.hid (show (w.alloc (.cells #[.int .i64 c.n, .slice aF c.fr.length kF, .slice aT c.to.length kT, .slice aI c.id.length kI, .slice aC c.cm.length kC] 28)).heap.size = w.heap.size + 1 from by simp)
  clear h
  go_enter Try.func40, Try.ntmps40
  go_wp2_with fail
  generalize w.alloc (.cells #[.int .i64 c.n, .slice aF c.fr.length kF, .slice aT c.to.length kT, .slice aI c.id.length kI, .slice aC c.cm.length kC] 28) = w1 at *
  generalize w.heap.size = b at *
  have c0 := V.c0
  have c1 := V.c1
  have c2 := V.c2
  have c3 := V.c3
  have c4 := V.c4
  clear c0 c1 c2 c3 c4
  refine (c_arrowCode V.pc (hp.kept B)).mono ?_
  rintro e w2 ⟨rfl, b2⟩
  have V2 := V.kept b2
  have B2 := B.next b2
  by_cases hz : codeA c p = 0
  · obtain ⟨hcb, hall⟩ := codeA_zero hz
    have S := (catB_s hcb).s
    have hzb : (codeA c p != 0) = false := by simp [hz]
    have HZ := Lib.hid hz
    have n0 := S.n0
    have n8 := S.n8
    have SH := Lib.hid S
    have HALL := Lib.hid (allIn_at.1 hall)
    clear hz hcb hall S
    have c0 := V2.c0
    by_cases hx : inR x 0 (c.n - 1) = true
    · have hO : c.Obj x := by simp [inR] at hx; exact ⟨hx.1, by omega⟩
      have HX := Lib.hid hx
      go_wp2_with fail
      refine (c_inRange x 0 (c.n - 1) _).mono ?_
      rintro e w3 ⟨rfl, d3⟩
      have hA := SH.out.iA x hO
      obtain ⟨rfl, rfl, rfl, rfl⟩ := V.som SH.out (by have := hA.1; have := hA.2; unfold Cat.m at this; omega)
      have V3 := V2.drawn d3
      have B3 := bel_next B2 d3.bel0
      have c3 := V3.c3
      have cI := V3.cI SH.out hO
      have x0 := hO.1
      have x1 : x < (c.id.length : Int) := by rw [SH.out.il]; exact hO.2
      clear c0
      go_wp2_with fail
      clear c3 cI
      go_loopw [9, 11, 30] (fun hv _ i wr => ∃ (k : Nat) (H : Int), k ≤ p.length ∧ i = .int .i64 k ∧ hv = .int .i64 H ∧ c.Arr H ∧ Drawn w3 wr ∧ Hid (pathG c (c.I x) p = pathG c H (p.drop k))) (fun _ _ i _ => p.length - (intOf i).toNat)
      case atStart => exact ⟨0, _, Nat.zero_le _, rfl, rfl, hA, Drawn.refl _, rfl⟩
      case round =>
        obtain ⟨k, H, hk, rfl, rfl, hH, hd, hq⟩ := hrel
        by_cases hlt : k < p.length
        · obtain rfl := ha (by omega)
          have cx := up_cell (bel_next B3 hd.bel0) (hc k hlt)
          have hg : c.Arr (gi p k) := HALL.out k (by omega) (by omega)
          have HST := Lib.hid (pathG_step (c := c) (h := H) hlt)
          go_wp2_with fail
          refine (c_then (V3.drawn hd).pc SH.out hH hg).mono ?_
          rintro e w4 ⟨rfl, d4⟩
          have hd4 := drawn_trans hd d4
          clear cx d4
          by_cases hn : c.M H (gi p k) < 0
          · have hnb : decide (c.M H (gi p k) < 0) = true := by simp [hn]
            have HN := Lib.hid hn
            clear hn
            go_wp2_with fail
            go_ret2
            exact ⟨ret_ii (by rw [pathR, if_pos HZ.out, if_pos HX.out, hq.out, HST.out, if_pos HN.out]; rfl), bel_next B3 hd4.bel0⟩
          · have hnb : decide (c.M H (gi p k) < 0) = false := by simp; omega
            have hA2 := arr_of SH.out hH hg hn
            have HN := Lib.hid hnb
            clear hn
            go_wp2_with fail
            go_roundw
            case rel => exact ⟨k + 1, _, by omega, by go_num, rfl, hA2, hd4, by unfold Hid; rw [hq.out, HST.out, if_neg (by have := HN.out; simp at this; omega)]⟩
            case measure => simp [intOf]; omega
        · have hke : p.length = k := by omega
          have HE : Hid (pathG c (c.I x) p = H) := by unfold Hid; rw [hq.out, List.drop_of_length_le (by omega)]; rfl
          have hh0 := hH.1
          clear hq
          go_wp2_with fail
          go_ret2
          exact ⟨ret_ii (by rw [pathR, if_pos HZ.out, if_pos HX.out, HE.out, if_neg (by omega)]), bel_next B3 hd.bel0⟩
    · have hxb : inR x 0 (c.n - 1) = false := by simpa using hx
      have HX := Lib.hid hx
      clear hx
      go_wp2_with fail
      refine (c_inRange x 0 (c.n - 1) _).mono ?_
      rintro e w3 ⟨rfl, d3⟩
      clear c0
      go_wp2_with fail
      go_ret2
      exact ⟨ret_ii (by rw [pathR, if_pos HZ.out, if_neg HX.out]), bel_next B2 d3.bel0⟩
  · have hzb : (codeA c p != 0) = true := by simp [hz]
    have HZ := Lib.hid hz
    clear hz
    go_wp2_with fail
    go_ret2
    exact ⟨ret_ii (by rw [pathR, if_neg HZ.out]), B2⟩
set_option maxHeartbeats 1600000 in
theorem s_PathComposite {w : World} {v u : Value} {c : Cat} {p : List Int} (h : IC w v c) (x : Int) (hxx : I64 x) (hp : IS w u p) : Calls Try.prog 38 #[v, .int .i64 x, u] w (Ret w (.tuple #[.int .i64 (pathR c x p).1, .int .i64 (pathR c x p).2])) := by
  obtain ⟨ao, bb, oo, cc, rfl, ha, hc⟩ := hp.ex
  have lP := hp.len
  obtain ⟨aF, aT, aI, aC, bF, oF, kF, bT, oT, kT, bI, oI, kI, bC, oC, kC, bR, oR, kR, rfl, V⟩ := h.boxed 28
  have B : Bel w (w.alloc (.cells #[.int .i64 c.n, .slice aF c.fr.length kF, .slice aT c.to.length kT, .slice aI c.id.length kI, .slice aC c.cm.length kC] 28)) := bel_box w _
  have ZB := Lib.hid (show (w.alloc (.cells #[.int .i64 c.n, .slice aF c.fr.length kF, .slice aT c.to.length kT, .slice aI c.id.length kI, .slice aC c.cm.length kC] 28)).heap.size = w.heap.size + 1 from by simp)
  clear h
  go_enter Try.func38, Try.ntmps38
  go_wp2_with fail
  generalize w.alloc (.cells #[.int .i64 c.n, .slice aF c.fr.length kF, .slice aT c.to.length kT, .slice aI c.id.length kI, .slice aC c.cm.length kC] 28) = w1 at *
  generalize w.heap.size = b at *
  have c0 := V.c0
  have c1 := V.c1
  have c2 := V.c2
  have c3 := V.c3
  have c4 := V.c4
  clear c0 c1 c2 c3 c4
  refine (c_l02Objects (V.ic.kept (bel_box _ _)) (IS.lit1v' hxx _ ZB.out)).mono ?_
  rintro e w2 ⟨rfl, b2⟩
  replace b2 := bel_next (bel_box w1 _) b2
  have V2 := V.kept b2
  have B2 := B.next b2
  by_cases hcb : catB c = true
  · have S := (catB_s hcb).s
    have HCB := Lib.hid hcb
    rw [codeO_x hcb]
    clear hcb
    by_cases hx : inR x 0 (c.n - 1) = true
    · have hO : c.Obj x := by simp [inR] at hx; exact ⟨hx.1, by omega⟩
      have HX := Lib.hid hx
      rw [if_pos hx]
      clear hx hxx
      have hA := S.iA x hO
      have SH := Lib.hid S
      clear S
      obtain ⟨rfl, rfl, rfl, rfl⟩ := V.som SH.out (by have := hA.1; have := hA.2; unfold Cat.m at this; omega)
      have c0 := V2.c0
      have c1 := V2.c1
      have c2 := V2.c2
      have c3 := V2.c3
      have c4 := V2.c4
      go_wp2_with fail
      refine (c_l02Arrows V2.ic (hp.kept B2)).mono ?_
      rintro e w3 ⟨rfl, b3⟩
      have V3 := V2.kept b3
      have B3 := bel_next B2 b3
      clear c0 c1 c2 c3 c4
      by_cases hz : codeA c p = 0
      · obtain ⟨-, hall⟩ := codeA_zero hz
        have hzb : (codeA c p != 0) = false := by simp [hz]
        have HZ := Lib.hid hz
        have HALL := Lib.hid (allIn_at.1 hall)
        clear hz hall
        have c3 := V3.c3
        have cI := V3.cI SH.out hO
        have x0 := hO.1
        have x1 : x < (c.id.length : Int) := by rw [SH.out.il]; exact hO.2
        go_wp2_with fail
        clear c3 cI
        go_loopw [9, 10] (fun hv i wr => ∃ (k : Nat) (H : Int), k ≤ p.length ∧ i = .int .i64 k ∧ hv = .int .i64 H ∧ c.Arr H ∧ Below w3.heap.size w3 wr ∧ Hid (pathG c (c.I x) p = pathG c H (p.drop k))) (fun _ i _ => p.length - (intOf i).toNat)
        case atStart => exact ⟨0, _, Nat.zero_le _, rfl, rfl, hA, Below.refl _ _, rfl⟩
        case round =>
          obtain ⟨k, H, hk, rfl, rfl, hH, hb, hq⟩ := hrel
          by_cases hlt : k < p.length
          · obtain rfl := ha (by omega)
            have cx := up_cell (bel_next B3 hb) (hc k hlt)
            have hg : c.Arr (gi p k) := HALL.out k (by omega) (by omega)
            have HST := Lib.hid (pathG_step (c := c) (h := H) hlt)
            have V4 := V3.kept hb
            have c0 := V4.c0
            have c1 := V4.c1
            have c2 := V4.c2
            have c3 := V4.c3
            have c4 := V4.c4
            have cT := V4.cT SH.out hH
            have cF := V4.cF hg
            have q1 := hH.1
            have q2 := hg.1
            have q3 : H < (c.to.length : Int) := by rw [SH.out.tl]; exact hH.2
            have q4 : gi p k < (c.fr.length : Int) := hg.2
            have HNN := Lib.hid (ne_neg SH.out hH hg)
            by_cases ht : c.T H = c.F (gi p k)
            · have htb : (c.T H != c.F (gi p k)) = false := by simp [ht]
              have hn : ¬ c.M H (gi p k) < 0 := fun q => HNN.out.1 q ht
              have hA2 := arr_of SH.out hH hg hn
              have HN := Lib.hid hn
              clear ht hn
              go_wp2_with fail
              go_quiet (fail)
              have hb5 := bel_next hb (Drawn.step (Drawn.refl _) nq).bel0
              have V5 := V4.drawn (Drawn.step (Drawn.refl _) nq)
              have cx5 := up_cell (Drawn.step (Drawn.refl wr) nq).bel0 cx
              clear c0 c1 c2 c3 c4 cT cF cx V4 hb
              generalize wr.drewN nq = w5 at *
              have c0 := V5.c0
              have c1 := V5.c1
              have c2 := V5.c2
              have c3 := V5.c3
              have c4 := V5.c4
              have VI := V5.ic
              go_wp2_with fail
              refine wp_region_qb (by kernel_rfl) (by kernel_rfl) ?_
              repeat (refine qw_step (fun K hK => ?_); first | (refine qb_no rfl ?_; (try simp only [Act.put, List.setIfInBounds_toArray, List.set_cons_zero, List.set_cons_succ]); refine hK _ ?_; clear hK K) | (refine qb_yes rfl ?_; apply Exists.intro; refine ⟨fun w' hC => ?_, ?_⟩; (· (have x0 := up_cell hC c0; have x1 := up_cell hC c1; have x2 := up_cell hC c2; have x3 := up_cell hC c3; have x4 := up_cell hC c4; have x5 := up_cell hC cx5; (try go_simp); (first | done | (go_at_call 65; with_reducible exact calls_qb hC (c_l02Then (VI.kept hC) SH.out hH hg)) | with_reducible rfl | exact rfl))); (try simp only [Act.put, List.setIfInBounds_toArray, List.set_cons_zero, List.set_cons_succ]); refine hK _ ?_; clear hK K))
              refine qw_nil ?_
              intro wq hbq
              clear c0 c1 c2 c3 c4 cx5
              go_wp2_with fail
              go_roundw
              case rel => exact ⟨k + 1, _, by omega, by go_num, rfl, hA2, bel_next hb5 hbq, by unfold Hid; rw [hq.out, HST.out, if_neg (by have := HN.out; omega)]⟩
              case measure => simp [intOf]; omega
            · have htb : (c.T H != c.F (gi p k)) = true := by simp [ht]
              have HN := Lib.hid (HNN.out.2 ht)
              clear ht
              go_wp2_with fail
              go_quiet (fail)
              go_wp2_with fail
              go_ret2
              exact ⟨ret_ii (by rw [pathR, if_pos HZ.out, if_pos HX.out, hq.out, HST.out, if_pos HN.out]; rfl), bel_next B3 (bel_next hb (Drawn.step (Drawn.refl _) _).bel0)⟩
          · have hke : p.length = k := by omega
            have HE : Hid (pathG c (c.I x) p = H) := by unfold Hid; rw [hq.out, List.drop_of_length_le (by omega)]; rfl
            have hh0 := hH.1
            have hkb : decide ((k : Int) < (p.length : Int)) = false := by simp; omega
            clear hq
            go_wp2_with fail
            go_ret2
            exact ⟨ret_ii (by rw [pathR, if_pos HZ.out, if_pos HX.out, HE.out, if_neg (by omega)]), bel_next B3 hb⟩
      · have hzb : (codeA c p != 0) = true := by simp [hz]
        have HZ := Lib.hid hz
        clear hz
        go_wp2_with fail
        go_ret2
        exact ⟨ret_ii (by rw [pathR, if_neg HZ.out]), B3⟩
    · have HX := Lib.hid hx
      rw [if_neg hx]
      have HE : Hid (pathR c x p = (0, 2)) := by
        unfold Hid pathR
        rw [if_neg HX.out]
        by_cases ha : allIn c.m p = true
        · rw [codeA_ok HCB.out ha]; rfl
        · rw [codeA_bad HCB.out (by simpa using ha)]; rfl
      clear hx hxx
      go_wp2_with fail
      go_ret2
      exact ⟨ret_ii HE.out, B2⟩
  · have hn : catB c = false := by simpa using hcb
    rw [codeO_no hn]
    have HE : Hid (pathR c x p = (0, 1)) := by
      unfold Hid pathR
      rw [codeA_no hn]; rfl
    clear hcb hxx
    go_wp2_with fail
    go_ret2
    exact ⟨ret_ii HE.out, B2⟩
end Go.Proofs.Ytampdoccljkdhaa
