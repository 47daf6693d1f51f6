/-
  Chapter 18: IsOrthogonal: the reference.
-/
import Derived.Test.YtkmkbmhpdnddnaaCat13b
namespace Go.Proofs.Ytkmkbmhpdnddnaa
open Go.RowKit
theorem keep9o {w0 w1 w2 : World} {p0 p1 p2 p3 p4 p5 p6 p7 p8 : Addr} {v0 v1 v2 v3 v4 v5 v6 v7 v8 : Value} (h : Below w0.heap.size w0 w1 ∧ w1.cell? p0 = some v0 ∧ w1.cell? p1 = some v1 ∧ w1.cell? p2 = some v2 ∧ w1.cell? p3 = some v3 ∧ w1.cell? p4 = some v4 ∧ w1.cell? p5 = some v5 ∧ w1.cell? p6 = some v6 ∧ w1.cell? p7 = some v7 ∧ w1.cell? p8 = some v8) (hb : Below w1.heap.size w1 w2) : Below w0.heap.size w0 w2 ∧ w2.cell? p0 = some v0 ∧ w2.cell? p1 = some v1 ∧ w2.cell? p2 = some v2 ∧ w2.cell? p3 = some v3 ∧ w2.cell? p4 = some v4 ∧ w2.cell? p5 = some v5 ∧ w2.cell? p6 = some v6 ∧ w2.cell? p7 = some v7 ∧ w2.cell? p8 = some v8 := ⟨bel_next h.1 hb, up_cell hb h.2.1, up_cell hb h.2.2.1, up_cell hb h.2.2.2.1, up_cell hb h.2.2.2.2.1, up_cell hb h.2.2.2.2.2.1, up_cell hb h.2.2.2.2.2.2.1, up_cell hb h.2.2.2.2.2.2.2.1, up_cell hb h.2.2.2.2.2.2.2.2.1, up_cell hb h.2.2.2.2.2.2.2.2.2⟩
set_option maxHeartbeats 3200000 in
theorem c_l18Orthogonal {w : World} {v : Value} {c : Cat} (h : IC w v c) (S : Shape c) {f m : Int} (hf : c.Arr f) (hm : c.Arr m) : Calls Try.prog 77 #[v, .int .i64 f, .int .i64 m] w (Ret w (.bool (ortB c f m))) := by
  have SH := Lib.hid S
  clear S
  obtain ⟨aF, aT, aI, aC, bF, oF, kF, bT, oT, kT, bI, oI, kI, bC, oC, kC, bR, oR, kR, rfl, V⟩ := h.boxed 29
  have B : Bel w (w.alloc (.cells #[.int .i64 c.n, .slice aF c.fr.length kF, .slice aT c.to.length kT, .slice aI c.id.length kI, .slice aC c.cm.length kC] 29)) := bel_box w _
  have ZB := Lib.hid (show (w.alloc (.cells #[.int .i64 c.n, .slice aF c.fr.length kF, .slice aT c.to.length kT, .slice aI c.id.length kI, .slice aC c.cm.length kC] 29)).heap.size = w.heap.size + 1 from by simp)
  clear h
  go_enter Try.func77, Try.ntmps77
  go_wp2_with fail
  generalize w.alloc (.cells #[.int .i64 c.n, .slice aF c.fr.length kF, .slice aT c.to.length kT, .slice aI c.id.length kI, .slice aC c.cm.length kC] 29) = w1 at *
  generalize w.heap.size = b at *
  have c0 := V.c0
  have c1 := V.c1
  have c2 := V.c2
  have c3 := V.c3
  have c4 := V.c4
  clear c0 c1 c2 c3 c4
  obtain ⟨rfl, rfl, rfl, rfl⟩ := V.som SH.out (by have := hf.1; have := hf.2; unfold Cat.m at this; omega)
  have f0 := hf.1
  have m0 := hm.1
  have f1 : f < (c.fr.length : Int) := hf.2
  have m1 : m < (c.fr.length : Int) := hm.2
  have f2 : f < (c.to.length : Int) := by rw [SH.out.tl]; exact hf.2
  have m2 : m < (c.to.length : Int) := by rw [SH.out.tl]; exact hm.2
  have hL1 := homL_le c (c.F f) (c.F m)
  have hL2 := homL_le c (c.T f) (c.T m)
  have c0 := V.c0
  have c1 := V.c1
  have c2 := V.c2
  have c3 := V.c3
  have c4 := V.c4
  have cFf := V.cF hf
  have cFm := V.cF hm
  have cTf := V.cT SH.out hf
  have cTm := V.cT SH.out hm
  have VI := V.ic
  try go_wp2_with fail
  go_region_held3 (fun w' => Below w1.heap.size w1 w' ∧ w'.cell? ⟨b, 0, none⟩ = some (.int .i64 c.n) ∧ w'.cell? ⟨b, 1, none⟩ = some (.slice (some ⟨bF, oF, none⟩) c.fr.length kF) ∧ w'.cell? ⟨b, 2, none⟩ = some (.slice (some ⟨bT, oT, none⟩) c.to.length kT) ∧ w'.cell? ⟨b, 3, none⟩ = some (.slice (some ⟨bI, oI, none⟩) c.id.length kI) ∧ w'.cell? ⟨b, 4, none⟩ = some (.slice (some ⟨bC, oC, none⟩) c.cm.length kC) ∧ w'.cell? ⟨bF, oF + f.toNat, none⟩ = some (.int .i64 (c.F f)) ∧ w'.cell? ⟨bF, oF + m.toNat, none⟩ = some (.int .i64 (c.F m)) ∧ w'.cell? ⟨bT, oT + f.toNat, none⟩ = some (.int .i64 (c.T f)) ∧ w'.cell? ⟨bT, oT + m.toNat, none⟩ = some (.int .i64 (c.T m)))
    (first | exact ⟨(Drawn.one (Drawn.refl _)).bel0, c0, c1, c2, c3, c4, cFf, cFm, cTf, cTm⟩ | (refine keep9o ?_ hb7; assumption) | (refine keep9o ?_ (bel_box _ _); assumption))
    (first | (go_at_call 82; (with_reducible refine (c_l02Hom (VI.kept (And.left (by assumption))) SH.out.tl (c.F f) (c.F m)).mono ?_); rintro e wq ⟨u1, rfl, o1, hb7⟩) | (go_at_call 82; (with_reducible refine (c_l02Hom (VI.kept (And.left (by assumption))) SH.out.tl (c.T f) (c.T m)).mono ?_); rintro e wq ⟨u2, rfl, o2, hb7⟩))
  all_goals
    obtain ⟨hbl, -⟩ := ‹Below w1.heap.size w1 wq ∧ _›
    obtain ⟨I1, I2⟩ : IS wq u1 (homL c (c.F f) (c.F m)) ∧ IS wq u2 (homL c (c.T f) (c.T m)) := by first | exact ⟨o1.is.kept hb7, o2.is⟩ | exact ⟨o1.is, o2.is.kept hb7⟩
    have hl1 := I1.len
    have hl2 := I2.len
    clear o1 o2 hb7 c0 c1 c2 c3 c4 cFf cFm cTf cTm
    obtain ⟨ao, bb, oo, cc, rfl, ha, hc⟩ := I1.ex
    obtain ⟨ao2, bb2, oo2, cc2, rfl, ha2, hc2⟩ := I2.ex
    have HC1 := Lib.hid hc
    have HC2 := Lib.hid hc2
    clear I1 I2 hc hc2
    go_wp2_with fail
    go_loopw [9, 10] (fun i _ wr => ∃ k : Nat, k ≤ (homL c (c.F f) (c.F m)).length ∧ i = .int .i64 k ∧ Below wq.heap.size wq wr ∧ Hid (∀ q, q < k → ∀ v ∈ (homL c (c.T f) (c.T m)), ¬ OrtBad c f m (gi (homL c (c.F f) (c.F m)) q) v)) (fun i _ _ => (homL c (c.F f) (c.F m)).length - (intOf i).toNat)
    case atStart => exact ⟨0, Nat.zero_le _, rfl, Below.refl _ _, fun q h => by omega⟩
    case round =>
      obtain ⟨k, hk, rfl, hb, hp⟩ := hrel
      by_cases hlt : k < (homL c (c.F f) (c.F m)).length
      · obtain rfl := ha (by omega)
        have hum := gi_mem hlt
        have hu := (homL_mem hum).1
        have HUM := Lib.hid hum
        clear hum
        obtain ⟨u, hge⟩ : ∃ u, u = gi (homL c (c.F f) (c.F m)) k := ⟨_, rfl⟩
        have HCU : Hid (wq.cell? ⟨bb, oo + k, none⟩ = some (.int .i64 u)) := by have := HC1.out k hlt; rw [← hge] at this; exact this
        rw [← hge] at hu HUM
        have HGE := Lib.hid hge.symm
        clear hge
        go_wp2_with fail
        go_loopw [10] (fun i wr2 => ∃ k : Nat, k ≤ (homL c (c.T f) (c.T m)).length ∧ i = .int .i64 k ∧ Below wq.heap.size wq wr2 ∧ Hid (∀ q, q < k → ¬ OrtBad c f m u (gi (homL c (c.T f) (c.T m)) q))) (fun i _ => (homL c (c.T f) (c.T m)).length - (intOf i).toNat)
        case atStart => exact ⟨0, Nat.zero_le _, rfl, hb, fun q h => by omega⟩
        case round =>
          clear hb
          obtain ⟨l, hl, rfl, hb, hp2⟩ := hrel
          by_cases hll : l < (homL c (c.T f) (c.T m)).length
          · obtain rfl := ha2 (by omega)
            have cx := up_cell hb HCU.out
            have cy := up_cell hb (HC2.out l hll)
            have hvm := gi_mem hll
            have hv := (homL_mem hvm).1
            have HVM := Lib.hid hvm
            clear hvm
            generalize hge : gi (homL c (c.T f) (c.T m)) l = v at *
            have HGE2 := Lib.hid hge
            clear hge
            have V3 := V.kept (bel_next hbl hb)
            have c0 := V3.c0
            have c1 := V3.c1
            have c2 := V3.c2
            have c3 := V3.c3
            have c4 := V3.c4
            have VI3 := V3.ic
            clear V3
            by_cases i1 : c.M f v = c.M u m
            · have i1b : (c.M f v == c.M u m) = true := by simp [i1]
              have I1 := Lib.hid i1
              clear i1
              by_cases i2 : (diaL c f m u v).length = 1
              · have i2b : (((diaL c f m u v).length : Int) != 1) = false := by simp [i2]
                have HN : Hid (¬ OrtBad c f m u v) := fun z => z.2 i2
                clear i2
                go_wp2_with fail
                go_region_held3 (fun w' => Below wr.heap.size wr w' ∧ w'.cell? ⟨b, 0, none⟩ = some (.int .i64 c.n) ∧ w'.cell? ⟨b, 1, none⟩ = some (.slice (some ⟨bF, oF, none⟩) c.fr.length kF) ∧ w'.cell? ⟨b, 2, none⟩ = some (.slice (some ⟨bT, oT, none⟩) c.to.length kT) ∧ w'.cell? ⟨b, 3, none⟩ = some (.slice (some ⟨bI, oI, none⟩) c.id.length kI) ∧ w'.cell? ⟨b, 4, none⟩ = some (.slice (some ⟨bC, oC, none⟩) c.cm.length kC) ∧ w'.cell? ⟨bb, oo + k, none⟩ = some (.int .i64 u) ∧ w'.cell? ⟨bb2, oo2 + l, none⟩ = some (.int .i64 v))
                  (first | exact ⟨(Drawn.one (Drawn.refl _)).bel0, c0, c1, c2, c3, c4, cx, cy⟩ | (refine keep7 ?_ hb7; assumption) | (refine keep7 ?_ (bel_box _ _); assumption))
                  (first | (go_at_call 104; (with_reducible refine (c_l02Then (VI3.kept (And.left (by assumption))) SH.out hf hv).mono ?_); rintro e w' ⟨rfl, hb7⟩) | (go_at_call 104; (with_reducible refine (c_l02Then (VI3.kept (And.left (by assumption))) SH.out hu hm).mono ?_); rintro e w' ⟨rfl, hb7⟩) | (go_at_call 106; (with_reducible refine (c_l18Diagonals (VI3.kept (And.left (by assumption))) SH.out hf hm u v).mono ?_); rintro e wz ⟨ud, rfl, o6, hb7⟩; have hdl := o6.size; obtain ⟨ad, cd, rfl⟩ := o6.own.shape))
                all_goals
                  obtain ⟨hbq, -⟩ := ‹Below wr.heap.size wr wz ∧ _›
                  clear hb7 c0 c1 c2 c3 c4 cx cy o6
                  go_wp2_with fail
                  go_roundw
                  case rel => exact ⟨l + 1, by omega, by go_num, bel_next hb hbq, fun q h => by
                    by_cases e : q = l
                    · subst e; rw [HGE2.out]; exact HN.out
                    · exact hp2.out q (by omega)⟩
                  case measure => simp [intOf]; omega
              · have i2b : (((diaL c f m u v).length : Int) != 1) = true := by simp; omega
                have HG := Lib.hid (ortB_f HUM.out HVM.out ⟨I1.out, i2⟩)
                clear i2
                go_wp2_with fail
                go_region_held3 (fun w' => Below wr.heap.size wr w' ∧ w'.cell? ⟨b, 0, none⟩ = some (.int .i64 c.n) ∧ w'.cell? ⟨b, 1, none⟩ = some (.slice (some ⟨bF, oF, none⟩) c.fr.length kF) ∧ w'.cell? ⟨b, 2, none⟩ = some (.slice (some ⟨bT, oT, none⟩) c.to.length kT) ∧ w'.cell? ⟨b, 3, none⟩ = some (.slice (some ⟨bI, oI, none⟩) c.id.length kI) ∧ w'.cell? ⟨b, 4, none⟩ = some (.slice (some ⟨bC, oC, none⟩) c.cm.length kC) ∧ w'.cell? ⟨bb, oo + k, none⟩ = some (.int .i64 u) ∧ w'.cell? ⟨bb2, oo2 + l, none⟩ = some (.int .i64 v))
                  (first | exact ⟨(Drawn.one (Drawn.refl _)).bel0, c0, c1, c2, c3, c4, cx, cy⟩ | (refine keep7 ?_ hb7; assumption) | (refine keep7 ?_ (bel_box _ _); assumption))
                  (first | (go_at_call 104; (with_reducible refine (c_l02Then (VI3.kept (And.left (by assumption))) SH.out hf hv).mono ?_); rintro e w' ⟨rfl, hb7⟩) | (go_at_call 104; (with_reducible refine (c_l02Then (VI3.kept (And.left (by assumption))) SH.out hu hm).mono ?_); rintro e w' ⟨rfl, hb7⟩) | (go_at_call 106; (with_reducible refine (c_l18Diagonals (VI3.kept (And.left (by assumption))) SH.out hf hm u v).mono ?_); rintro e wz ⟨ud, rfl, o6, hb7⟩; have hdl := o6.size; obtain ⟨ad, cd, rfl⟩ := o6.own.shape))
                all_goals
                  obtain ⟨hbq, -⟩ := ‹Below wr.heap.size wr wz ∧ _›
                  clear hb7 c0 c1 c2 c3 c4 cx cy o6
                  go_wp2_with fail
                  go_ret
                  exact ⟨by rw [HG.out]; rfl, B.next (bel_next hbl (bel_next hb hbq))⟩
            · have i1b : (c.M f v == c.M u m) = false := by simp [i1]
              have HN : Hid (¬ OrtBad c f m u v) := fun z => i1 z.1
              clear i1
              go_wp2_with fail
              refine wp_region_qb (by kernel_rfl) (by kernel_rfl) ?_
              repeat (refine qw_step (fun K hK => ?_); first | (refine qb_no rfl ?_; (try simp only [Act.put, List.setIfInBounds_toArray, List.set_cons_zero, List.set_cons_succ]); refine hK _ ?_; clear hK K) | (refine qb_yes rfl ?_; apply Exists.intro; refine ⟨fun w' hC => ?_, ?_⟩; (· (have x0 := up_cell hC c0; have x1 := up_cell hC c1; have x2 := up_cell hC c2; have x3 := up_cell hC c3; have x4 := up_cell hC c4; have x5 := up_cell hC cx; have x6 := up_cell hC cy; (try go_simp); (first | done | (go_at_call 104; with_reducible exact calls_qb hC (c_l02Then (VI3.kept hC) SH.out hf hv)) | (go_at_call 104; with_reducible exact calls_qb hC (c_l02Then (VI3.kept hC) SH.out hu hm)) | with_reducible rfl | exact rfl))); (try simp only [Act.put, List.setIfInBounds_toArray, List.set_cons_zero, List.set_cons_succ]); refine hK _ ?_; clear hK K))
              refine qw_nil ?_
              intro wq hbq
              clear c0 c1 c2 c3 c4 cx cy
              go_wp2_with fail
              go_roundw
              case rel => exact ⟨l + 1, by omega, by go_num, bel_next hb hbq, fun q h => by
                by_cases e : q = l
                · subst e; rw [HGE2.out]; exact HN.out
                · exact hp2.out q (by omega)⟩
              case measure => simp [intOf]; omega
          · have HN : Hid (∀ v ∈ (homL c (c.T f) (c.T m)), ¬ OrtBad c f m u v) := all_gi fun q h => hp2.out q (by omega)
            have HB2 := Lib.hid hb
            have hlb : decide ((l : Int) < ((homL c (c.T f) (c.T m)).length : Int)) = false := by simp; omega
            clear hp2 hb
            go_wp2_with fail
            go_roundw
            case rel => exact ⟨k + 1, by omega, by go_num, HB2.out, fun q h => by
              by_cases e : q = k
              · subst e; rw [HGE.out]; exact HN.out
              · exact hp.out q (by omega)⟩
            case measure => simp [intOf]; omega
      · have HG : Hid (ortB c f m = true) := ortB_t (all_gi fun q h => hp.out q (by omega))
        have hkb : decide ((k : Int) < ((homL c (c.F f) (c.F m)).length : Int)) = false := by simp; omega
        clear hp
        go_wp2_with fail
        go_ret
        exact ⟨by rw [HG.out]; rfl, B.next (bel_next hbl hb)⟩
theorem s_IsOrthogonal {w : World} {v : Value} {c : Cat} (h : IC w v c) (f : Int) (hf : I64 f) (g : Int) (hg : I64 g) : Calls Try.prog 41 #[v, .int .i64 f, .int .i64 g] w (Ret w (.tuple #[.bool (orthR c f g).1, .int .i64 (orthR c f g).2])) := by
  obtain ⟨aF, aT, aI, aC, bF, oF, kF, bT, oT, kT, bI, oI, kI, bC, oC, kC, bR, oR, kR, rfl, V⟩ := h.boxed 29
  have B : Bel w (w.alloc (.cells #[.int .i64 c.n, .slice aF c.fr.length kF, .slice aT c.to.length kT, .slice aI c.id.length kI, .slice aC c.cm.length kC] 29)) := bel_box w _
  have ZB := Lib.hid (show (w.alloc (.cells #[.int .i64 c.n, .slice aF c.fr.length kF, .slice aT c.to.length kT, .slice aI c.id.length kI, .slice aC c.cm.length kC] 29)).heap.size = w.heap.size + 1 from by simp)
  clear h
  go_enter Try.func41, Try.ntmps41
  go_wp2_with fail
  generalize w.alloc (.cells #[.int .i64 c.n, .slice aF c.fr.length kF, .slice aT c.to.length kT, .slice aI c.id.length kI, .slice aC c.cm.length kC] 29) = w1 at *
  generalize w.heap.size = b at *
  have c0 := V.c0
  have c1 := V.c1
  have c2 := V.c2
  have c3 := V.c3
  have c4 := V.c4
  clear c0 c1 c2 c3 c4
  refine (c_l02Arrows (V.ic.kept (bel_box _ _)) (IS.lit2v' hf hg _ ZB.out)).mono ?_
  rintro e w2 ⟨rfl, b2⟩
  replace b2 := bel_next (bel_box w1 _) b2
  by_cases hc : codeA c [f, g] = 0
  · obtain ⟨C, fA, gA⟩ := codeA_two hc
    have S := C.s
    have hcb : (codeA c [f, g] != 0) = false := by simp [hc]
    have HC := Lib.hid hc
    clear hc hf hg C
    have V2 := V.kept b2
    have c0 := V2.c0
    have c1 := V2.c1
    have c2 := V2.c2
    have c3 := V2.c3
    have c4 := V2.c4
    go_wp2_with fail
    refine (c_l18Orthogonal V2.ic S fA gA).mono ?_
    rintro e w4 ⟨rfl, b4⟩
    clear c0 c1 c2 c3 c4 S
    go_wp2_with fail
    go_ret2
    exact ⟨ret_bi (by rw [orthR, if_pos HC.out]), B.next (bel_next b2 b4)⟩
  · have hcb : (codeA c [f, g] != 0) = true := by simp [hc]
    have HC := Lib.hid hc
    clear hc
    go_wp2_with fail
    go_ret2
    exact ⟨ret_bi (by rw [orthR, if_neg HC.out]), B.next b2⟩
end Go.Proofs.Ytkmkbmhpdnddnaa
