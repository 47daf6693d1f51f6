/-
  Chapter 18: IsOrthogonal: program and reference.
-/
import Derived.Test.YtkmkbmhpdnddnaaCat12
namespace Go.Proofs.Ytkmkbmhpdnddnaa
open Go.RowKit

def OrtBad (c : Cat) (e m u v : Int) : Prop := c.M e v = c.M u m ∧ (diaL c e m u v).length ≠ 1
def OrtP (c : Cat) (e m : Int) : Prop := ∀ u ∈ homL c (c.F e) (c.F m), ∀ v ∈ homL c (c.T e) (c.T m), ¬ OrtBad c e m u v
noncomputable def ortB (c : Cat) (e m : Int) : Bool := @decide (OrtP c e m) (Classical.propDecidable _)
theorem ortB_t {c : Cat} {e m : Int} (h : OrtP c e m) : ortB c e m = true := @decide_eq_true _ (Classical.propDecidable _) h
theorem ortB_f {c : Cat} {e m u v : Int} (hu : u ∈ homL c (c.F e) (c.F m)) (hv : v ∈ homL c (c.T e) (c.T m)) (hb : OrtBad c e m u v) : ortB c e m = false :=
  @decide_eq_false _ (Classical.propDecidable _) fun q => q u hu v hv hb
noncomputable def orthR (c : Cat) (e m : Int) : Bool × Int := if codeA c [e, m] = 0 then (ortB c e m, 0) else (false, codeA c [e, m])
set_option maxHeartbeats 1600000 in
theorem c_isOrthogonal {w1 : World} {b : Nat} {c : Cat} (P : PC w1 b c) (S : Shape c) {f m : Int} (hf : c.Arr f) (hm : c.Arr m) : Calls Try.prog 78 #[.pointer (some ⟨b, 0, none⟩), .int .i64 f, .int .i64 m] w1 (Ret w1 (.bool (ortB c f m))) := by
  obtain ⟨aF, aT, aI, aC, bF, oF, kF, bT, oT, kT, bI, oI, kI, bC, oC, kC, bR, oR, kR, V⟩ := P.opens
  obtain ⟨rfl, rfl, rfl, rfl⟩ := V.som S (by have := hf.1; have := hf.2; unfold Cat.m at this; omega)
  have f0 := hf.1
  have m0 := hm.1
  have f1 : f < (c.fr.length : Int) := hf.2
  have m1 : m < (c.fr.length : Int) := hm.2
  have f2 : f < (c.to.length : Int) := by rw [S.tl]; exact hf.2
  have m2 : m < (c.to.length : Int) := by rw [S.tl]; exact hm.2
  have SH := Lib.hid S
  clear S P
  go_enter Try.func78, Try.ntmps78
  go_wp2_with fail
  have c1 := V.c1
  have cFf := V.cF hf
  have cFm := V.cF hm
  go_region_held3 (fun w' => Below w1.heap.size w1 w' ∧ w'.cell? ⟨b, 1, none⟩ = some (.slice (some ⟨bF, oF, none⟩) c.fr.length kF) ∧ w'.cell? ⟨bF, oF + f.toNat, none⟩ = some (.int .i64 (c.F f)) ∧ w'.cell? ⟨bF, oF + m.toNat, none⟩ = some (.int .i64 (c.F m)))
    (first | exact ⟨(Drawn.one (Drawn.refl _)).bel0, c1, cFf, cFm⟩ | (refine keep3 ?_ hb7; assumption) | (refine keep3 ?_ (bel_box _ _); assumption))
    (first | (go_at_call 86; (with_reducible refine (c_hom (V.kept (And.left (by assumption))).pc SH.out.tl _ _).mono ?_); rintro e wa ⟨u2, rfl, o2, hb7⟩; obtain ⟨ao, cc, rfl⟩ := o2.own.shape))
  obtain ⟨hbl, -⟩ := ‹Below w1.heap.size w1 wa ∧ _›
  obtain ⟨ao', bb, oo, cc', hv, ha, hc⟩ := o2.is.ex
  simp only [Value.slice.injEq] at hv
  obtain ⟨rfl, -, rfl⟩ := hv
  have hLl := o2.size
  have hL := homL_le c (c.F f) (c.F m)
  clear o2 hb7 c1 cFf cFm
  go_wp2_with fail
  go_loopw [8, 10, 28] (fun _ _ i wr => ∃ k : Nat, k ≤ (homL c (c.F f) (c.F m)).length ∧ i = .int .i64 k ∧ Below wa.heap.size wa wr ∧ Hid (∀ q, q < k → (∀ v ∈ homL c (c.T f) (c.T m), ¬ OrtBad c f m (gi (homL c (c.F f) (c.F m)) q) v))) (fun _ _ i _ => (homL c (c.F f) (c.F m)).length - (intOf i).toNat)
  case atStart => exact ⟨0, Nat.zero_le _, rfl, Below.refl _ _, fun q h => by omega⟩
  case round =>
    obtain ⟨k, hk, rfl, hb, hp⟩ := hrel
    by_cases hlt : k < (homL c (c.F f) (c.F m)).length
    · obtain rfl := ha (by omega)
      have cx := up_cell hb (hc k hlt)
      have hum := gi_mem hlt
      have hu := (homL_mem hum).1
      have HUM := Lib.hid hum
      clear hum
      generalize hge : gi (homL c (c.F f) (c.F m)) k = u at *
      have HGE := Lib.hid hge
      clear hge
      have B2 := bel_next hbl hb
      have V2 := V.kept B2
      have c2 := V2.c2
      have cTf := V2.cT SH.out hf
      have cTm := V2.cT SH.out hm
      go_wp2_with fail
      clear cx
      go_region_held3 (fun w' => Below wr.heap.size wr w' ∧ w'.cell? ⟨b, 2, none⟩ = some (.slice (some ⟨bT, oT, none⟩) c.to.length kT) ∧ w'.cell? ⟨bT, oT + f.toNat, none⟩ = some (.int .i64 (c.T f)) ∧ w'.cell? ⟨bT, oT + m.toNat, none⟩ = some (.int .i64 (c.T m)))
        (first | exact ⟨(Drawn.one (Drawn.refl _)).bel0, c2, cTf, cTm⟩ | (refine keep3 ?_ hb7; assumption) | (refine keep3 ?_ (bel_box _ _); assumption))
        (first | (go_at_call 86; (with_reducible refine (c_hom (V2.kept (And.left (by assumption))).pc SH.out.tl _ _).mono ?_); rintro e wb ⟨u3, rfl, o3, hb7⟩; obtain ⟨ao3, cc3, rfl⟩ := o3.own.shape))
      obtain ⟨hbl2, -⟩ := ‹Below wr.heap.size wr wb ∧ _›
      obtain ⟨ao', bb2, oo2, cc', hv, ha2, hc2⟩ := o3.is.ex
      simp only [Value.slice.injEq] at hv
      obtain ⟨rfl, -, rfl⟩ := hv
      have hLl2 := o3.size
      have hL2 := homL_le c (c.T f) (c.T m)
      clear o3 hb7 c2 cTf cTm
      go_wp2_with fail
      go_loopw [10, 49] (fun _ i wr => ∃ k : Nat, k ≤ (homL c (c.T f) (c.T m)).length ∧ i = .int .i64 k ∧ Below wb.heap.size wb wr ∧ Hid (∀ q, q < k → ¬ OrtBad c f m u (gi (homL c (c.T f) (c.T m)) q))) (fun _ i _ => (homL c (c.T f) (c.T m)).length - (intOf i).toNat)
      case atStart => exact ⟨0, Nat.zero_le _, rfl, Below.refl _ _, fun q h => by omega⟩
      case round =>
        obtain ⟨l, hl, rfl, hb3, hp2⟩ := hrel
        by_cases hll : l < (homL c (c.T f) (c.T m)).length
        · obtain rfl := ha2 (by omega)
          have cy := up_cell hb3 (hc2 l hll)
          have hvm := gi_mem hll
          have hv := (homL_mem hvm).1
          have HVM := Lib.hid hvm
          clear hvm
          generalize hge : gi (homL c (c.T f) (c.T m)) l = v at *
          have HGE2 := Lib.hid hge
          clear hge
          have B3 := bel_next hbl2 hb3
          have V3 := V2.kept B3
          by_cases i1 : c.M f v = c.M u m
          · have i1b : (c.M f v == c.M u m) = true := by simp [i1]
            have I1 := Lib.hid i1
            clear i1
            by_cases i2 : (diaL c f m u v).length = 1
            · have i2b : (((diaL c f m u v).length : Int) != 1) = false := by simp [i2]
              have HN : Hid (¬ OrtBad c f m u v) := fun z => z.2 i2
              clear i2
              go_wp2_with fail
              refine (c_then V3.pc SH.out hf hv).mono ?_
              rintro e w4 ⟨rfl, d4⟩
              go_wp2_with fail
              refine (c_then (V3.drawn d4).pc SH.out hu hm).mono ?_
              rintro e w5 ⟨rfl, d5⟩
              have dd := drawn_trans d4 d5
              clear cy
              go_wp2_with fail
              refine (c_diagonals (V3.drawn dd).pc SH.out hf hm u v).mono ?_
              rintro e w6 ⟨ud, rfl, o6, b6⟩
              obtain ⟨ad, cd, rfl⟩ := o6.own.shape
              have hdl := diaL_le c f m u v
              have BZ := bel_next dd.bel0 b6
              clear o6 b6 d4 d5 dd
              go_wp2_with fail
              go_roundw
              case rel => exact ⟨l + 1, by omega, by go_num, bel_next hb3 BZ, fun q h => by
                by_cases e : q = l
                · subst e; rw [HGE2.out]; exact HN.out
                · exact hp2.out q (by omega)⟩
              case measure => simp [intOf]; omega
            · have i2b : (((diaL c f m u v).length : Int) != 1) = true := by simp; omega
              have HG := Lib.hid (ortB_f HUM.out HVM.out ⟨I1.out, i2⟩)
              clear i2
              go_wp2_with fail
              refine (c_then V3.pc SH.out hf hv).mono ?_
              rintro e w4 ⟨rfl, d4⟩
              go_wp2_with fail
              refine (c_then (V3.drawn d4).pc SH.out hu hm).mono ?_
              rintro e w5 ⟨rfl, d5⟩
              have dd := drawn_trans d4 d5
              clear cy
              go_wp2_with fail
              refine (c_diagonals (V3.drawn dd).pc SH.out hf hm u v).mono ?_
              rintro e w6 ⟨ud, rfl, o6, b6⟩
              obtain ⟨ad, cd, rfl⟩ := o6.own.shape
              have hdl := diaL_le c f m u v
              have BZ := bel_next dd.bel0 b6
              clear o6 b6 d4 d5 dd
              go_wp2_with fail
              go_ret
              exact ⟨by rw [HG.out]; rfl, bel_next B2 (bel_next B3 BZ)⟩
          · have i1b : (c.M f v == c.M u m) = false := by simp [i1]
            have HN : Hid (¬ OrtBad c f m u v) := fun z => i1 z.1
            clear i1
            go_wp2_with fail
            refine (c_then V3.pc SH.out hf hv).mono ?_
            rintro e w4 ⟨rfl, d4⟩
            go_wp2_with fail
            refine (c_then (V3.drawn d4).pc SH.out hu hm).mono ?_
            rintro e w5 ⟨rfl, d5⟩
            have dd := drawn_trans d4 d5
            clear cy
            have BZ := dd.bel0
            clear d4 d5 dd
            go_wp2_with fail
            go_roundw
            case rel => exact ⟨l + 1, by omega, by go_num, bel_next hb3 BZ, fun q h => by
              by_cases e : q = l
              · subst e; rw [HGE2.out]; exact HN.out
              · exact hp2.out q (by omega)⟩
            case measure => simp [intOf]; omega
        · have HN : Hid (∀ v ∈ homL c (c.T f) (c.T m), ¬ OrtBad c f m u v) := all_gi fun q h => hp2.out q (by omega)
          have hlb : decide ((l : Int) < ((homL c (c.T f) (c.T m)).length : Int)) = false := by simp; omega
          clear hp2
          go_wp2_with fail
          go_roundw
          case rel => exact ⟨k + 1, by omega, by go_num, bel_next hb (bel_next hbl2 hb3), fun q h => by
            by_cases e : q = k
            · subst e; rw [HGE.out]; exact HN.out
            · exact hp.out q (by omega)⟩
          case measure => simp [intOf]; omega
    · have HG : Hid (ortB c f m = true) := ortB_t (all_gi fun q h => hp.out q (by omega))
      have hkb : decide ((k : Int) < ((homL c (c.F f) (c.F m)).length : Int)) = false := by simp; omega
      clear hp
      go_wp2_with fail
      go_ret
      exact ⟨by rw [HG.out]; rfl, bel_next hbl hb⟩
theorem i_IsOrthogonal {w : World} {v : Value} {c : Cat} (h : IC w v c) (f : Int) (hf : I64 f) (g : Int) (hg : I64 g) : Calls Try.prog 42 #[v, .int .i64 f, .int .i64 g] w (Ret w (.tuple #[.bool (orthR c f g).1, .int .i64 (orthR c f g).2])) := by
  obtain ⟨aF, aT, aI, aC, bF, oF, kF, bT, oT, kT, bI, oI, kI, bC, oC, kC, bR, oR, kR, rfl, V⟩ := h.boxed 29
  have B : Bel w (w.alloc (.cells #[.int .i64 c.n, .slice aF c.fr.length kF, .slice aT c.to.length kT, .slice aI c.id.length kI, .slice aC c.cm.length kC] 29)) := bel_box w _
  have ZB := Lib.hid (show (w.alloc (.cells #[.int .i64 c.n, .slice aF c.fr.length kF, .slice aT c.to.length kT, .slice aI c.id.length kI, .slice aC c.cm.length kC] 29)).heap.size = w.heap.size + 1 from by simp)
  clear h
  go_enter Try.func42, Try.ntmps42
  go_wp2_with fail
  generalize w.alloc (.cells #[.int .i64 c.n, .slice aF c.fr.length kF, .slice aT c.to.length kT, .slice aI c.id.length kI, .slice aC c.cm.length kC] 29) = w1 at *
  generalize w.heap.size = b at *
  have c0 := V.c0
  have c1 := V.c1
  have c2 := V.c2
  have c3 := V.c3
  have c4 := V.c4
  clear c0 c1 c2 c3 c4
  refine (c_arrowCode (V.pc.kept (bel_box _ _)) (IS.lit2v' hf hg _ ZB.out)).mono ?_
  rintro e w2 ⟨rfl, b2⟩
  replace b2 := bel_next (bel_box w1 _) b2
  by_cases hc : codeA c [f, g] = 0
  · obtain ⟨C, fA, gA⟩ := codeA_two hc
    have S := C.s
    have hcb : (codeA c [f, g] != 0) = false := by simp [hc]
    have HC := Lib.hid hc
    clear hc hf hg C
    go_wp2_with fail
    refine (c_isOrthogonal (V.kept b2).pc S fA gA).mono ?_
    rintro e w3 ⟨rfl, b3⟩
    clear S
    go_wp2_with fail
    go_ret2
    exact ⟨ret_bi (by rw [orthR, if_pos HC.out]), B.next (bel_next b2 b3)⟩
  · have hcb : (codeA c [f, g] != 0) = true := by simp [hc]
    have HC := Lib.hid hc
    clear hc
    go_wp2_with fail
    go_ret2
    exact ⟨ret_bi (by rw [orthR, if_neg HC.out]), B.next b2⟩
end Go.Proofs.Ytkmkbmhpdnddnaa
