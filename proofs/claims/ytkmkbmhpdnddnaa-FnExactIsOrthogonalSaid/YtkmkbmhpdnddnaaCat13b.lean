/-
  Chapter 18: IsOrthogonal: the reference.
-/
import Derived.Test.YtkmkbmhpdnddnaaCat13
namespace Go.Proofs.Ytkmkbmhpdnddnaa
open Go.RowKit
theorem bel_box_drew (w : World) (o : Obj) : Below w.drew.heap.size w.drew (w.alloc o).drew := by
  exact bel_box w.drew o
set_option maxHeartbeats 3200000 in
theorem c_l18Diagonals {w : World} {v : Value} {c : Cat} (h : IC w v c) (S : Shape c) {f m : Int} (hf : c.Arr f) (hm : c.Arr m) (u z : Int) : Calls Try.prog 106 #[v, .int .i64 f, .int .i64 m, .int .i64 u, .int .i64 z] w (Mk w fun w' r => OwnT 2 w.heap.size w'.heap.size w' r (diaL c f m u z)) := by
  have m40 := S.m40
  unfold Cat.m at m40
  have hL := homL_le c (c.T f) (c.F m)
  have SH := Lib.hid S
  clear S
  obtain ⟨aF, aT, aI, aC, bF, oF, kF, bT, oT, kT, bI, oI, kI, bC, oC, kC, bR, oR, kR, rfl, V⟩ := h.boxed 29
  have B : Bel w (w.alloc (.cells #[.int .i64 c.n, .slice aF c.fr.length kF, .slice aT c.to.length kT, .slice aI c.id.length kI, .slice aC c.cm.length kC] 29)) := bel_box w _
  have ZB := Lib.hid (show (w.alloc (.cells #[.int .i64 c.n, .slice aF c.fr.length kF, .slice aT c.to.length kT, .slice aI c.id.length kI, .slice aC c.cm.length kC] 29)).heap.size = w.heap.size + 1 from by simp)
  clear h
  go_enter Try.func106, Try.ntmps106
  go_wp2_with fail
  generalize w.alloc (.cells #[.int .i64 c.n, .slice aF c.fr.length kF, .slice aT c.to.length kT, .slice aI c.id.length kI, .slice aC c.cm.length kC] 29) = w1 at *
  generalize w.heap.size = b at *
  have c0 := V.c0
  have c1 := V.c1
  have c2 := V.c2
  have c3 := V.c3
  have c4 := V.c4
  clear c0 c1 c2 c3 c4
  obtain ⟨rfl, rfl, rfl, rfl⟩ := V.som SH.out (by have := hf.1; have := hf.2; unfold Cat.m at this; omega)
  have f0 := hf.1
  have m0 := hm.1
  have m1 : m < (c.fr.length : Int) := hm.2
  have f2 : f < (c.to.length : Int) := by rw [SH.out.tl]; exact hf.2
  have HB : Hid (w.heap.size ≤ w1.heap.size) := B.size
  have c0 := V.c0
  have c1 := V.c1
  have c2 := V.c2
  have c3 := V.c3
  have c4 := V.c4
  have cTf := V.cT SH.out hf
  have cFm := V.cF hm
  have VI := V.ic
  try go_wp2_with fail
  go_region_held3 (fun w' => Below w1.heap.size w1 w' ∧ w'.cell? ⟨b, 0, none⟩ = some (.int .i64 c.n) ∧ w'.cell? ⟨b, 1, none⟩ = some (.slice (some ⟨bF, oF, none⟩) c.fr.length kF) ∧ w'.cell? ⟨b, 2, none⟩ = some (.slice (some ⟨bT, oT, none⟩) c.to.length kT) ∧ w'.cell? ⟨b, 3, none⟩ = some (.slice (some ⟨bI, oI, none⟩) c.id.length kI) ∧ w'.cell? ⟨b, 4, none⟩ = some (.slice (some ⟨bC, oC, none⟩) c.cm.length kC) ∧ w'.cell? ⟨bT, oT + f.toNat, none⟩ = some (.int .i64 (c.T f)) ∧ w'.cell? ⟨bF, oF + m.toNat, none⟩ = some (.int .i64 (c.F m)))
    (first | exact ⟨(Drawn.one (Drawn.refl _)).bel0, c0, c1, c2, c3, c4, cTf, cFm⟩ | (refine keep7 ?_ hb7; assumption) | (refine keep7 ?_ (bel_box _ _); assumption) | (refine keep7 ?_ (bel_box_drew _ _); assumption))
    (first | (go_at_call 82; (with_reducible refine (c_l02Hom (VI.kept (And.left (by assumption))) SH.out.tl _ _).mono ?_); rintro e wq ⟨u2, rfl, o2, hb7⟩; obtain ⟨ao, cc, rfl⟩ := o2.own.shape))
  · have hsz : w1.heap.size ≤ wq.heap.size := by have := hb7.size; simpa using this
    have hsb : w1.heap.size ≤ w1.drew.heap.size := by simp
    obtain ⟨hbl, -⟩ := ‹Below w1.heap.size w1 (wq.alloc _) ∧ _›
    have ho := Own.empty 2 wq w1.heap.size hsz
    have hoL := (o2.own.base hsb).kept (bel_box wq (.cells #[] 2))
    have hdj0 : Dj (.slice ao (homL c (c.T f) (c.F m)).length cc) (.slice (some ⟨wq.heap.size, 0, none⟩) 0 0) := Dj.of_lt (N := wq.heap.size) (fun k hk => (o2.own.lt k hk).2) (fun k hk => by simp [Value.ownBlock] at hk; omega)
    clear o2 hsz hsb
    generalize wq.alloc (.cells #[] 2) = wz at *
    generalize wq.heap.size = nz at *
    clear hb7 c0 c1 c2 c3 c4 cTf cFm
    go_wp2_with fail
    go_loopw [12, 13] (fun out i wr => ∃ (k : Nat) (os : List Int), k ≤ (homL c (c.T f) (c.F m)).length ∧ i = .int .i64 k ∧ Below w1.heap.size w1 wr ∧ Own 2 wr w1.heap.size out os ∧ os.length ≤ k ∧ Own 2 wr w1.heap.size (.slice ao (homL c (c.T f) (c.F m)).length cc) (homL c (c.T f) (c.F m)) ∧ Dj (.slice ao (homL c (c.T f) (c.F m)).length cc) out ∧ Hid (os = ((homL c (c.T f) (c.F m)).take k).filter (diaP c f m u z))) (fun _ i _ => (homL c (c.T f) (c.F m)).length - (intOf i).toNat)
    case atStart => exact ⟨0, [], Nat.zero_le _, rfl, hbl, ho, Nat.le_refl _, hoL, hdj0, rfl⟩
    case round =>
      obtain ⟨k, os, hk, rfl, hb, ho, hol, hoL, hdj, hp⟩ := hrel
      by_cases hlt : k < (homL c (c.T f) (c.F m)).length
      · have hw0 := hb.size
        obtain ⟨ao', bb', oo', cc', hv, ha, hc⟩ := hoL.is.ex
        simp only [Value.slice.injEq] at hv
        obtain ⟨rfl, -, rfl⟩ := hv
        obtain rfl := ha (by omega)
        have cx := hc k hlt
        clear hc
        obtain ⟨hd, -, -⟩ := homL_mem (gi_mem hlt)
        have hgi := gi_I64 (xs := (homL c (c.T f) (c.F m))) (fun x hx => by have := (homL_mem hx).1.1; have := (homL_mem hx).1.2; unfold Cat.m at this; constructor <;> omega) k
        have HY := Lib.hid (fun h => filter_yes (p := diaP c f m u z) hlt h)
        have HN := Lib.hid (fun h => filter_no (p := diaP c f m u z) hlt h)
        have V2 := V.kept hb
        have c0 := V2.c0
        have c1 := V2.c1
        have c2 := V2.c2
        have c3 := V2.c3
        have c4 := V2.c4
        have VI2 := V2.ic
        clear V2
        obtain ⟨d, hge⟩ : ∃ d, d = gi (homL c (c.T f) (c.F m)) k := ⟨_, rfl⟩
        rw [← hge] at cx hd hgi HY HN
        clear hge
        by_cases i1 : c.M f d = u
        · have i1b : (c.M f d == u) = true := by simp [i1]
          by_cases i2 : c.M d m = z
          · have i2b : (c.M d m == z) = true := by simp [i2]
            have HE : Hid (diaP c f m u z d = true) := by unfold Hid diaP; rw [i1b, i2b]; rfl
            clear i1 i2
            go_wp2_with fail
            refine wp_region_qb (by kernel_rfl) (by kernel_rfl) ?_
            repeat (refine qw_step (fun K hK => ?_); first | (refine qb_no rfl ?_; (try simp only [Act.put, List.setIfInBounds_toArray, List.set_cons_zero, List.set_cons_succ]); refine hK _ ?_; clear hK K) | (refine qb_yes rfl ?_; apply Exists.intro; refine ⟨fun w' hC => ?_, ?_⟩; (· (have x0 := up_cell hC c0; have x1 := up_cell hC c1; have x2 := up_cell hC c2; have x3 := up_cell hC c3; have x4 := up_cell hC c4; have x5 := up_cell hC cx; (try go_simp); (first | done | (go_at_call 104; with_reducible exact calls_qb hC (c_l02Then (VI2.kept hC) SH.out hf hd)) | (go_at_call 104; with_reducible exact calls_qb hC (c_l02Then (VI2.kept hC) SH.out hd hm)) | with_reducible rfl | exact rfl))); (try simp only [Act.put, List.setIfInBounds_toArray, List.set_cons_zero, List.set_cons_succ]); refine hK _ ?_; clear hK K))
            refine qw_nil ?_
            intro wq hbq
            have cx2 := up_cell hbq cx
            have hox := ho.kept hbq
            have hbx := bel_next hb hbq
            have hoLx := hoL.kept hbq
            have hwx := hbx.size
            clear cx c0 c1 c2 c3 c4 ho hb hoL
            go_wp2_with (at_builtin; refine hold ?_)
            refine app1 hox hgi (by omega) (by first | omega | (simp; omega)) Try.underlying22 infoInt64 (by rfl) _ _ (by rfl) (by rfl) (by rfl) ?_
            intro v' wz2 ho2 g2
            have hb2 := g2.below hbx (by first | omega | (simp; omega)) (fun k hk => (hox.lt k hk).1)
            have hoL2 := Own.grew hoLx g2 hdj
            have hdj2 := hdj.grew g2 (fun k hk => (hoLx.lt k hk).2)
            clear g2 hox hbx hoLx hdj cx2
            go_wp2_with fail
            go_roundw
            case rel => exact ⟨k + 1, _, by omega, by go_num, hb2, ho2, by simp; omega, hoL2, hdj2, by unfold Hid; rw [HY.out HE.out, ← hp.out]⟩
            case measure => simp [intOf]; omega
          · have i2b : (c.M d m == z) = false := by simp [i2]
            have HE : Hid (diaP c f m u z d = false) := by unfold Hid diaP; rw [i1b, i2b]; rfl
            clear i1 i2
            go_wp2_with fail
            refine wp_region_qb (by kernel_rfl) (by kernel_rfl) ?_
            repeat (refine qw_step (fun K hK => ?_); first | (refine qb_no rfl ?_; (try simp only [Act.put, List.setIfInBounds_toArray, List.set_cons_zero, List.set_cons_succ]); refine hK _ ?_; clear hK K) | (refine qb_yes rfl ?_; apply Exists.intro; refine ⟨fun w' hC => ?_, ?_⟩; (· (have x0 := up_cell hC c0; have x1 := up_cell hC c1; have x2 := up_cell hC c2; have x3 := up_cell hC c3; have x4 := up_cell hC c4; have x5 := up_cell hC cx; (try go_simp); (first | done | (go_at_call 104; with_reducible exact calls_qb hC (c_l02Then (VI2.kept hC) SH.out hf hd)) | (go_at_call 104; with_reducible exact calls_qb hC (c_l02Then (VI2.kept hC) SH.out hd hm)) | with_reducible rfl | exact rfl))); (try simp only [Act.put, List.setIfInBounds_toArray, List.set_cons_zero, List.set_cons_succ]); refine hK _ ?_; clear hK K))
            refine qw_nil ?_
            intro wq hbq
            clear cx c0 c1 c2 c3 c4
            go_wp2_with fail
            go_roundw
            case rel => exact ⟨k + 1, _, by omega, by go_num, bel_next hb hbq, ho.kept hbq, by omega, hoL.kept hbq, hdj, by unfold Hid; rw [HN.out HE.out, ← hp.out]⟩
            case measure => simp [intOf]; omega
        · have i1b : (c.M f d == u) = false := by simp [i1]
          have HE : Hid (diaP c f m u z d = false) := by unfold Hid diaP; rw [i1b]; rfl
          clear i1
          go_wp2_with fail
          refine wp_region_qb (by kernel_rfl) (by kernel_rfl) ?_
          repeat (refine qw_step (fun K hK => ?_); first | (refine qb_no rfl ?_; (try simp only [Act.put, List.setIfInBounds_toArray, List.set_cons_zero, List.set_cons_succ]); refine hK _ ?_; clear hK K) | (refine qb_yes rfl ?_; apply Exists.intro; refine ⟨fun w' hC => ?_, ?_⟩; (· (have x0 := up_cell hC c0; have x1 := up_cell hC c1; have x2 := up_cell hC c2; have x3 := up_cell hC c3; have x4 := up_cell hC c4; have x5 := up_cell hC cx; (try go_simp); (first | done | (go_at_call 104; with_reducible exact calls_qb hC (c_l02Then (VI2.kept hC) SH.out hf hd)) | (go_at_call 104; with_reducible exact calls_qb hC (c_l02Then (VI2.kept hC) SH.out hd hm)) | with_reducible rfl | exact rfl))); (try simp only [Act.put, List.setIfInBounds_toArray, List.set_cons_zero, List.set_cons_succ]); refine hK _ ?_; clear hK K))
          refine qw_nil ?_
          intro wq hbq
          clear cx c0 c1 c2 c3 c4
          go_wp2_with fail
          go_roundw
          case rel => exact ⟨k + 1, _, by omega, by go_num, bel_next hb hbq, ho.kept hbq, by omega, hoL.kept hbq, hdj, by unfold Hid; rw [HN.out HE.out, ← hp.out]⟩
          case measure => simp [intOf]; omega
      · have hke : (homL c (c.T f) (c.F m)).length = k := by omega
        have HE : Hid (os = diaL c f m u z) := by unfold Hid diaL; rw [hp.out, List.take_of_length_le (by omega)]
        have hkb : decide ((k : Int) < ((homL c (c.T f) (c.F m)).length : Int)) = false := by simp; omega
        go_wp2_with fail
        go_ret
        refine ⟨_, rfl, ?_, B.next hb⟩
        rw [← HE.out]
        exact (ho.base HB.out).top
  · obtain ⟨hbl, -⟩ := ‹Below w1.heap.size w1 wq ∧ _›
    have hsb : w1.heap.size ≤ (w1.alloc (.cells #[] 2)).drew.heap.size := by simp
    have ho := (Own.empty 2 w1 w1.heap.size (Nat.le_refl _)).kept (bel_next (Drawn.one (Drawn.refl _)).bel0 hb7)
    have hoL := o2.own.base hsb
    have hdj0 : Dj (.slice ao (homL c (c.T f) (c.F m)).length cc) (.slice (some ⟨w1.heap.size, 0, none⟩) 0 0) := (Dj.of_lt (N := w1.heap.size + 1) (fun k hk => by simp [Value.ownBlock] at hk; omega) (fun k hk => by have := (o2.own.lt k hk).1; simpa using this)).symm
    clear o2 hsb
    clear hb7 c0 c1 c2 c3 c4 cTf cFm
    go_wp2_with fail
    go_loopw [12, 13] (fun out i wr => ∃ (k : Nat) (os : List Int), k ≤ (homL c (c.T f) (c.F m)).length ∧ i = .int .i64 k ∧ Below w1.heap.size w1 wr ∧ Own 2 wr w1.heap.size out os ∧ os.length ≤ k ∧ Own 2 wr w1.heap.size (.slice ao (homL c (c.T f) (c.F m)).length cc) (homL c (c.T f) (c.F m)) ∧ Dj (.slice ao (homL c (c.T f) (c.F m)).length cc) out ∧ Hid (os = ((homL c (c.T f) (c.F m)).take k).filter (diaP c f m u z))) (fun _ i _ => (homL c (c.T f) (c.F m)).length - (intOf i).toNat)
    case atStart => exact ⟨0, [], Nat.zero_le _, rfl, hbl, ho, Nat.le_refl _, hoL, hdj0, rfl⟩
    case round =>
      obtain ⟨k, os, hk, rfl, hb, ho, hol, hoL, hdj, hp⟩ := hrel
      by_cases hlt : k < (homL c (c.T f) (c.F m)).length
      · have hw0 := hb.size
        obtain ⟨ao', bb', oo', cc', hv, ha, hc⟩ := hoL.is.ex
        simp only [Value.slice.injEq] at hv
        obtain ⟨rfl, -, rfl⟩ := hv
        obtain rfl := ha (by omega)
        have cx := hc k hlt
        clear hc
        obtain ⟨hd, -, -⟩ := homL_mem (gi_mem hlt)
        have hgi := gi_I64 (xs := (homL c (c.T f) (c.F m))) (fun x hx => by have := (homL_mem hx).1.1; have := (homL_mem hx).1.2; unfold Cat.m at this; constructor <;> omega) k
        have HY := Lib.hid (fun h => filter_yes (p := diaP c f m u z) hlt h)
        have HN := Lib.hid (fun h => filter_no (p := diaP c f m u z) hlt h)
        have V2 := V.kept hb
        have c0 := V2.c0
        have c1 := V2.c1
        have c2 := V2.c2
        have c3 := V2.c3
        have c4 := V2.c4
        have VI2 := V2.ic
        clear V2
        obtain ⟨d, hge⟩ : ∃ d, d = gi (homL c (c.T f) (c.F m)) k := ⟨_, rfl⟩
        rw [← hge] at cx hd hgi HY HN
        clear hge
        by_cases i1 : c.M f d = u
        · have i1b : (c.M f d == u) = true := by simp [i1]
          by_cases i2 : c.M d m = z
          · have i2b : (c.M d m == z) = true := by simp [i2]
            have HE : Hid (diaP c f m u z d = true) := by unfold Hid diaP; rw [i1b, i2b]; rfl
            clear i1 i2
            go_wp2_with fail
            refine wp_region_qb (by kernel_rfl) (by kernel_rfl) ?_
            repeat (refine qw_step (fun K hK => ?_); first | (refine qb_no rfl ?_; (try simp only [Act.put, List.setIfInBounds_toArray, List.set_cons_zero, List.set_cons_succ]); refine hK _ ?_; clear hK K) | (refine qb_yes rfl ?_; apply Exists.intro; refine ⟨fun w' hC => ?_, ?_⟩; (· (have x0 := up_cell hC c0; have x1 := up_cell hC c1; have x2 := up_cell hC c2; have x3 := up_cell hC c3; have x4 := up_cell hC c4; have x5 := up_cell hC cx; (try go_simp); (first | done | (go_at_call 104; with_reducible exact calls_qb hC (c_l02Then (VI2.kept hC) SH.out hf hd)) | (go_at_call 104; with_reducible exact calls_qb hC (c_l02Then (VI2.kept hC) SH.out hd hm)) | with_reducible rfl | exact rfl))); (try simp only [Act.put, List.setIfInBounds_toArray, List.set_cons_zero, List.set_cons_succ]); refine hK _ ?_; clear hK K))
            refine qw_nil ?_
            intro wq hbq
            have cx2 := up_cell hbq cx
            have hox := ho.kept hbq
            have hbx := bel_next hb hbq
            have hoLx := hoL.kept hbq
            have hwx := hbx.size
            clear cx c0 c1 c2 c3 c4 ho hb hoL
            go_wp2_with (at_builtin; refine hold ?_)
            refine app1 hox hgi (by omega) (by first | omega | (simp; omega)) Try.underlying22 infoInt64 (by rfl) _ _ (by rfl) (by rfl) (by rfl) ?_
            intro v' wz2 ho2 g2
            have hb2 := g2.below hbx (by first | omega | (simp; omega)) (fun k hk => (hox.lt k hk).1)
            have hoL2 := Own.grew hoLx g2 hdj
            have hdj2 := hdj.grew g2 (fun k hk => (hoLx.lt k hk).2)
            clear g2 hox hbx hoLx hdj cx2
            go_wp2_with fail
            go_roundw
            case rel => exact ⟨k + 1, _, by omega, by go_num, hb2, ho2, by simp; omega, hoL2, hdj2, by unfold Hid; rw [HY.out HE.out, ← hp.out]⟩
            case measure => simp [intOf]; omega
          · have i2b : (c.M d m == z) = false := by simp [i2]
            have HE : Hid (diaP c f m u z d = false) := by unfold Hid diaP; rw [i1b, i2b]; rfl
            clear i1 i2
            go_wp2_with fail
            refine wp_region_qb (by kernel_rfl) (by kernel_rfl) ?_
            repeat (refine qw_step (fun K hK => ?_); first | (refine qb_no rfl ?_; (try simp only [Act.put, List.setIfInBounds_toArray, List.set_cons_zero, List.set_cons_succ]); refine hK _ ?_; clear hK K) | (refine qb_yes rfl ?_; apply Exists.intro; refine ⟨fun w' hC => ?_, ?_⟩; (· (have x0 := up_cell hC c0; have x1 := up_cell hC c1; have x2 := up_cell hC c2; have x3 := up_cell hC c3; have x4 := up_cell hC c4; have x5 := up_cell hC cx; (try go_simp); (first | done | (go_at_call 104; with_reducible exact calls_qb hC (c_l02Then (VI2.kept hC) SH.out hf hd)) | (go_at_call 104; with_reducible exact calls_qb hC (c_l02Then (VI2.kept hC) SH.out hd hm)) | with_reducible rfl | exact rfl))); (try simp only [Act.put, List.setIfInBounds_toArray, List.set_cons_zero, List.set_cons_succ]); refine hK _ ?_; clear hK K))
            refine qw_nil ?_
            intro wq hbq
            clear cx c0 c1 c2 c3 c4
            go_wp2_with fail
            go_roundw
            case rel => exact ⟨k + 1, _, by omega, by go_num, bel_next hb hbq, ho.kept hbq, by omega, hoL.kept hbq, hdj, by unfold Hid; rw [HN.out HE.out, ← hp.out]⟩
            case measure => simp [intOf]; omega
        · have i1b : (c.M f d == u) = false := by simp [i1]
          have HE : Hid (diaP c f m u z d = false) := by unfold Hid diaP; rw [i1b]; rfl
          clear i1
          go_wp2_with fail
          refine wp_region_qb (by kernel_rfl) (by kernel_rfl) ?_
          repeat (refine qw_step (fun K hK => ?_); first | (refine qb_no rfl ?_; (try simp only [Act.put, List.setIfInBounds_toArray, List.set_cons_zero, List.set_cons_succ]); refine hK _ ?_; clear hK K) | (refine qb_yes rfl ?_; apply Exists.intro; refine ⟨fun w' hC => ?_, ?_⟩; (· (have x0 := up_cell hC c0; have x1 := up_cell hC c1; have x2 := up_cell hC c2; have x3 := up_cell hC c3; have x4 := up_cell hC c4; have x5 := up_cell hC cx; (try go_simp); (first | done | (go_at_call 104; with_reducible exact calls_qb hC (c_l02Then (VI2.kept hC) SH.out hf hd)) | (go_at_call 104; with_reducible exact calls_qb hC (c_l02Then (VI2.kept hC) SH.out hd hm)) | with_reducible rfl | exact rfl))); (try simp only [Act.put, List.setIfInBounds_toArray, List.set_cons_zero, List.set_cons_succ]); refine hK _ ?_; clear hK K))
          refine qw_nil ?_
          intro wq hbq
          clear cx c0 c1 c2 c3 c4
          go_wp2_with fail
          go_roundw
          case rel => exact ⟨k + 1, _, by omega, by go_num, bel_next hb hbq, ho.kept hbq, by omega, hoL.kept hbq, hdj, by unfold Hid; rw [HN.out HE.out, ← hp.out]⟩
          case measure => simp [intOf]; omega
      · have hke : (homL c (c.T f) (c.F m)).length = k := by omega
        have HE : Hid (os = diaL c f m u z) := by unfold Hid diaL; rw [hp.out, List.take_of_length_le (by omega)]
        have hkb : decide ((k : Int) < ((homL c (c.T f) (c.F m)).length : Int)) = false := by simp; omega
        go_wp2_with fail
        go_ret
        refine ⟨_, rfl, ?_, B.next hb⟩
        rw [← HE.out]
        exact (ho.base HB.out).top
end Go.Proofs.Ytkmkbmhpdnddnaa
