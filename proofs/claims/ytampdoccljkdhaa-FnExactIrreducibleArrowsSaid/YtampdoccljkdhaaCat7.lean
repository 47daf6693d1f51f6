/-
  Chapters 2, 5, 11: identities, inverses, IsGroupoid, idempotents, IdempotentArrows, PathComposite: program and reference.
-/
import Derived.Test.YtampdoccljkdhaaCat6
import Derived.Test.YtampdoccljkdhaaQb
namespace Go.Proofs.Ytampdoccljkdhaa
open Go.RowKit

theorem c_l02Unit {w : World} {v : Value} {c : Cat} (h : IC w v c) (S : Shape c) {f : Int} (hf : c.Arr f) : Calls Try.prog 77 #[v, .int .i64 f] w (Ret w (.bool (c.I (c.F f) == f))) := by
  obtain ⟨aF, aT, aI, aC, bF, oF, kF, bT, oT, kT, bI, oI, kI, bC, oC, kC, bR, oR, kR, rfl, V⟩ := h.boxed 28
  have B : Bel w (w.alloc (.cells #[.int .i64 c.n, .slice aF c.fr.length kF, .slice aT c.to.length kT, .slice aI c.id.length kI, .slice aC c.cm.length kC] 28)) := bel_box w _
  have ZB := Lib.hid (show (w.alloc (.cells #[.int .i64 c.n, .slice aF c.fr.length kF, .slice aT c.to.length kT, .slice aI c.id.length kI, .slice aC c.cm.length kC] 28)).heap.size = w.heap.size + 1 from by simp)
  clear h
  go_enter Try.func77, Try.ntmps77
  go_wp2_with fail
  generalize w.alloc (.cells #[.int .i64 c.n, .slice aF c.fr.length kF, .slice aT c.to.length kT, .slice aI c.id.length kI, .slice aC c.cm.length kC] 28) = w1 at *
  generalize w.heap.size = b at *
  have c0 := V.c0
  have c1 := V.c1
  have c2 := V.c2
  have c3 := V.c3
  have c4 := V.c4
  clear c0 c1 c2 c3 c4
  obtain ⟨rfl, rfl, rfl, rfl⟩ := V.som S (by have := hf.1; have := hf.2; unfold Cat.m at this; omega)
  have c1 := V.c1
  have c3 := V.c3
  have cF := V.cF hf
  have cI := V.cI S (S.fO f hf)
  obtain ⟨f0, f1⟩ := hf
  obtain ⟨p0, p1⟩ := S.fO f ⟨f0, f1⟩
  unfold Cat.m at f1
  have f2 : c.F f < (c.id.length : Int) := by rw [S.il]; exact p1
  go_wp2_with fail
  go_quiet (fail)
  go_wp2_with fail
  go_ret
  exact ⟨rfl, B.drawn (by repeat (first | exact Drawn.refl _ | refine Drawn.step ?_ _ | refine Drawn.one ?_))⟩
theorem c_isIdentity {w : World} {b : Nat} {c : Cat} (P : PC w b c) (S : Shape c) {f : Int} (hf : c.Arr f) : Calls Try.prog 83 #[.pointer (some ⟨b, 0, none⟩), .int .i64 f] w (Rd w (.bool (c.I (c.F f) == f))) := by
  obtain ⟨aF, aT, aI, aC, bF, oF, kF, bT, oT, kT, bI, oI, kI, bC, oC, kC, bR, oR, kR, V⟩ := P.opens
  obtain ⟨rfl, rfl, rfl, rfl⟩ := V.som S (by have := hf.1; have := hf.2; unfold Cat.m at this; omega)
  have c1 := V.c1
  have c3 := V.c3
  have cF := V.cF hf
  have cI := V.cI S (S.fO f hf)
  obtain ⟨f0, f1⟩ := hf
  obtain ⟨p0, p1⟩ := S.fO f ⟨f0, f1⟩
  unfold Cat.m at f1
  have f2 : c.F f < (c.id.length : Int) := by rw [S.il]; exact p1
  go_enter Try.func83, Try.ntmps83
  go_wp2_with fail
  go_quiet (fail)
  go_wp2_with fail
  go_ret
  exact rd_bool rfl (by repeat (first | exact Drawn.refl _ | refine Drawn.step ?_ _ | refine Drawn.one ?_))
theorem homL_mem {c : Cat} {x y g : Int} (h : g ∈ homL c x y) : c.Arr g ∧ c.F g = x ∧ c.T g = y := by
  simp only [homL, sel, List.mem_map, List.mem_filter, List.mem_range, homP, decide_eq_true_eq] at h
  obtain ⟨k, ⟨h1, h2, h3⟩, rfl⟩ := h
  exact ⟨⟨by omega, by unfold Cat.m; omega⟩, h2, h3⟩
theorem homL_has {c : Cat} {x y g : Int} (h : c.Arr g) (hx : c.F g = x) (hy : c.T g = y) : g ∈ homL c x y := by
  simp only [homL, sel, List.mem_map, List.mem_filter, List.mem_range, homP, decide_eq_true_eq]
  have := h.2
  unfold Cat.m at this
  have e : ((g.toNat : Nat) : Int) = g := by have := h.1; omega
  exact ⟨g.toNat, ⟨by have := h.1; omega, by rw [e]; exact ⟨hx, hy⟩⟩, e⟩
theorem homL_le (c : Cat) (x y : Int) : (homL c x y).length ≤ c.fr.length := sel_le _ _
theorem all_gi {xs : List Int} {p : Int → Prop} (h : ∀ j, j < xs.length → p (gi xs j)) : ∀ x ∈ xs, p x := by
  intro x hx
  obtain ⟨k, hk, rfl⟩ := List.getElem_of_mem hx
  rw [← gi_lt hk]; exact h k hk
/-- g is the inverse of f. -/
def Inv (c : Cat) (f g : Int) : Prop := c.F g = c.T f ∧ c.T g = c.F f ∧ c.M f g = c.I (c.F f) ∧ c.M g f = c.I (c.T f)
def InvR (c : Cat) (f r : Int) : Prop := (r = -1 ∧ ∀ g, c.Arr g → ¬ Inv c f g) ∨ (c.Arr r ∧ Inv c f r)
def InvEnd (c : Cat) (f : Int) (w : World) : Ending → World → Prop := fun e w' => ∃ r, InvR c f r ∧ e = .returned (.int .i64 r) ∧ Below w.heap.size w w'
def HasInv (c : Cat) (f : Int) : Prop := ∃ g, c.Arr g ∧ Inv c f g
theorem InvR.neg {c : Cat} {f r : Int} (h : InvR c f r) : r < 0 ↔ ¬ HasInv c f := by
  rcases h with ⟨rfl, h⟩ | ⟨h1, h2⟩
  · exact ⟨fun _ ⟨g, a, i⟩ => h g a i, fun _ => by decide⟩
  · exact ⟨fun q => absurd h1.1 (by omega), fun q => absurd ⟨r, h1, h2⟩ q⟩
theorem inv_none {c : Cat} {f : Int} (h : ∀ g ∈ homL c (c.T f) (c.F f), ¬ Inv c f g) : ∀ g, c.Arr g → ¬ Inv c f g := fun g hg hi => h g (homL_has hg hi.1 hi.2.1) hi
set_option maxHeartbeats 800000 in
theorem c_inverse {w : World} {b : Nat} {c : Cat} (P : PC w b c) (S : Shape c) {f : Int} (hf : c.Arr f) : Calls Try.prog 67 #[.pointer (some ⟨b, 0, none⟩), .int .i64 f] w (InvEnd c f w) := by
  obtain ⟨aF, aT, aI, aC, bF, oF, kF, bT, oT, kT, bI, oI, kI, bC, oC, kC, bR, oR, kR, V⟩ := P.opens
  obtain ⟨rfl, rfl, rfl, rfl⟩ := V.som S (by have := hf.1; have := hf.2; unfold Cat.m at this; omega)
  have c1 := V.c1
  have c2 := V.c2
  have cF := V.cF hf
  have cT := V.cT S hf
  have f0 := hf.1
  have f1 : f < (c.fr.length : Int) := hf.2
  have f2 : f < (c.to.length : Int) := by rw [S.tl]; exact f1
  obtain ⟨p0, p1⟩ := S.fO f hf
  obtain ⟨q0, q1⟩ := S.tO f hf
  have p2 : c.F f < (c.id.length : Int) := by rw [S.il]; exact p1
  have q2 : c.T f < (c.id.length : Int) := by rw [S.il]; exact q1
  have SH := Lib.hid S
  clear S P
  go_enter Try.func67, Try.ntmps67
  go_wp2_with fail
  go_quiet (fail)
  have d1 := Drawn.step (Drawn.refl w) nq
  have V1 := V.drawn d1
  clear c1 c2 cF cT
  generalize w.drewN nq = w1 at *
  go_wp2_with fail
  refine (c_hom V1.pc SH.out.tl _ _).mono ?_
  rintro e w2 ⟨u, rfl, o2, b2⟩
  obtain ⟨ao, bb, oo, cc, rfl, ha, hc⟩ := o2.is.ex
  have hL := homL_le c (c.T f) (c.F f)
  have hL2 := o2.size
  have B2 := d1.bel b2
  have V2 := V1.kept b2
  clear o2 b2 V1
  have HT := Lib.hid (fun W f g (hd : Drawn w2 W) (hf : c.Arr f) (hg : c.Arr g) => c_then (V2.drawn hd).pc SH.out hf hg)
  go_wp2_with fail
  go_loopw [8, 28] (fun _ i wr => ∃ k : Nat, k ≤ (homL c (c.T f) (c.F f)).length ∧ i = .int .i64 k ∧ Drawn w2 wr ∧ Hid (∀ j, j < k → ¬ Inv c f (gi (homL c (c.T f) (c.F f)) j))) (fun _ i _ => (homL c (c.T f) (c.F f)).length - (intOf i).toNat)
  case atStart => exact ⟨0, Nat.zero_le _, rfl, Drawn.refl _, fun j h => by omega⟩
  case round =>
    obtain ⟨k, hk, rfl, hd, hp⟩ := hrel
    by_cases hlt : k < (homL c (c.T f) (c.F f)).length
    · obtain rfl := ha (by omega)
      have cx := up_cell hd.bel0 (hc k hlt)
      obtain ⟨hg, hgF, hgT⟩ := homL_mem (gi_mem hlt)
      have c3 := (V2.drawn hd).c3
      have cI := (V2.drawn hd).cI SH.out ⟨p0, p1⟩
      have cJ := (V2.drawn hd).cI SH.out ⟨q0, q1⟩
      have HG := Lib.hid (And.intro hgF hgT)
      have HQ1 := Lib.hid (fun W (h : Drawn wr W) => calls_q (HT.out W _ _ (drawn_trans hd h) hf hg))
      have HQ2 := Lib.hid (fun W (h : Drawn wr W) => calls_q (HT.out W _ _ (drawn_trans hd h) hg hf))
      clear hgF hgT
      generalize hge : gi (homL c (c.T f) (c.F f)) k = g at *
      have HGE := Lib.hid hge
      clear hge
      by_cases i1 : c.M f g = c.I (c.F f)
      · have i1b : (c.M f g == c.I (c.F f)) = true := by simp [i1]
        have I1 := Lib.hid i1
        clear i1
        by_cases i2 : c.M g f = c.I (c.T f)
        · have i2b : (c.M g f == c.I (c.T f)) = true := by simp [i2]
          have I2 := Lib.hid i2
          clear i2
          go_wp2_with fail
          go_quiet ((first | (go_at_call 63; with_reducible exact Calls.quiet_of (HQ1.out _ (by repeat (first | exact Drawn.refl _ | refine Drawn.step ?_ _ | refine Drawn.one ?_)))) | (go_at_call 63; with_reducible exact Calls.quiet_of (HQ2.out _ (by repeat (first | exact Drawn.refl _ | refine Drawn.step ?_ _ | refine Drawn.one ?_))))))
          go_wp2_with fail
          go_ret
          exact ⟨g, .inr ⟨hg, HG.out.1, HG.out.2, I1.out, I2.out⟩, rfl, bel_next B2 (hd.step _).bel0⟩
        · have i2b : (c.M g f == c.I (c.T f)) = false := by simp [i2]
          have I2 := Lib.hid i2
          clear i2
          go_wp2_with fail
          go_quiet ((first | (go_at_call 63; with_reducible exact Calls.quiet_of (HQ1.out _ (by repeat (first | exact Drawn.refl _ | refine Drawn.step ?_ _ | refine Drawn.one ?_)))) | (go_at_call 63; with_reducible exact Calls.quiet_of (HQ2.out _ (by repeat (first | exact Drawn.refl _ | refine Drawn.step ?_ _ | refine Drawn.one ?_))))))
          go_wp2_with fail
          go_roundw
          case rel => exact ⟨k + 1, by omega, by go_num, hd.step _, fun j h => by
            by_cases e : j = k
            · subst e; rw [HGE.out]; exact fun q => I2.out q.2.2.2
            · exact hp.out j (by omega)⟩
          case measure => simp [intOf]; omega
      · have i1b : (c.M f g == c.I (c.F f)) = false := by simp [i1]
        have I1 := Lib.hid i1
        clear i1
        go_wp2_with fail
        go_quiet ((first | (go_at_call 63; with_reducible exact Calls.quiet_of (HQ1.out _ (by repeat (first | exact Drawn.refl _ | refine Drawn.step ?_ _ | refine Drawn.one ?_)))) | (go_at_call 63; with_reducible exact Calls.quiet_of (HQ2.out _ (by repeat (first | exact Drawn.refl _ | refine Drawn.step ?_ _ | refine Drawn.one ?_))))))
        go_wp2_with fail
        go_roundw
        case rel => exact ⟨k + 1, by omega, by go_num, hd.step _, fun j h => by
          by_cases e : j = k
          · subst e; rw [HGE.out]; exact fun q => I1.out q.2.2.1
          · exact hp.out j (by omega)⟩
        case measure => simp [intOf]; omega
    · have hke : (homL c (c.T f) (c.F f)).length = k := by omega
      have HN : Hid (∀ g, c.Arr g → ¬ Inv c f g) := inv_none (all_gi fun j h => hp.out j (by omega))
      clear hp
      go_wp2_with fail
      go_ret
      exact ⟨-1, .inl ⟨rfl, HN.out⟩, rfl, bel_next B2 hd.bel0⟩
set_option maxHeartbeats 1600000 in
theorem c_l02Inverse {w : World} {v : Value} {c : Cat} (h : IC w v c) (S : Shape c) {f : Int} (hf : c.Arr f) : Calls Try.prog 66 #[v, .int .i64 f] w (InvEnd c f w) := by
  obtain ⟨aF, aT, aI, aC, bF, oF, kF, bT, oT, kT, bI, oI, kI, bC, oC, kC, bR, oR, kR, rfl, V⟩ := h.boxed 28
  have B : Bel w (w.alloc (.cells #[.int .i64 c.n, .slice aF c.fr.length kF, .slice aT c.to.length kT, .slice aI c.id.length kI, .slice aC c.cm.length kC] 28)) := bel_box w _
  have ZB := Lib.hid (show (w.alloc (.cells #[.int .i64 c.n, .slice aF c.fr.length kF, .slice aT c.to.length kT, .slice aI c.id.length kI, .slice aC c.cm.length kC] 28)).heap.size = w.heap.size + 1 from by simp)
  clear h
  go_enter Try.func66, Try.ntmps66
  go_wp2_with fail
  generalize w.alloc (.cells #[.int .i64 c.n, .slice aF c.fr.length kF, .slice aT c.to.length kT, .slice aI c.id.length kI, .slice aC c.cm.length kC] 28) = w1 at *
  generalize w.heap.size = b at *
  have c0 := V.c0
  have c1 := V.c1
  have c2 := V.c2
  have c3 := V.c3
  have c4 := V.c4
  clear c0 c1 c2 c3 c4
  obtain ⟨rfl, rfl, rfl, rfl⟩ := V.som S (by have := hf.1; have := hf.2; unfold Cat.m at this; omega)
  have c0 := V.c0
  have c1 := V.c1
  have c2 := V.c2
  have c3 := V.c3
  have c4 := V.c4
  have cF := V.cF hf
  have cT := V.cT S hf
  have f0 := hf.1
  have f1 : f < (c.fr.length : Int) := hf.2
  have f2 : f < (c.to.length : Int) := by rw [S.tl]; exact f1
  have SH := Lib.hid S
  clear S
  go_wp2_with fail
  have VI := V.ic
  go_region_held3 (fun w' => Below w1.heap.size w1 w' ∧ w'.cell? ⟨b, 0, none⟩ = some (.int .i64 c.n) ∧ w'.cell? ⟨b, 1, none⟩ = some (.slice (some ⟨bF, oF, none⟩) c.fr.length kF) ∧ w'.cell? ⟨b, 2, none⟩ = some (.slice (some ⟨bT, oT, none⟩) c.to.length kT) ∧ w'.cell? ⟨b, 3, none⟩ = some (.slice (some ⟨bI, oI, none⟩) c.id.length kI) ∧ w'.cell? ⟨b, 4, none⟩ = some (.slice (some ⟨bC, oC, none⟩) c.cm.length kC) ∧ w'.cell? ⟨bF, oF + f.toNat, none⟩ = some (.int .i64 (c.F f)) ∧ w'.cell? ⟨bT, oT + f.toNat, none⟩ = some (.int .i64 (c.T f)))
    (first | exact ⟨(Drawn.one (Drawn.refl _)).bel0, c0, c1, c2, c3, c4, cF, cT⟩ | (refine keep7 ?_ hb7; assumption))
    (first | (go_at_call 74; (with_reducible refine (c_l02Hom (VI.kept (And.left (by assumption))) SH.out.tl _ _).mono ?_); rintro e w3 ⟨u, rfl, o2, hb7⟩))
  obtain ⟨hbl, -⟩ := ‹Below w1.heap.size w1 w3 ∧ _›
  obtain ⟨ao, bb, oo, cc, rfl, ha, hc⟩ := o2.is.ex
  have hL := homL_le c (c.T f) (c.F f)
  have hL2 := o2.size
  have B2 := B.next hbl
  have V2 := V.kept hbl
  clear o2 hbl hb7 c0 c1 c2 c3 c4 cF cT VI
  go_wp2_with fail
  go_loopw [6] (fun i wr => ∃ k : Nat, k ≤ (homL c (c.T f) (c.F f)).length ∧ i = .int .i64 k ∧ Below w3.heap.size w3 wr ∧ Hid (∀ j, j < k → ¬ Inv c f (gi (homL c (c.T f) (c.F f)) j))) (fun i _ => (homL c (c.T f) (c.F f)).length - (intOf i).toNat)
  case atStart => exact ⟨0, Nat.zero_le _, rfl, Below.refl _ _, fun j h => by omega⟩
  case round =>
    obtain ⟨k, hk, rfl, hb, hp⟩ := hrel
    by_cases hlt : k < (homL c (c.T f) (c.F f)).length
    · obtain rfl := ha (by omega)
      have cx := up_cell hb (hc k hlt)
      obtain ⟨hg, hgF, hgT⟩ := homL_mem (gi_mem hlt)
      have V3 := V2.kept hb
      have c0 := V3.c0
      have c1 := V3.c1
      have c2 := V3.c2
      have c3 := V3.c3
      have c4 := V3.c4
      have VI2 := V3.ic
      have m1 := SH.out.mA f _ hf hg hgF.symm
      have m2 := SH.out.mA _ f hg hf hgT
      have HG := Lib.hid (And.intro hgF hgT)
      have u1 := fun W (hW : Below wr.heap.size wr W) => c_l02Unit (VI2.kept hW) SH.out m1.1
      have u2 := fun W (hW : Below wr.heap.size wr W) => c_l02Unit (VI2.kept hW) SH.out m2.1
      rw [m1.2.1] at u1
      rw [m2.2.1, hgF] at u2
      clear hgF hgT m1 m2
      generalize hge : gi (homL c (c.T f) (c.F f)) k = g at *
      have HGE := Lib.hid hge
      clear hge
      by_cases i1 : c.M f g = c.I (c.F f)
      · have i1b : (c.I (c.F f) == c.M f g) = true := by simp [i1]
        have I1 := Lib.hid i1
        rw [i1b] at u1
        have HU1 := Lib.hid u1
        clear i1 i1b u1
        by_cases i2 : c.M g f = c.I (c.T f)
        · have i2b : (c.I (c.T f) == c.M g f) = true := by simp [i2]
          have I2 := Lib.hid i2
          rw [i2b] at u2
          have HU2 := Lib.hid u2
          clear i2 i2b u2
          go_wp2_with fail
          refine wp_region_qb (by kernel_rfl) (by kernel_rfl) ?_
          repeat (refine qw_step (fun K hK => ?_); first | (refine qb_no rfl ?_; (try simp only [Act.put, List.setIfInBounds_toArray, List.set_cons_zero, List.set_cons_succ]); refine hK _ ?_; clear hK K) | (refine qb_yes rfl ?_; apply Exists.intro; refine ⟨fun w' hC => ?_, ?_⟩; (· (have x0 := up_cell hC c0; have x1 := up_cell hC c1; have x2 := up_cell hC c2; have x3 := up_cell hC c3; have x4 := up_cell hC c4; have x5 := up_cell hC cx; (try go_simp); (first | done | (go_at_call 65; with_reducible exact calls_qb hC (c_l02Then (VI2.kept hC) SH.out hf hg)) | (go_at_call 65; with_reducible exact calls_qb hC (c_l02Then (VI2.kept hC) SH.out hg hf)) | (go_at_call 77; with_reducible exact calls_qb hC (HU1.out _ hC)) | (go_at_call 77; with_reducible exact calls_qb hC (HU2.out _ hC)) | with_reducible rfl | exact rfl))); (try simp only [Act.put, List.setIfInBounds_toArray, List.set_cons_zero, List.set_cons_succ]); refine hK _ ?_; clear hK K))
          refine qw_nil ?_
          intro wq hbq
          have hbl := hbq
          have cy := up_cell hbq cx
          clear cx
          go_wp2_with fail
          go_ret
          exact ⟨g, .inr ⟨hg, HG.out.1, HG.out.2, I1.out, I2.out⟩, rfl, bel_next B2 (bel_next hb hbl)⟩
        · have i2b : (c.I (c.T f) == c.M g f) = false := by simp; exact fun q => i2 q.symm
          have I2 := Lib.hid i2
          rw [i2b] at u2
          have HU2 := Lib.hid u2
          clear i2 i2b u2
          go_wp2_with fail
          refine wp_region_qb (by kernel_rfl) (by kernel_rfl) ?_
          repeat (refine qw_step (fun K hK => ?_); first | (refine qb_no rfl ?_; (try simp only [Act.put, List.setIfInBounds_toArray, List.set_cons_zero, List.set_cons_succ]); refine hK _ ?_; clear hK K) | (refine qb_yes rfl ?_; apply Exists.intro; refine ⟨fun w' hC => ?_, ?_⟩; (· (have x0 := up_cell hC c0; have x1 := up_cell hC c1; have x2 := up_cell hC c2; have x3 := up_cell hC c3; have x4 := up_cell hC c4; have x5 := up_cell hC cx; (try go_simp); (first | done | (go_at_call 65; with_reducible exact calls_qb hC (c_l02Then (VI2.kept hC) SH.out hf hg)) | (go_at_call 65; with_reducible exact calls_qb hC (c_l02Then (VI2.kept hC) SH.out hg hf)) | (go_at_call 77; with_reducible exact calls_qb hC (HU1.out _ hC)) | (go_at_call 77; with_reducible exact calls_qb hC (HU2.out _ hC)) | with_reducible rfl | exact rfl))); (try simp only [Act.put, List.setIfInBounds_toArray, List.set_cons_zero, List.set_cons_succ]); refine hK _ ?_; clear hK K))
          refine qw_nil ?_
          intro wq hbq
          have hbl := hbq
          go_wp2_with fail
          go_roundw
          case rel => exact ⟨k + 1, by omega, by go_num, bel_next hb hbl, fun j h => by
            by_cases e : j = k
            · subst e; rw [HGE.out]; exact fun q => I2.out q.2.2.2
            · exact hp.out j (by omega)⟩
          case measure => simp [intOf]; omega
      · have i1b : (c.I (c.F f) == c.M f g) = false := by simp; exact fun q => i1 q.symm
        have I1 := Lib.hid i1
        rw [i1b] at u1
        have HU1 := Lib.hid u1
        have HU2 := Lib.hid u2
        clear i1 i1b u1 u2
        go_wp2_with fail
        refine wp_region_qb (by kernel_rfl) (by kernel_rfl) ?_
        repeat (refine qw_step (fun K hK => ?_); first | (refine qb_no rfl ?_; (try simp only [Act.put, List.setIfInBounds_toArray, List.set_cons_zero, List.set_cons_succ]); refine hK _ ?_; clear hK K) | (refine qb_yes rfl ?_; apply Exists.intro; refine ⟨fun w' hC => ?_, ?_⟩; (· (have x0 := up_cell hC c0; have x1 := up_cell hC c1; have x2 := up_cell hC c2; have x3 := up_cell hC c3; have x4 := up_cell hC c4; have x5 := up_cell hC cx; (try go_simp); (first | done | (go_at_call 65; with_reducible exact calls_qb hC (c_l02Then (VI2.kept hC) SH.out hf hg)) | (go_at_call 65; with_reducible exact calls_qb hC (c_l02Then (VI2.kept hC) SH.out hg hf)) | (go_at_call 77; with_reducible exact calls_qb hC (HU1.out _ hC)) | (go_at_call 77; with_reducible exact calls_qb hC (HU2.out _ hC)) | with_reducible rfl | exact rfl))); (try simp only [Act.put, List.setIfInBounds_toArray, List.set_cons_zero, List.set_cons_succ]); refine hK _ ?_; clear hK K))
        refine qw_nil ?_
        intro wq hbq
        have hbl := hbq
        go_wp2_with fail
        go_roundw
        case rel => exact ⟨k + 1, by omega, by go_num, bel_next hb hbl, fun j h => by
          by_cases e : j = k
          · subst e; rw [HGE.out]; exact fun q => I1.out q.2.2.1
          · exact hp.out j (by omega)⟩
        case measure => simp [intOf]; omega
    · have hke : (homL c (c.T f) (c.F f)).length = k := by omega
      have HN : Hid (∀ g, c.Arr g → ¬ Inv c f g) := inv_none (all_gi fun j h => hp.out j (by omega))
      clear hp
      go_wp2_with fail
      go_ret
      exact ⟨-1, .inl ⟨rfl, HN.out⟩, rfl, bel_next B2 hb⟩
/-- What IsGroupoid returns. -/
noncomputable def grpR (c : Cat) : Bool × Int := if catB c then (@decide (∀ f, c.Arr f → HasInv c f) (Classical.propDecidable _), 0) else (false, 1)
theorem grpR_t {c : Cat} (h : catB c = true) (h2 : ∀ f, c.Arr f → HasInv c f) : grpR c = (true, 0) := by
  unfold grpR; rw [if_pos h, @decide_eq_true _ (Classical.propDecidable _) h2]
theorem grpR_f {c : Cat} (h : catB c = true) (h2 : ¬ ∀ f, c.Arr f → HasInv c f) : grpR c = (false, 0) := by
  unfold grpR; rw [if_pos h, @decide_eq_false _ (Classical.propDecidable _) h2]
theorem grpR_n {c : Cat} (h : ¬ catB c = true) : grpR c = (false, 1) := by unfold grpR; rw [if_neg h]
set_option maxHeartbeats 800000 in
theorem i_IsGroupoid {w : World} {v : Value} {c : Cat} (h : IC w v c) : Calls Try.prog 31 #[v] w (Ret w (.tuple #[.bool (grpR c).1, .int .i64 (grpR c).2])) := by
  have lF := h.lF
  obtain ⟨aF, aT, aI, aC, bF, oF, kF, bT, oT, kT, bI, oI, kI, bC, oC, kC, bR, oR, kR, rfl, V⟩ := h.boxed 28
  have B : Bel w (w.alloc (.cells #[.int .i64 c.n, .slice aF c.fr.length kF, .slice aT c.to.length kT, .slice aI c.id.length kI, .slice aC c.cm.length kC] 28)) := bel_box w _
  have ZB := Lib.hid (show (w.alloc (.cells #[.int .i64 c.n, .slice aF c.fr.length kF, .slice aT c.to.length kT, .slice aI c.id.length kI, .slice aC c.cm.length kC] 28)).heap.size = w.heap.size + 1 from by simp)
  clear h
  go_enter Try.func31, Try.ntmps31
  go_wp2_with fail
  generalize w.alloc (.cells #[.int .i64 c.n, .slice aF c.fr.length kF, .slice aT c.to.length kT, .slice aI c.id.length kI, .slice aC c.cm.length kC] 28) = w1 at *
  generalize w.heap.size = b at *
  have c0 := V.c0
  have c1 := V.c1
  have c2 := V.c2
  have c3 := V.c3
  have c4 := V.c4
  clear c0 c1 c2 c3 c4
  refine (c_isCategory V.pc).mono ?_
  rintro e w2 ⟨rfl, b2⟩
  have V2 := V.kept b2
  have B2 := B.next b2
  by_cases hc : catB c = true
  · have SH := Lib.hid (catB_s hc).s
    have HC := Lib.hid hc
    have c1 := V2.c1
    go_wp2_with fail
    clear c1
    go_loopw [4, 10] (fun _ iv wr => ∃ k : Nat, k ≤ c.fr.length ∧ iv = .int .i64 k ∧ Below w2.heap.size w2 wr ∧ Hid (∀ x : Int, 0 ≤ x → x < k → HasInv c x)) (fun _ iv _ => c.fr.length - (intOf iv).toNat)
    case atStart => exact ⟨0, Nat.zero_le _, rfl, Below.refl _ _, fun x _ _ => by omega⟩
    case round =>
      obtain ⟨k, hk, rfl, hb, hp⟩ := hrel
      have V3 := V2.kept hb
      have c0 := V3.c0
      have c1 := V3.c1
      have c2 := V3.c2
      have c3 := V3.c3
      have c4 := V3.c4
      by_cases hlt : k < c.fr.length
      · have hA : c.Arr k := ⟨by omega, by unfold Cat.m; omega⟩
        go_wp2_with fail
        refine (c_inverse V3.pc SH.out hA).mono ?_
        rintro e w4 ⟨r, hr, rfl, b4⟩
        have HR := Lib.hid hr.neg
        have hb4 := bel_next hb b4
        clear hr b4 V3 c0 c1 c2 c3 c4
        by_cases hn : r < 0
        · have hnb : decide (r < 0) = true := by simp [hn]
          have HN := Lib.hid hn
          clear hn
          go_wp2_with fail
          go_ret2
          exact ⟨ret_bi (grpR_f HC.out fun q => HR.out.1 HN.out (q k hA)), bel_next B2 hb4⟩
        · have hnb : decide (r < 0) = false := by simp; omega
          have HN := Lib.hid hn
          clear hn
          go_wp2_with fail
          go_roundw
          case rel => exact ⟨k + 1, by omega, by go_num, hb4, fun x h0 h1 => by
            by_cases e : x = k
            · subst e; exact Classical.byContradiction fun q => absurd (HR.out.2 q) (by have := HN.out; omega)
            · exact hp.out x h0 (by omega)⟩
          case measure => simp [intOf]; omega
      · have hke : c.fr.length = k := by omega
        have HG := Lib.hid (grpR_t HC.out fun f hf => hp.out f hf.1 (by have := hf.2; unfold Cat.m at this; omega))
        have hkb : decide ((k : Int) < (c.fr.length : Int)) = false := by simp; omega
        clear hp
        go_wp2_with fail
        go_ret2
        exact ⟨ret_bi HG.out, bel_next B2 hb⟩
  · have HG := Lib.hid (grpR_n hc)
    have hn : catB c = false := by simpa using hc
    clear hc
    go_wp2_with fail
    go_ret2
    exact ⟨ret_bi HG.out, B2⟩
set_option maxHeartbeats 800000 in
theorem s_IsGroupoid {w : World} {v : Value} {c : Cat} (h : IC w v c) : Calls Try.prog 30 #[v] w (Ret w (.tuple #[.bool (grpR c).1, .int .i64 (grpR c).2])) := by
  have lF := h.lF
  obtain ⟨aF, aT, aI, aC, bF, oF, kF, bT, oT, kT, bI, oI, kI, bC, oC, kC, bR, oR, kR, rfl, V⟩ := h.boxed 28
  have B : Bel w (w.alloc (.cells #[.int .i64 c.n, .slice aF c.fr.length kF, .slice aT c.to.length kT, .slice aI c.id.length kI, .slice aC c.cm.length kC] 28)) := bel_box w _
  have ZB := Lib.hid (show (w.alloc (.cells #[.int .i64 c.n, .slice aF c.fr.length kF, .slice aT c.to.length kT, .slice aI c.id.length kI, .slice aC c.cm.length kC] 28)).heap.size = w.heap.size + 1 from by simp)
  clear h
  go_enter Try.func30, Try.ntmps30
  go_wp2_with fail
  generalize w.alloc (.cells #[.int .i64 c.n, .slice aF c.fr.length kF, .slice aT c.to.length kT, .slice aI c.id.length kI, .slice aC c.cm.length kC] 28) = w1 at *
  generalize w.heap.size = b at *
  have c0 := V.c0
  have c1 := V.c1
  have c2 := V.c2
  have c3 := V.c3
  have c4 := V.c4
  refine (c_l02Is V.ic).mono ?_
  rintro e w2 ⟨rfl, b2⟩
  have V2 := V.kept b2
  have B2 := B.next b2
  clear c0 c1 c2 c3 c4
  by_cases hc : catB c = true
  · have SH := Lib.hid (catB_s hc).s
    have HC := Lib.hid hc
    have c1 := V2.c1
    go_wp2_with fail
    clear c1
    go_loopw [4] (fun iv wr => ∃ k : Nat, k ≤ c.fr.length ∧ iv = .int .i64 k ∧ Below w2.heap.size w2 wr ∧ Hid (∀ x : Int, 0 ≤ x → x < k → HasInv c x)) (fun iv _ => c.fr.length - (intOf iv).toNat)
    case atStart => exact ⟨0, Nat.zero_le _, rfl, Below.refl _ _, fun x _ _ => by omega⟩
    case round =>
      obtain ⟨k, hk, rfl, hb, hp⟩ := hrel
      have V3 := V2.kept hb
      have c0 := V3.c0
      have c1 := V3.c1
      have c2 := V3.c2
      have c3 := V3.c3
      have c4 := V3.c4
      by_cases hlt : k < c.fr.length
      · have hA : c.Arr k := ⟨by omega, by unfold Cat.m; omega⟩
        go_wp2_with fail
        refine (c_l02Inverse V3.ic SH.out hA).mono ?_
        rintro e w4 ⟨r, hr, rfl, b4⟩
        have HR := Lib.hid hr.neg
        have hb4 := bel_next hb b4
        clear hr b4 V3 c0 c1 c2 c3 c4
        by_cases hn : r < 0
        · have hnb : decide (r < 0) = true := by simp [hn]
          have HN := Lib.hid hn
          clear hn
          go_wp2_with fail
          go_ret2
          exact ⟨ret_bi (grpR_f HC.out fun q => HR.out.1 HN.out (q k hA)), bel_next B2 hb4⟩
        · have hnb : decide (r < 0) = false := by simp; omega
          have HN := Lib.hid hn
          clear hn
          go_wp2_with fail
          go_roundw
          case rel => exact ⟨k + 1, by omega, by go_num, hb4, fun x h0 h1 => by
            by_cases e : x = k
            · subst e; exact Classical.byContradiction fun q => absurd (HR.out.2 q) (by have := HN.out; omega)
            · exact hp.out x h0 (by omega)⟩
          case measure => simp [intOf]; omega
      · have hke : c.fr.length = k := by omega
        have HG := Lib.hid (grpR_t HC.out fun f hf => hp.out f hf.1 (by have := hf.2; unfold Cat.m at this; omega))
        have hkb : decide ((k : Int) < (c.fr.length : Int)) = false := by simp; omega
        clear hp
        go_wp2_with fail
        go_ret2
        exact ⟨ret_bi HG.out, bel_next B2 hb⟩
  · have HG := Lib.hid (grpR_n hc)
    have hn : catB c = false := by simpa using hc
    clear hc
    go_wp2_with fail
    go_ret2
    exact ⟨ret_bi HG.out, B2⟩
end Go.Proofs.Ytampdoccljkdhaa
