/-
  Chapters 2, 5, 11: identities, inverses, IsGroupoid, idempotents, IdempotentArrows, PathComposite: program and reference.
-/
import Derived.Test.YtkmkbmhpdnddnaaCat6
import Derived.Test.YtkmkbmhpdnddnaaQb
namespace Go.Proofs.Ytkmkbmhpdnddnaa
open Go.RowKit

theorem c_l02Unit {w : World} {v : Value} {c : Cat} (h : IC w v c) (S : Shape c) {f : Int} (hf : c.Arr f) : Calls Try.prog 96 #[v, .int .i64 f] w (Ret w (.bool (c.I (c.F f) == f))) := by
  obtain ⟨aF, aT, aI, aC, bF, oF, kF, bT, oT, kT, bI, oI, kI, bC, oC, kC, bR, oR, kR, rfl, V⟩ := h.boxed 29
  have B : Bel w (w.alloc (.cells #[.int .i64 c.n, .slice aF c.fr.length kF, .slice aT c.to.length kT, .slice aI c.id.length kI, .slice aC c.cm.length kC] 29)) := bel_box w _
  have ZB := Lib.hid (show (w.alloc (.cells #[.int .i64 c.n, .slice aF c.fr.length kF, .slice aT c.to.length kT, .slice aI c.id.length kI, .slice aC c.cm.length kC] 29)).heap.size = w.heap.size + 1 from by simp)
  clear h
  go_enter Try.func96, Try.ntmps96
  go_wp2_with fail
  generalize w.alloc (.cells #[.int .i64 c.n, .slice aF c.fr.length kF, .slice aT c.to.length kT, .slice aI c.id.length kI, .slice aC c.cm.length kC] 29) = w1 at *
  generalize w.heap.size = b at *
  have c0 := V.c0
  have c1 := V.c1
  have c2 := V.c2
  have c3 := V.c3
  have c4 := V.c4
  clear c0 c1 c2 c3 c4
  obtain ⟨rfl, rfl, rfl, rfl⟩ := V.som S (by have := hf.1; have := hf.2; unfold Cat.m at this; omega)
  have c1 := V.c1
  have c3 := V.c3
  have cF := V.cF hf
  have cI := V.cI S (S.fO f hf)
  obtain ⟨f0, f1⟩ := hf
  obtain ⟨p0, p1⟩ := S.fO f ⟨f0, f1⟩
  unfold Cat.m at f1
  have f2 : c.F f < (c.id.length : Int) := by rw [S.il]; exact p1
  go_wp2_with fail
  go_quiet (fail)
  go_wp2_with fail
  go_ret
  exact ⟨rfl, B.drawn (by repeat (first | exact Drawn.refl _ | refine Drawn.step ?_ _ | refine Drawn.one ?_))⟩
theorem c_isIdentity {w : World} {b : Nat} {c : Cat} (P : PC w b c) (S : Shape c) {f : Int} (hf : c.Arr f) : Calls Try.prog 98 #[.pointer (some ⟨b, 0, none⟩), .int .i64 f] w (Rd w (.bool (c.I (c.F f) == f))) := by
  obtain ⟨aF, aT, aI, aC, bF, oF, kF, bT, oT, kT, bI, oI, kI, bC, oC, kC, bR, oR, kR, V⟩ := P.opens
  obtain ⟨rfl, rfl, rfl, rfl⟩ := V.som S (by have := hf.1; have := hf.2; unfold Cat.m at this; omega)
  have c1 := V.c1
  have c3 := V.c3
  have cF := V.cF hf
  have cI := V.cI S (S.fO f hf)
  obtain ⟨f0, f1⟩ := hf
  obtain ⟨p0, p1⟩ := S.fO f ⟨f0, f1⟩
  unfold Cat.m at f1
  have f2 : c.F f < (c.id.length : Int) := by rw [S.il]; exact p1
  go_enter Try.func98, Try.ntmps98
  go_wp2_with fail
  go_quiet (fail)
  go_wp2_with fail
  go_ret
  exact rd_bool rfl (by repeat (first | exact Drawn.refl _ | refine Drawn.step ?_ _ | refine Drawn.one ?_))
theorem homL_mem {c : Cat} {x y g : Int} (h : g ∈ homL c x y) : c.Arr g ∧ c.F g = x ∧ c.T g = y := by
  simp only [homL, sel, List.mem_map, List.mem_filter, List.mem_range, homP, decide_eq_true_eq] at h
  obtain ⟨k, ⟨h1, h2, h3⟩, rfl⟩ := h
  exact ⟨⟨by omega, by unfold Cat.m; omega⟩, h2, h3⟩
theorem homL_has {c : Cat} {x y g : Int} (h : c.Arr g) (hx : c.F g = x) (hy : c.T g = y) : g ∈ homL c x y := by
  simp only [homL, sel, List.mem_map, List.mem_filter, List.mem_range, homP, decide_eq_true_eq]
  have := h.2
  unfold Cat.m at this
  have e : ((g.toNat : Nat) : Int) = g := by have := h.1; omega
  exact ⟨g.toNat, ⟨by have := h.1; omega, by rw [e]; exact ⟨hx, hy⟩⟩, e⟩
theorem homL_le (c : Cat) (x y : Int) : (homL c x y).length ≤ c.fr.length := sel_le _ _
theorem all_gi {xs : List Int} {p : Int → Prop} (h : ∀ j, j < xs.length → p (gi xs j)) : ∀ x ∈ xs, p x := by
  intro x hx
  obtain ⟨k, hk, rfl⟩ := List.getElem_of_mem hx
  rw [← gi_lt hk]; exact h k hk
/-- g is the inverse of f. -/
def Inv (c : Cat) (f g : Int) : Prop := c.F g = c.T f ∧ c.T g = c.F f ∧ c.M f g = c.I (c.F f) ∧ c.M g f = c.I (c.T f)
def InvR (c : Cat) (f r : Int) : Prop := (r = -1 ∧ ∀ g, c.Arr g → ¬ Inv c f g) ∨ (c.Arr r ∧ Inv c f r)
def InvEnd (c : Cat) (f : Int) (w : World) : Ending → World → Prop := fun e w' => ∃ r, InvR c f r ∧ e = .returned (.int .i64 r) ∧ Below w.heap.size w w'
def HasInv (c : Cat) (f : Int) : Prop := ∃ g, c.Arr g ∧ Inv c f g
theorem InvR.neg {c : Cat} {f r : Int} (h : InvR c f r) : r < 0 ↔ ¬ HasInv c f := by
  rcases h with ⟨rfl, h⟩ | ⟨h1, h2⟩
  · exact ⟨fun _ ⟨g, a, i⟩ => h g a i, fun _ => by decide⟩
  · exact ⟨fun q => absurd h1.1 (by omega), fun q => absurd ⟨r, h1, h2⟩ q⟩
theorem inv_none {c : Cat} {f : Int} (h : ∀ g ∈ homL c (c.T f) (c.F f), ¬ Inv c f g) : ∀ g, c.Arr g → ¬ Inv c f g := fun g hg hi => h g (homL_has hg hi.1 hi.2.1) hi
set_option maxHeartbeats 800000 in
theorem c_inverse {w : World} {b : Nat} {c : Cat} (P : PC w b c) (S : Shape c) {f : Int} (hf : c.Arr f) : Calls Try.prog 71 #[.pointer (some ⟨b, 0, none⟩), .int .i64 f] w (InvEnd c f w) := by
  obtain ⟨aF, aT, aI, aC, bF, oF, kF, bT, oT, kT, bI, oI, kI, bC, oC, kC, bR, oR, kR, V⟩ := P.opens
  obtain ⟨rfl, rfl, rfl, rfl⟩ := V.som S (by have := hf.1; have := hf.2; unfold Cat.m at this; omega)
  have c1 := V.c1
  have c2 := V.c2
  have cF := V.cF hf
  have cT := V.cT S hf
  have f0 := hf.1
  have f1 : f < (c.fr.length : Int) := hf.2
  have f2 : f < (c.to.length : Int) := by rw [S.tl]; exact f1
  obtain ⟨p0, p1⟩ := S.fO f hf
  obtain ⟨q0, q1⟩ := S.tO f hf
  have p2 : c.F f < (c.id.length : Int) := by rw [S.il]; exact p1
  have q2 : c.T f < (c.id.length : Int) := by rw [S.il]; exact q1
  have SH := Lib.hid S
  clear S P
  go_enter Try.func71, Try.ntmps71
  go_wp2_with fail
  go_quiet (fail)
  have d1 := Drawn.step (Drawn.refl w) nq
  have V1 := V.drawn d1
  clear c1 c2 cF cT
  generalize w.drewN nq = w1 at *
  go_wp2_with fail
  refine (c_hom V1.pc SH.out.tl _ _).mono ?_
  rintro e w2 ⟨u, rfl, o2, b2⟩
  obtain ⟨ao, bb, oo, cc, rfl, ha, hc⟩ := o2.is.ex
  have hL := homL_le c (c.T f) (c.F f)
  have hL2 := o2.size
  have B2 := d1.bel b2
  have V2 := V1.kept b2
  clear o2 b2 V1
  have HT := Lib.hid (fun W f g (hd : Drawn w2 W) (hf : c.Arr f) (hg : c.Arr g) => c_then (V2.drawn hd).pc SH.out hf hg)
  go_wp2_with fail
  go_loopw [8, 28] (fun _ i wr => ∃ k : Nat, k ≤ (homL c (c.T f) (c.F f)).length ∧ i = .int .i64 k ∧ Drawn w2 wr ∧ Hid (∀ j, j < k → ¬ Inv c f (gi (homL c (c.T f) (c.F f)) j))) (fun _ i _ => (homL c (c.T f) (c.F f)).length - (intOf i).toNat)
  case atStart => exact ⟨0, Nat.zero_le _, rfl, Drawn.refl _, fun j h => by omega⟩
  case round =>
    obtain ⟨k, hk, rfl, hd, hp⟩ := hrel
    by_cases hlt : k < (homL c (c.T f) (c.F f)).length
    · obtain rfl := ha (by omega)
      have cx := up_cell hd.bel0 (hc k hlt)
      obtain ⟨hg, hgF, hgT⟩ := homL_mem (gi_mem hlt)
      have c3 := (V2.drawn hd).c3
      have cI := (V2.drawn hd).cI SH.out ⟨p0, p1⟩
      have cJ := (V2.drawn hd).cI SH.out ⟨q0, q1⟩
      have HG := Lib.hid (And.intro hgF hgT)
      have HQ1 := Lib.hid (fun W (h : Drawn wr W) => calls_q (HT.out W _ _ (drawn_trans hd h) hf hg))
      have HQ2 := Lib.hid (fun W (h : Drawn wr W) => calls_q (HT.out W _ _ (drawn_trans hd h) hg hf))
      clear hgF hgT
      generalize hge : gi (homL c (c.T f) (c.F f)) k = g at *
      have HGE := Lib.hid hge
      clear hge
      by_cases i1 : c.M f g = c.I (c.F f)
      · have i1b : (c.M f g == c.I (c.F f)) = true := by simp [i1]
        have I1 := Lib.hid i1
        clear i1
        by_cases i2 : c.M g f = c.I (c.T f)
        · have i2b : (c.M g f == c.I (c.T f)) = true := by simp [i2]
          have I2 := Lib.hid i2
          clear i2
          go_wp2_with fail
          go_quiet ((first | (go_at_call 103; with_reducible exact Calls.quiet_of (HQ1.out _ (by repeat (first | exact Drawn.refl _ | refine Drawn.step ?_ _ | refine Drawn.one ?_)))) | (go_at_call 103; with_reducible exact Calls.quiet_of (HQ2.out _ (by repeat (first | exact Drawn.refl _ | refine Drawn.step ?_ _ | refine Drawn.one ?_))))))
          go_wp2_with fail
          go_ret
          exact ⟨g, .inr ⟨hg, HG.out.1, HG.out.2, I1.out, I2.out⟩, rfl, bel_next B2 (hd.step _).bel0⟩
        · have i2b : (c.M g f == c.I (c.T f)) = false := by simp [i2]
          have I2 := Lib.hid i2
          clear i2
          go_wp2_with fail
          go_quiet ((first | (go_at_call 103; with_reducible exact Calls.quiet_of (HQ1.out _ (by repeat (first | exact Drawn.refl _ | refine Drawn.step ?_ _ | refine Drawn.one ?_)))) | (go_at_call 103; with_reducible exact Calls.quiet_of (HQ2.out _ (by repeat (first | exact Drawn.refl _ | refine Drawn.step ?_ _ | refine Drawn.one ?_))))))
          go_wp2_with fail
          go_roundw
          case rel => exact ⟨k + 1, by omega, by go_num, hd.step _, fun j h => by
            by_cases e : j = k
            · subst e; rw [HGE.out]; exact fun q => I2.out q.2.2.2
            · exact hp.out j (by omega)⟩
          case measure => simp [intOf]; omega
      · have i1b : (c.M f g == c.I (c.F f)) = false := by simp [i1]
        have I1 := Lib.hid i1
        clear i1
        go_wp2_with fail
        go_quiet ((first | (go_at_call 103; with_reducible exact Calls.quiet_of (HQ1.out _ (by repeat (first | exact Drawn.refl _ | refine Drawn.step ?_ _ | refine Drawn.one ?_)))) | (go_at_call 103; with_reducible exact Calls.quiet_of (HQ2.out _ (by repeat (first | exact Drawn.refl _ | refine Drawn.step ?_ _ | refine Drawn.one ?_))))))
        go_wp2_with fail
        go_roundw
        case rel => exact ⟨k + 1, by omega, by go_num, hd.step _, fun j h => by
          by_cases e : j = k
          · subst e; rw [HGE.out]; exact fun q => I1.out q.2.2.1
          · exact hp.out j (by omega)⟩
        case measure => simp [intOf]; omega
    · have hke : (homL c (c.T f) (c.F f)).length = k := by omega
      have HN : Hid (∀ g, c.Arr g → ¬ Inv c f g) := inv_none (all_gi fun j h => hp.out j (by omega))
      clear hp
      go_wp2_with fail
      go_ret
      exact ⟨-1, .inl ⟨rfl, HN.out⟩, rfl, bel_next B2 hd.bel0⟩
/-- What IsGroupoid returns. -/
noncomputable def grpR (c : Cat) : Bool × Int := if catB c then (@decide (∀ f, c.Arr f → HasInv c f) (Classical.propDecidable _), 0) else (false, 1)
theorem grpR_t {c : Cat} (h : catB c = true) (h2 : ∀ f, c.Arr f → HasInv c f) : grpR c = (true, 0) := by
  unfold grpR; rw [if_pos h, @decide_eq_true _ (Classical.propDecidable _) h2]
theorem grpR_f {c : Cat} (h : catB c = true) (h2 : ¬ ∀ f, c.Arr f → HasInv c f) : grpR c = (false, 0) := by
  unfold grpR; rw [if_pos h, @decide_eq_false _ (Classical.propDecidable _) h2]
theorem grpR_n {c : Cat} (h : ¬ catB c = true) : grpR c = (false, 1) := by unfold grpR; rw [if_neg h]
end Go.Proofs.Ytkmkbmhpdnddnaa
