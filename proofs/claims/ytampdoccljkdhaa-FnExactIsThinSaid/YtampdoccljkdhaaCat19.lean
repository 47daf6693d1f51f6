/-
  Chapter 2: IsThin: program and reference.
-/
import Derived.Test.YtampdoccljkdhaaCat7
import Derived.Test.YtampdoccljkdhaaThinT
namespace Go.Proofs.Ytampdoccljkdhaa
open Go.RowKit Go.Maps

def SameE (c : Cat) (f g : Nat) : Prop := c.F f = c.F g ∧ c.T f = c.T g
def ThinP (c : Cat) : Prop := ∀ f g : Nat, f < g → g < c.fr.length → ¬ SameE c f g
noncomputable def thinB (c : Cat) : Bool := @decide (ThinP c) (Classical.propDecidable _)
theorem thinB_t {c : Cat} (h : ThinP c) : thinB c = true := @decide_eq_true _ (Classical.propDecidable _) h
theorem thinB_f {c : Cat} (h : ¬ ThinP c) : thinB c = false := @decide_eq_false _ (Classical.propDecidable _) h
noncomputable def thinR (c : Cat) : Bool × Int := if catB c then (thinB c, 0) else (false, 1)
theorem thinR_t {c : Cat} (h : catB c = true) : thinR c = (thinB c, 0) := by rw [thinR, if_pos h]
theorem thinR_n {c : Cat} (h : ¬ catB c = true) : thinR c = (false, 1) := by rw [thinR, if_neg h]
/-- The ends of the first k arrows. -/
def seenE (c : Cat) (k : Nat) (p q : Int) : Bool := (List.range k).any fun f => c.F (f : Nat) == p && c.T (f : Nat) == q
theorem seenE_iff {c : Cat} {k : Nat} {p q : Int} : seenE c k p q = true ↔ ∃ f : Nat, f < k ∧ c.F f = p ∧ c.T f = q := by
  simp [seenE]
theorem seenE_succ (c : Cat) (k : Nat) : (fun p q => if p = c.F k ∧ q = c.T k then true else seenE c k p q) = seenE c (k + 1) := by
  funext p q
  by_cases e : p = c.F k ∧ q = c.T k
  · rw [if_pos e]
    exact (seenE_iff.2 ⟨k, by omega, e.1.symm, e.2.symm⟩).symm
  · rw [if_neg e]
    cases h : seenE c (k + 1) p q with
    | true =>
      obtain ⟨f, h1, h2, h3⟩ := seenE_iff.1 h
      by_cases e2 : f = k
      · subst e2; exact absurd ⟨h2.symm, h3.symm⟩ e
      · exact seenE_iff.2 ⟨f, by omega, h2, h3⟩
    | false =>
      cases h2 : seenE c k p q with
      | false => rfl
      | true =>
        obtain ⟨f, h3, h4⟩ := seenE_iff.1 h2
        rw [seenE_iff.2 ⟨f, by omega, h4⟩] at h
        cases h
set_option maxHeartbeats 1600000 in
theorem c_isThin {w : World} {b : Nat} {c : Cat} (P : PC w b c) (S : Shape c) : Calls Try.prog 59 #[.pointer (some ⟨b, 0, none⟩)] w (Ret w (.bool (thinB c))) := by
  have P0 := P
  obtain ⟨aF, aT, aI, aC, bF, oF, kF, bT, oT, kT, bI, oI, kI, bC, oC, kC, bR, oR, kR, V⟩ := P.opens
  have wF := V.iF.wf
  have wT := V.iT.wf
  have HIF := Lib.hid (fun f => gi_I64 wF f)
  have HIT := Lib.hid (fun f => gi_I64 wT f)
  have m40 : c.fr.length ≤ 40 := by have := S.m40; unfold Cat.m at this; omega
  have c1 := V.c1
  have lb : b < w.heap.size := World.block_lt_of_cell? _ _ c1
  have SH := Lib.hid S
  have hmm := @run_makeMap Try.prog
  clear S P wF wT V
  go_enter Try.func59, Try.ntmps59
  go_wp2_with fail
  clear hmm c1
  go_loopw [4, 5, 12] (fun _ _ i wr => ∃ k : Nat, k ≤ c.fr.length ∧ i = .int .i64 k ∧ Below w.heap.size w wr ∧ MapE wr w.heap.size k (seenE c k) ∧ Hid (∀ f g : Nat, f < g → g < k → ¬ SameE c f g)) (fun _ _ i _ => c.fr.length - (intOf i).toNat)
  case atStart => exact ⟨0, Nat.zero_le _, rfl, bel_box _ _, by have := MapE.made w; exact this, fun f g _ _ => by omega⟩
  case round =>
    obtain ⟨k, hk, rfl, hb, hm, hp⟩ := hrel
    by_cases hlt : k < c.fr.length
    · have hA : c.Arr k := ⟨by omega, by unfold Cat.m; omega⟩
      have i1 : I64 (c.F k) := HIF.out _
      have i2 : I64 (c.T k) := HIT.out _
      have hw0 := hb.size
      have hm1 := hm.lt
      go_wp2_with fail
      refine (c_ends (P0.kept hb) SH.out.tl hA).mono ?_
      rintro e w4 ⟨rfl, b4⟩
      replace hb := bel_next hb b4
      replace hm := hm.kept b4
      have hm2 := hm.lt
      have hm5 := hm.kept (bel_box w4 (.cells #[.int .i64 (c.F k), .int .i64 (c.T k)] 81))
      have hb5 := bel_next hb (bel_box w4 (.cells #[.int .i64 (c.F k), .int .i64 (c.T k)] 81))
      have hlk := hm5.look i1 i2
      cases hs : seenE c k (c.F k) (c.T k) with
      | true =>
        obtain ⟨f, f1, f2, f3⟩ := seenE_iff.1 hs
        have HG := Lib.hid (thinB_f (c := c) (fun q => q f k f1 hlt ⟨f2, f3⟩))
        rw [hs] at hlk
        clear hm hm5 hs f1 f2 f3
        go_wp2_with fail
        go_ret
        exact ⟨by rw [HG.out]; rfl, hb5⟩
      | false =>
        have HN : Hid (∀ f : Nat, f < k → ¬ SameE c f k) := fun f hf q => by
          have := seenE_iff.2 ⟨f, hf, q.1, q.2⟩
          rw [hs] at this
          cases this
        rw [hs] at hlk
        have HM := Lib.hid hm5
        have HB := Lib.hid hb5
        have HBW := Lib.hid hb
        clear hm hm5 hs hb5 hb
        go_wp2_with (at_mapUpdate; refine hold ?_)
        clear hlk
        refine thinPut HM.out i1 i2 (by omega) (by rfl) _ _ _ (by rfl) (by rfl) (by rfl) (by rfl) ?_
        intro w6 hm6 hg6
        rw [seenE_succ] at hm6
        have hb6 : Below w.heap.size w w6 := HB.out.grown hg6 HB.out.size (fun k hk => by cases hk; exact Nat.le_refl _)
        have HB6 := Lib.hid hb6
        have HM6 := Lib.hid hm6
        clear hg6 HM HB hb6 hm6
        go_wp2_with fail
        go_roundw
        case rel => exact ⟨k + 1, by omega, by go_num, HB6.out, HM6.out, fun f g h1 h2 => by
          by_cases e : g = k
          · subst e; exact HN.out f h1
          · exact hp.out f g h1 (by omega)⟩
        case measure => simp [intOf]; omega
    · have HG : Hid (thinB c = true) := thinB_t fun f g h1 h2 => hp.out f g h1 (by omega)
      have hkb : decide ((k : Int) < (c.fr.length : Int)) = false := by simp; omega
      clear hp
      go_wp2_with fail
      go_ret
      exact ⟨by rw [HG.out]; rfl, hb⟩
theorem i_IsThin {w : World} {v : Value} {c : Cat} (h : IC w v c) : Calls Try.prog 25 #[v] w (Ret w (.tuple #[.bool (thinR c).1, .int .i64 (thinR c).2])) := by
  obtain ⟨aF, aT, aI, aC, bF, oF, kF, bT, oT, kT, bI, oI, kI, bC, oC, kC, bR, oR, kR, rfl, V⟩ := h.boxed 28
  have B : Bel w (w.alloc (.cells #[.int .i64 c.n, .slice aF c.fr.length kF, .slice aT c.to.length kT, .slice aI c.id.length kI, .slice aC c.cm.length kC] 28)) := bel_box w _
  have ZB := Lib.hid (show (w.alloc (.cells #[.int .i64 c.n, .slice aF c.fr.length kF, .slice aT c.to.length kT, .slice aI c.id.length kI, .slice aC c.cm.length kC] 28)).heap.size = w.heap.size + 1 from by simp)
  clear h
  go_enter Try.func25, Try.ntmps25
  go_wp2_with fail
  generalize w.alloc (.cells #[.int .i64 c.n, .slice aF c.fr.length kF, .slice aT c.to.length kT, .slice aI c.id.length kI, .slice aC c.cm.length kC] 28) = w1 at *
  generalize w.heap.size = b at *
  have c0 := V.c0
  have c1 := V.c1
  have c2 := V.c2
  have c3 := V.c3
  have c4 := V.c4
  clear c0 c1 c2 c3 c4
  refine (c_isCategory V.pc).mono ?_
  rintro e w2 ⟨rfl, b2⟩
  have V2 := V.kept b2
  have B2 := B.next b2
  by_cases hc : catB c = true
  · have S := (catB_s hc).s
    have HG := Lib.hid (thinR_t hc)
    go_wp2_with fail
    refine (c_isThin V2.pc S).mono ?_
    rintro e w3 ⟨rfl, b3⟩
    clear S
    go_wp2_with fail
    go_ret2
    exact ⟨ret_bi HG.out, bel_next B2 b3⟩
  · have HG := Lib.hid (thinR_n hc)
    have hn : catB c = false := by simpa using hc
    clear hc
    go_wp2_with fail
    go_ret2
    exact ⟨ret_bi HG.out, B2⟩
set_option maxHeartbeats 1600000 in
theorem s_IsThin {w : World} {v : Value} {c : Cat} (h : IC w v c) : Calls Try.prog 24 #[v] w (Ret w (.tuple #[.bool (thinR c).1, .int .i64 (thinR c).2])) := by
  obtain ⟨aF, aT, aI, aC, bF, oF, kF, bT, oT, kT, bI, oI, kI, bC, oC, kC, bR, oR, kR, rfl, V⟩ := h.boxed 28
  have B : Bel w (w.alloc (.cells #[.int .i64 c.n, .slice aF c.fr.length kF, .slice aT c.to.length kT, .slice aI c.id.length kI, .slice aC c.cm.length kC] 28)) := bel_box w _
  have ZB := Lib.hid (show (w.alloc (.cells #[.int .i64 c.n, .slice aF c.fr.length kF, .slice aT c.to.length kT, .slice aI c.id.length kI, .slice aC c.cm.length kC] 28)).heap.size = w.heap.size + 1 from by simp)
  clear h
  go_enter Try.func24, Try.ntmps24
  go_wp2_with fail
  generalize w.alloc (.cells #[.int .i64 c.n, .slice aF c.fr.length kF, .slice aT c.to.length kT, .slice aI c.id.length kI, .slice aC c.cm.length kC] 28) = w1 at *
  generalize w.heap.size = b at *
  have c0 := V.c0
  have c1 := V.c1
  have c2 := V.c2
  have c3 := V.c3
  have c4 := V.c4
  refine (c_l02Is V.ic).mono ?_
  rintro e w2 ⟨rfl, b2⟩
  have V2 := V.kept b2
  have BB := B.next b2
  clear c0 c1 c2 c3 c4
  by_cases hc : catB c = true
  · have HC := Lib.hid hc
    have SH := Lib.hid (catB_s hc).s
    have m40 : c.fr.length ≤ 40 := by have := SH.out.m40; unfold Cat.m at this; omega
    have HV := Lib.hid V2
    have HBB := Lib.hid BB
    clear V V2 BB B b2
    go_wp2_with fail
    clear hc
    go_loopw [4, 5] (fun i _ wr => ∃ k : Nat, k ≤ c.fr.length ∧ i = .int .i64 k ∧ Below w2.heap.size w2 wr ∧ Hid (∀ f g : Nat, f < g → g < k → ¬ SameE c f g)) (fun i _ _ => c.fr.length - (intOf i).toNat)
    case atStart => exact ⟨0, Nat.zero_le _, rfl, Below.refl _ _, fun f g _ _ => by omega⟩
    case round =>
      obtain ⟨k, hk, rfl, hb, hp⟩ := hrel
      have c1 := (HV.out.kept hb).c1
      by_cases hlt : k < c.fr.length
      · have hA : c.Arr k := ⟨by omega, by unfold Cat.m; omega⟩
        go_wp2_with fail
        clear c1
        go_loopw [5] (fun i wr => ∃ j : Nat, j ≤ k ∧ i = .int .i64 j ∧ Below w2.heap.size w2 wr ∧ Hid (∀ f : Nat, f < j → ¬ SameE c f k)) (fun i _ => k - (intOf i).toNat)
        case atStart => exact ⟨0, Nat.zero_le _, rfl, hb, fun f _ => by omega⟩
        case round =>
          clear hb
          obtain ⟨j, hj, rfl, hb, hp2⟩ := hrel
          have V3 := HV.out.kept hb
          obtain ⟨rfl, rfl, rfl, rfl⟩ := V3.som SH.out (by omega)
          by_cases hlj : j < k
          · have hB : c.Arr j := ⟨by omega, by unfold Cat.m; omega⟩
            have c1 := V3.c1
            have c2 := V3.c2
            have cFk := V3.cF hA
            have cTk := V3.cT SH.out hA
            have cFj := V3.cF hB
            have cTj := V3.cT SH.out hB
            simp only [Int.toNat_natCast] at cFk cTk cFj cTj
            have l2 : k < c.to.length := by rw [SH.out.tl]; exact hlt
            have l3 : j < c.fr.length := by omega
            have l4 : j < c.to.length := by omega
            by_cases q1 : c.F k = c.F j
            · have q1b : (c.F k == c.F j) = true := by simp [q1]
              by_cases q2 : c.T k = c.T j
              · have q2b : (c.T k == c.T j) = true := by simp [q2]
                have HG : Hid (thinR c = (false, 0)) := by unfold Hid; rw [thinR_t HC.out, thinB_f (fun q => q j k hlj hlt ⟨q1.symm, q2.symm⟩)]
                clear q1 q2
                go_wp2_with fail
                go_quiet (fail)
                go_wp2_with fail
                go_ret2
                exact ⟨ret_bi HG.out, bel_next HBB.out (bel_next hb (Drawn.step (Drawn.refl _) _).bel0)⟩
              · have q2b : (c.T k == c.T j) = false := by simp [q2]
                have HN : Hid (¬ SameE c j k) := fun q => q2 q.2.symm
                clear q1 q2
                go_wp2_with fail
                go_quiet (fail)
                go_wp2_with fail
                go_roundw
                case rel => exact ⟨j + 1, by omega, by go_num, bel_next hb (Drawn.step (Drawn.refl _) _).bel0, fun f h => by
                  by_cases e : f = j
                  · subst e; exact HN.out
                  · exact hp2.out f (by omega)⟩
                case measure => simp [intOf]; omega
            · have q1b : (c.F k == c.F j) = false := by simp [q1]
              have HN : Hid (¬ SameE c j k) := fun q => q1 q.1.symm
              clear q1
              go_wp2_with fail
              go_quiet (fail)
              go_wp2_with fail
              go_roundw
              case rel => exact ⟨j + 1, by omega, by go_num, bel_next hb (Drawn.step (Drawn.refl _) _).bel0, fun f h => by
                by_cases e : f = j
                · subst e; exact HN.out
                · exact hp2.out f (by omega)⟩
              case measure => simp [intOf]; omega
          · have HB := Lib.hid hb
            have HP : Hid (∀ f : Nat, f < k → ¬ SameE c f k) := fun f h => hp2.out f (by omega)
            have hlb : decide ((j : Int) < (k : Int)) = false := by simp; omega
            clear hb hp2 V3
            go_wp2_with fail
            go_roundw
            case rel => exact ⟨k + 1, by omega, by go_num, HB.out, fun f g h1 h2 => by
              by_cases e : g = k
              · subst e; exact HP.out f h1
              · exact hp.out f g h1 (by omega)⟩
            case measure => simp [intOf]; omega
      · have HG : Hid (thinR c = (true, 0)) := by unfold Hid; rw [thinR_t HC.out, thinB_t fun f g h1 h2 => hp.out f g h1 (by omega)]
        have hkb : decide ((k : Int) < (c.fr.length : Int)) = false := by simp; omega
        clear hp
        go_wp2_with fail
        go_ret2
        exact ⟨ret_bi HG.out, bel_next HBB.out hb⟩
  · have HG := Lib.hid (thinR_n hc)
    have hn : catB c = false := by simpa using hc
    clear hc
    go_wp2_with fail
    go_ret2
    exact ⟨ret_bi HG.out, BB⟩
end Go.Proofs.Ytampdoccljkdhaa
