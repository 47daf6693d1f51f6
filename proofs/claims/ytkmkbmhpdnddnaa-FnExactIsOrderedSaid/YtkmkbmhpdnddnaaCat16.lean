/-
  Chapter 10: IsOrdered: program and reference.
-/
import Derived.Test.YtkmkbmhpdnddnaaCat7
namespace Go.Proofs.Ytkmkbmhpdnddnaa
open Go.RowKit

theorem bel_box_d (w : World) (o : Obj) : Below w.drew.heap.size w.drew (w.alloc o).drew := bel_box w.drew o
/-- Arrow j + 1 lies before arrow j. -/
def BadO (c : Cat) (j : Nat) : Prop := c.F ((j : Int) + 1) < c.F j ∨ (c.F ((j : Int) + 1) = c.F j ∧ c.T ((j : Int) + 1) < c.T j)
def FirstI (c : Cat) (x : Int) : Prop := gi (homL c x x) 0 = c.I x
def OrdP (c : Cat) : Prop := (∀ j : Nat, j + 1 < c.fr.length → ¬ BadO c j) ∧ ∀ x, c.Obj x → FirstI c x
noncomputable def ordB (c : Cat) : Bool := @decide (OrdP c) (Classical.propDecidable _)
theorem ordB_t {c : Cat} (h : OrdP c) : ordB c = true := @decide_eq_true _ (Classical.propDecidable _) h
theorem ordB_f {c : Cat} (h : ¬ OrdP c) : ordB c = false := @decide_eq_false _ (Classical.propDecidable _) h
noncomputable def ordR (c : Cat) : Bool × Int := if catB c then (ordB c, 0) else (false, 1)
theorem ordR_t {c : Cat} (h : catB c = true) : ordR c = (ordB c, 0) := by rw [ordR, if_pos h]
theorem ordR_n {c : Cat} (h : ¬ catB c = true) : ordR c = (false, 1) := by rw [ordR, if_neg h]
theorem homI_pos {c : Cat} (S : Shape c) {x : Int} (hx : c.Obj x) : 0 < (homL c x x).length := by
  have h := homL_has (S.iA x hx) (S.iE x hx).1 (S.iE x hx).2
  exact List.length_pos_of_mem h
set_option maxHeartbeats 1600000 in
set_option maxRecDepth 100000 in
theorem c_isOrdered {w1 : World} {b : Nat} {c : Cat} (P : PC w1 b c) (S : Shape c) : Calls Try.prog 50 #[.pointer (some ⟨b, 0, none⟩)] w1 (Ret w1 (.bool (ordB c))) := by
  have P0 := P
  obtain ⟨aF, aT, aI, aC, bF, oF, kF, bT, oT, kT, bI, oI, kI, bC, oC, kC, bR, oR, kR, V⟩ := P.opens
  have m40 := S.m40
  unfold Cat.m at m40
  have SH := Lib.hid S
  have HV := Lib.hid V
  have n0 := S.n0
  have n8 := S.n8
  clear S P V
  go_enter Try.func50, Try.ntmps50
  go_wp2_with fail
  go_loopw [3] (fun i wr => ∃ j : Nat, (j = 0 ∨ j < c.fr.length) ∧ i = .int .i64 ((j : Int) + 1) ∧ Below w1.heap.size w1 wr ∧ Hid (∀ q : Nat, q < j → ¬ BadO c q)) (fun i _ => c.fr.length + 1 - (intOf i).toNat)
  case atStart => exact ⟨0, .inl rfl, rfl, Below.refl _ _, fun q h => by omega⟩
  case round =>
    obtain ⟨j, hj, rfl, hb, hp⟩ := hrel
    go_wp2_with fail
    refine (c_arrows (P0.kept hb)).mono ?_
    rintro e w2 ⟨rfl, n2, rfl⟩
    have d2 : Drawn wr (wr.drewN n2) := ⟨n2, rfl⟩
    generalize wr.drewN n2 = w2 at *
    replace hb := hb.trans (d2.below _)
    have V2 := HV.out.kept hb
    have hcm : c.m = (c.fr.length : Int) := rfl
    rw [hcm]
    clear hcm d2
    by_cases hlt : j + 1 < c.fr.length
    · have hA : c.Arr j := ⟨by omega, by unfold Cat.m; omega⟩
      have hA1 : c.Arr ((j : Int) + 1) := ⟨by omega, by unfold Cat.m; omega⟩
      obtain ⟨rfl, rfl, rfl, rfl⟩ := V2.som SH.out (by omega)
      have c1 := V2.c1
      have c2 := V2.c2
      have cFj := V2.cF hA
      have cTj := V2.cT SH.out hA
      have cFk := V2.cF hA1
      have cTk := V2.cT SH.out hA1
      have ek : ((j : Int) + 1).toNat = j + 1 := by omega
      rw [ek] at cFk cTk
      simp only [Int.toNat_natCast] at cFj cTj
      have l2 : j + 1 < c.to.length := by rw [SH.out.tl]; exact hlt
      have hltb : decide ((j : Int) + 1 < (c.fr.length : Int)) = true := by simp; omega
      clear ek
      by_cases q1 : c.F ((j : Int) + 1) < c.F j
      · have q1b : decide (c.F ((j : Int) + 1) < c.F j) = true := by simp [q1]
        have HG := Lib.hid (ordB_f (c := c) (fun q => q.1 j hlt (.inl q1)))
        clear q1
        go_wp2_with fail
        go_quiet (fail)
        go_wp2_with fail
        go_ret
        exact ⟨by rw [HG.out]; rfl, bel_next hb (Drawn.step (Drawn.refl _) _).bel0⟩
      · have q1b : decide (c.F ((j : Int) + 1) < c.F j) = false := by simp; omega
        by_cases q2 : c.F j = c.F ((j : Int) + 1)
        · have q2b : (c.F j == c.F ((j : Int) + 1)) = true := by simp [q2]
          by_cases q3 : c.T ((j : Int) + 1) < c.T j
          · have q3b : decide (c.T ((j : Int) + 1) < c.T j) = true := by simp [q3]
            have HG := Lib.hid (ordB_f (c := c) (fun q => q.1 j hlt (.inr ⟨q2.symm, q3⟩)))
            clear q1 q2 q3
            go_wp2_with fail
            go_quiet (fail)
            go_wp2_with fail
            go_ret
            exact ⟨by rw [HG.out]; rfl, bel_next hb (Drawn.step (Drawn.refl _) _).bel0⟩
          · have q3b : decide (c.T ((j : Int) + 1) < c.T j) = false := by simp; omega
            have HN : Hid (¬ BadO c j) := fun h => h.elim q1 (fun h => q3 h.2)
            clear q1 q2 q3
            go_wp2_with fail
            go_quiet (fail)
            go_wp2_with fail
            go_roundw
            case rel => exact ⟨j + 1, .inr (by omega), by go_num, bel_next hb (Drawn.step (Drawn.refl _) _).bel0, fun q h => by
              by_cases e : q = j
              · subst e; exact HN.out
              · exact hp.out q (by omega)⟩
            case measure => simp [intOf]; omega
        · have q2b : (c.F j == c.F ((j : Int) + 1)) = false := by simp [q2]
          have HN : Hid (¬ BadO c j) := fun h => h.elim q1 (fun h => q2 h.1.symm)
          clear q1 q2
          go_wp2_with fail
          go_quiet (fail)
          go_wp2_with fail
          go_roundw
          case rel => exact ⟨j + 1, .inr (by omega), by go_num, bel_next hb (Drawn.step (Drawn.refl _) _).bel0, fun q h => by
            by_cases e : q = j
            · subst e; exact HN.out
            · exact hp.out q (by omega)⟩
          case measure => simp [intOf]; omega
    · have hltb : decide ((j : Int) + 1 < (c.fr.length : Int)) = false := by simp; omega
      have HF : Hid (∀ q : Nat, q + 1 < c.fr.length → ¬ BadO c q) := fun q h => hp.out q (by omega)
      clear hp
      have c3 := V2.c3
      have il8 : c.id.length ≤ 8 := by have := SH.out.il; omega
      go_wp2_with fail
      clear c3 hltb
      go_loopw [4, 5, 69] (fun _ _ i wr => ∃ k : Nat, k ≤ c.id.length ∧ i = .int .i64 k ∧ Below w1.heap.size w1 wr ∧ Hid (∀ x : Int, 0 ≤ x → x < k → FirstI c x)) (fun _ _ i _ => c.id.length - (intOf i).toNat)
      case atStart => exact ⟨0, Nat.zero_le _, rfl, hb, fun x _ _ => by omega⟩
      case round =>
        clear hb V2
        obtain ⟨k, hk, rfl, hb, hp⟩ := hrel
        have V2 := HV.out.kept hb
        by_cases hlk : k < c.id.length
        · have hO : c.Obj k := ⟨by omega, by have := SH.out.il; omega⟩
          have hm0 : 0 < c.fr.length := by have := SH.out.iA k hO; have h1 := this.1; have h2 := this.2; unfold Cat.m at h2; omega
          obtain ⟨rfl, rfl, rfl, rfl⟩ := V2.som SH.out hm0
          have cI := V2.cI SH.out hO
          simp only [Int.toNat_natCast] at cI
          have hpos := homI_pos SH.out hO
          have hlL := homL_le c k k
          go_wp2_with fail
          refine (c_hom V2.pc SH.out.tl _ _).mono ?_
          rintro e w3 ⟨u, rfl, o3, b3⟩
          obtain ⟨ao, bb, oo, cc, rfl, ha, hc⟩ := o3.is.ex
          obtain rfl := ha hpos
          have cx := hc 0 hpos
          rw [Nat.add_zero] at cx
          clear ha hc o3 cI
          by_cases e : gi (homL c k k) 0 = c.I k
          · have eb : (gi (homL c k k) 0 != c.I k) = false := by simp [e]
            have HE := Lib.hid e
            clear e
            go_wp2_with fail
            go_roundw
            case rel => exact ⟨k + 1, by omega, by go_num, bel_next hb b3, fun x h0 h1 => by
              by_cases e : x = k
              · subst e; exact HE.out
              · exact hp.out x h0 (by omega)⟩
            case measure => simp [intOf]; omega
          · have eb : (gi (homL c k k) 0 != c.I k) = true := by simp [e]
            have HG := Lib.hid (ordB_f (c := c) (fun q => e (q.2 k hO)))
            clear e
            go_wp2_with fail
            go_ret
            exact ⟨by rw [HG.out]; rfl, bel_next hb b3⟩
        · have HG : Hid (ordB c = true) := ordB_t ⟨HF.out, fun x hx => hp.out x hx.1 (by have := hx.2; have := SH.out.il; omega)⟩
          have hkb : decide ((k : Int) < (c.id.length : Int)) = false := by simp; omega
          clear hp
          go_wp2_with fail
          go_ret
          exact ⟨by rw [HG.out]; rfl, hb⟩
/-- The first list lies before the second one. -/
def lessL : List Int → List Int → Bool
  | a :: xs, b :: ys => if a = b then lessL xs ys else decide (a < b)
  | xs, ys => decide (xs.length < ys.length)
theorem lessL_step {xs ys : List Int} {k : Nat} (h : k < xs.length) (h' : k < ys.length) : lessL (xs.drop k) (ys.drop k) = if gi xs k = gi ys k then lessL (xs.drop (k + 1)) (ys.drop (k + 1)) else decide (gi xs k < gi ys k) := by
  rw [drop_gi h, drop_gi h']; rfl
theorem lessL_end {xs ys : List Int} {k : Nat} (hk : k ≤ xs.length) (hk' : k ≤ ys.length) (h : ¬ (k < xs.length ∧ k < ys.length)) : lessL (xs.drop k) (ys.drop k) = decide (xs.length < ys.length) := by
  by_cases h1 : k < xs.length
  · have h2 : k = ys.length := by omega
    subst h2
    rw [List.drop_length, drop_gi h1]
    simp [lessL]; omega
  · have h2 : k = xs.length := by omega
    subst h2
    rw [List.drop_length]
    cases hd : ys.drop xs.length with
    | nil =>
      have := congrArg List.length hd
      simp at this
      simp [lessL]; omega
    | cons a l =>
      have := congrArg List.length hd
      simp at this
      simp [lessL]; omega
theorem c_l01Less {w : World} {u v : Value} {xs ys : List Int} (h : IS w u xs) (h' : IS w v ys) : Calls Try.prog 81 #[u, v] w (Ret w (.bool (lessL xs ys))) := by
  obtain ⟨ao, bb, oo, cc, rfl, ha, hc⟩ := h.ex
  obtain ⟨ao2, bb2, oo2, cc2, rfl, ha2, hc2⟩ := h'.ex
  have hl := h.len
  have hl' := h'.len
  have HC := Lib.hid hc
  have HC2 := Lib.hid hc2
  clear h h' hc hc2
  go_enter Try.func81, Try.ntmps81
  go_wp2_with fail
  go_loopw [5] (fun i wr => ∃ k : Nat, k ≤ xs.length ∧ k ≤ ys.length ∧ i = .int .i64 k ∧ Drawn w wr ∧ Hid (lessL xs ys = lessL (xs.drop k) (ys.drop k))) (fun i _ => xs.length - (intOf i).toNat)
  case atStart => exact ⟨0, Nat.zero_le _, Nat.zero_le _, rfl, Drawn.refl _, rfl⟩
  case round =>
    obtain ⟨k, hk, hk', rfl, hd, hp⟩ := hrel
    by_cases hlt : k < xs.length ∧ k < ys.length
    · obtain ⟨h1, h2⟩ := hlt
      obtain rfl := ha (by omega)
      obtain rfl := ha2 (by omega)
      have cx := up_cell hd.bel0 (HC.out k h1)
      have cy := up_cell hd.bel0 (HC2.out k h2)
      have HS := Lib.hid (lessL_step h1 h2)
      by_cases e : gi xs k = gi ys k
      · have eb : (gi xs k != gi ys k) = false := by simp [e]
        have HE := Lib.hid e
        clear e
        go_wp2_with fail
        go_quiet (fail)
        have hd2 := Drawn.step hd nq
        generalize wr.drewN nq = wq at *
        clear cx cy
        go_wp2_with fail
        go_roundw
        case rel => exact ⟨k + 1, by omega, by omega, by go_num, hd2, by unfold Hid; rw [hp.out, HS.out, if_pos HE.out]⟩
        case measure => simp [intOf]; omega
      · have eb : (gi xs k != gi ys k) = true := by simp [e]
        have HE := Lib.hid e
        clear e
        go_wp2_with fail
        go_quiet (fail)
        have hd2 := Drawn.step hd nq
        replace cx := up_cell (Drawn.step (Drawn.refl _) nq).bel0 cx
        replace cy := up_cell (Drawn.step (Drawn.refl _) nq).bel0 cy
        generalize wr.drewN nq = wq at *
        go_wp2_with fail
        go_quiet (fail)
        go_wp2_with fail
        go_ret
        exact ⟨by rw [hp.out, HS.out, if_neg HE.out]; rfl, (Drawn.step hd2 _).bel0⟩
    · have HG := Lib.hid (lessL_end hk hk' hlt)
      by_cases h1 : k < xs.length
      · have h2 : ¬ k < ys.length := fun q => hlt ⟨h1, q⟩
        have h2b : decide ((k : Int) < (ys.length : Int)) = false := by simp; omega
        clear hlt
        go_wp2_with fail
        go_ret
        exact ⟨by rw [hp.out, HG.out]; simp, hd.bel0⟩
      · have h1b : decide ((k : Int) < (xs.length : Int)) = false := by simp; omega
        clear hlt
        go_wp2_with fail
        go_ret
        exact ⟨by rw [hp.out, HG.out]; simp, hd.bel0⟩
theorem less_bad (c : Cat) (j : Nat) : lessL [c.F ((j : Int) + 1), c.T ((j : Int) + 1)] [c.F j, c.T j] = true ↔ BadO c j := by
  unfold BadO
  by_cases h1 : c.F ((j : Int) + 1) = c.F j
  · by_cases h2 : c.T ((j : Int) + 1) = c.T j
    · simp [lessL, h1, h2]
    · simp [lessL, h1, h2]
  · simp [lessL, h1]
end Go.Proofs.Ytkmkbmhpdnddnaa
