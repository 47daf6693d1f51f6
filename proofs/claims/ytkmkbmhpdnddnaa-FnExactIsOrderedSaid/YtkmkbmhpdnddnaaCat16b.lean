/-
  Chapter 10: IsOrdered: the reference.
-/
import Derived.Test.YtkmkbmhpdnddnaaCat16
namespace Go.Proofs.Ytkmkbmhpdnddnaa
open Go.RowKit
set_option maxHeartbeats 1600000 in
set_option maxRecDepth 100000 in
theorem c_l10Ordered {w : World} {v : Value} {c : Cat} (h : IC w v c) (S : Shape c) : Calls Try.prog 46 #[v] w (Ret w (.bool (ordB c))) := by
  have lF := h.lF
  have m40 := S.m40
  unfold Cat.m at m40
  have n0 := S.n0
  have n8 := S.n8
  have SH := Lib.hid S
  clear S
  obtain ⟨aF, aT, aI, aC, bF, oF, kF, bT, oT, kT, bI, oI, kI, bC, oC, kC, bR, oR, kR, rfl, V⟩ := h.boxed 29
  have B : Bel w (w.alloc (.cells #[.int .i64 c.n, .slice aF c.fr.length kF, .slice aT c.to.length kT, .slice aI c.id.length kI, .slice aC c.cm.length kC] 29)) := bel_box w _
  have ZB := Lib.hid (show (w.alloc (.cells #[.int .i64 c.n, .slice aF c.fr.length kF, .slice aT c.to.length kT, .slice aI c.id.length kI, .slice aC c.cm.length kC] 29)).heap.size = w.heap.size + 1 from by simp)
  clear h
  go_enter Try.func46, Try.ntmps46
  go_wp2_with fail
  generalize w.alloc (.cells #[.int .i64 c.n, .slice aF c.fr.length kF, .slice aT c.to.length kT, .slice aI c.id.length kI, .slice aC c.cm.length kC] 29) = w1 at *
  generalize w.heap.size = b at *
  have c0 := V.c0
  have c1 := V.c1
  have c2 := V.c2
  have c3 := V.c3
  have c4 := V.c4
  clear c0 c1 c2 c3 c4
  have wF := V.iF.wf
  have wT := V.iT.wf
  have HV := Lib.hid V
  have HIF := Lib.hid (fun f => gi_I64 wF f)
  have HIT := Lib.hid (fun f => gi_I64 wT f)
  clear wF wT V
  try go_wp2_with fail
  go_loopw [3] (fun i wr => ∃ j : Nat, (j = 0 ∨ j < c.fr.length) ∧ i = .int .i64 ((j : Int) + 1) ∧ Below w1.heap.size w1 wr ∧ Hid (∀ q : Nat, q < j → ¬ BadO c q)) (fun i _ => c.fr.length + 1 - (intOf i).toNat)
  case atStart => exact ⟨0, .inl rfl, rfl, Below.refl _ _, fun q h => by omega⟩
  case round =>
    obtain ⟨j, hj, rfl, hb, hp⟩ := hrel
    have V2 := HV.out.kept hb
    have c1 := V2.c1
    by_cases hlt : j + 1 < c.fr.length
    · have hA : c.Arr j := ⟨by omega, by unfold Cat.m; omega⟩
      have hA1 : c.Arr ((j : Int) + 1) := ⟨by omega, by unfold Cat.m; omega⟩
      obtain ⟨rfl, rfl, rfl, rfl⟩ := V2.som SH.out (by omega)
      have c2 := V2.c2
      have cFj := V2.cF hA
      have cTj := V2.cT SH.out hA
      have cFk := V2.cF hA1
      have cTk := V2.cT SH.out hA1
      have ek : ((j : Int) + 1).toNat = j + 1 := by omega
      rw [ek] at cFk cTk
      simp only [Int.toNat_natCast] at cFj cTj
      have l2 : j + 1 < c.to.length := by rw [SH.out.tl]; exact hlt
      have hltb : decide ((j : Int) + 1 < (c.fr.length : Int)) = true := by simp; omega
      clear ek
      have i1 : I64 (c.F ((j : Int) + 1)) := HIF.out _
      have i2 : I64 (c.T ((j : Int) + 1)) := HIT.out _
      have i3 : I64 (c.F j) := HIF.out _
      have i4 : I64 (c.T j) := HIT.out _
      have HLB := Lib.hid (less_bad c j)
      have z0 : (0 : Int) ≤ (j : Int) + 1 := by omega
      have z1 : (j : Int) + 1 < (c.fr.length : Int) := by omega
      have z2 : (j : Int) + 1 < (c.to.length : Int) := by omega
      have z3 : (0 : Int) ≤ (j : Int) := by omega
      have z4 : (j : Int) < (c.fr.length : Int) := by omega
      have z5 : (j : Int) < (c.to.length : Int) := by omega
      have z6 : ((j : Int) + 1).toNat = j + 1 := by omega
      have z7 : IntKind.i64.wrap (j : Int) = (j : Int) := IntWalk.i64_in _ (by omega)
      by_cases hbad : BadO c j
      · have hl := HLB.out.2 hbad
        have HG := Lib.hid (ordB_f (c := c) (fun q => q.1 j hlt hbad))
        clear hbad
        go_wp2_with fail
        go_region_held3 (fun w' => Below wr.heap.size wr w' ∧ w'.cell? ⟨b, 1, none⟩ = some (.slice (some ⟨bF, oF, none⟩) c.fr.length kF) ∧ w'.cell? ⟨b, 2, none⟩ = some (.slice (some ⟨bT, oT, none⟩) c.to.length kT) ∧ w'.cell? ⟨bF, oF + j, none⟩ = some (.int .i64 (c.F j)) ∧ w'.cell? ⟨bT, oT + j, none⟩ = some (.int .i64 (c.T j)) ∧ w'.cell? ⟨bF, oF + (j + 1), none⟩ = some (.int .i64 (c.F ((j : Int) + 1))) ∧ w'.cell? ⟨bT, oT + (j + 1), none⟩ = some (.int .i64 (c.T ((j : Int) + 1))))
          (first | exact ⟨(Drawn.one (Drawn.refl _)).bel0, c1, c2, cFj, cTj, cFk, cTk⟩ | (refine keep6 ?_ hb7; assumption) | (refine keep6 ?_ (bel_box _ _); assumption) | (refine keep6 ?_ (bel_box_d _ _); assumption) | assumption)
          (first | (go_at_call 81; (with_reducible refine (c_l01Less (xs := [c.F ((j : Int) + 1), c.T ((j : Int) + 1)]) (ys := [c.F j, c.T j]) (by first | exact ((IS.lit2v' i1 i2 _ rfl).kept (bel_box _ _)).drawn (Drawn.one (Drawn.refl _)) | exact (IS.lit2v' i1 i2 _ (by simp)).drawn (Drawn.one (Drawn.refl _))) (by first | exact ((IS.lit2v' i3 i4 _ rfl).kept (bel_box _ _)).drawn (Drawn.one (Drawn.refl _)) | exact (IS.lit2v' i3 i4 _ (by simp)).drawn (Drawn.one (Drawn.refl _)))).mono ?_); rintro e wq ⟨rfl, hb7⟩))
        all_goals
          obtain ⟨hbq, -⟩ := ‹Below wr.heap.size wr wq ∧ _›
          clear hb7 c1 c2 cFj cTj cFk cTk
          go_wp2_with fail
          go_ret
          exact ⟨by rw [HG.out]; rfl, B.next (bel_next hb hbq)⟩
      · have hl : lessL [c.F ((j : Int) + 1), c.T ((j : Int) + 1)] [c.F j, c.T j] = false := by rw [Bool.eq_false_iff]; exact fun q => hbad (HLB.out.1 q)
        have HN := Lib.hid hbad
        clear hbad
        go_wp2_with fail
        go_region_held3 (fun w' => Below wr.heap.size wr w' ∧ w'.cell? ⟨b, 1, none⟩ = some (.slice (some ⟨bF, oF, none⟩) c.fr.length kF) ∧ w'.cell? ⟨b, 2, none⟩ = some (.slice (some ⟨bT, oT, none⟩) c.to.length kT) ∧ w'.cell? ⟨bF, oF + j, none⟩ = some (.int .i64 (c.F j)) ∧ w'.cell? ⟨bT, oT + j, none⟩ = some (.int .i64 (c.T j)) ∧ w'.cell? ⟨bF, oF + (j + 1), none⟩ = some (.int .i64 (c.F ((j : Int) + 1))) ∧ w'.cell? ⟨bT, oT + (j + 1), none⟩ = some (.int .i64 (c.T ((j : Int) + 1))))
          (first | exact ⟨(Drawn.one (Drawn.refl _)).bel0, c1, c2, cFj, cTj, cFk, cTk⟩ | (refine keep6 ?_ hb7; assumption) | (refine keep6 ?_ (bel_box _ _); assumption) | (refine keep6 ?_ (bel_box_d _ _); assumption) | assumption)
          (first | (go_at_call 81; (with_reducible refine (c_l01Less (xs := [c.F ((j : Int) + 1), c.T ((j : Int) + 1)]) (ys := [c.F j, c.T j]) (by first | exact ((IS.lit2v' i1 i2 _ rfl).kept (bel_box _ _)).drawn (Drawn.one (Drawn.refl _)) | exact (IS.lit2v' i1 i2 _ (by simp)).drawn (Drawn.one (Drawn.refl _))) (by first | exact ((IS.lit2v' i3 i4 _ rfl).kept (bel_box _ _)).drawn (Drawn.one (Drawn.refl _)) | exact (IS.lit2v' i3 i4 _ (by simp)).drawn (Drawn.one (Drawn.refl _)))).mono ?_); rintro e wq ⟨rfl, hb7⟩))
        all_goals
          obtain ⟨hbq, -⟩ := ‹Below wr.heap.size wr wq ∧ _›
          clear hb7 c1 c2 cFj cTj cFk cTk
          go_wp2_with fail
          go_roundw
          case rel => exact ⟨j + 1, .inr (by omega), by go_num, bel_next hb hbq, fun q h => by
            by_cases e : q = j
            · subst e; exact HN.out
            · exact hp.out q (by omega)⟩
          case measure => simp [intOf]; omega
    · have hltb : decide ((j : Int) + 1 < (c.fr.length : Int)) = false := by simp; omega
      have HF : Hid (∀ q : Nat, q + 1 < c.fr.length → ¬ BadO c q) := fun q h => hp.out q (by omega)
      have il8 : (c.id.length : Int) = c.n := SH.out.il
      clear hp
      go_wp2_with fail
      clear c1 hltb
      go_loopw [4] (fun i wr => ∃ k : Nat, (k : Int) ≤ c.n ∧ i = .int .i64 k ∧ Below w1.heap.size w1 wr ∧ Hid (∀ x : Int, 0 ≤ x → x < k → FirstI c x)) (fun i _ => (c.n - intOf i).toNat)
      case atStart => exact ⟨0, by omega, rfl, hb, fun x _ _ => by omega⟩
      case round =>
        clear hb V2
        obtain ⟨k, hk, rfl, hb, hp⟩ := hrel
        have V2 := HV.out.kept hb
        have c0 := V2.c0
        have c1 := V2.c1
        have c2 := V2.c2
        have c3 := V2.c3
        have c4 := V2.c4
        by_cases hlk : (k : Int) < c.n
        · have hO : c.Obj k := ⟨by omega, hlk⟩
          have hm0 : 0 < c.fr.length := by have := SH.out.iA k hO; have h1 := this.1; have h2 := this.2; unfold Cat.m at h2; omega
          obtain ⟨rfl, rfl, rfl, rfl⟩ := V2.som SH.out hm0
          have cI := V2.cI SH.out hO
          simp only [Int.toNat_natCast] at cI
          have hpos := homI_pos SH.out hO
          have hlL := homL_le c k k
          have l1 : k < c.id.length := by omega
          have VI := V2.ic
          by_cases e : gi (homL c k k) 0 = c.I k
          · have eb : (gi (homL c k k) 0 != c.I k) = false := by simp [e]
            have HE := Lib.hid e
            clear e
            go_wp2_with fail
            go_region_with (go_at_call 82; (with_reducible refine (c_l02Hom (VI.kept (Drawn.one (Drawn.refl _)).bel0) SH.out.tl _ _).mono ?_); rintro e wq ⟨u, rfl, o3, hb7⟩; obtain ⟨ao, bb, oo, cc, rfl, ha, hc⟩ := o3.is.ex; obtain rfl := ha hpos; have cx := hc 0 hpos; rw [Nat.add_zero] at cx; have y3 := up_cell hb7 (up_cell (Drawn.one (Drawn.refl _)).bel0 c3); have yI := up_cell hb7 (up_cell (Drawn.one (Drawn.refl _)).bel0 cI); clear ha hc)
            all_goals
              have hbq : Below wr.heap.size wr wq := bel_next (Drawn.one (Drawn.refl _)).bel0 hb7
              clear hb7 c0 c1 c2 c3 c4 cI cx o3 y3 yI
              go_wp2_with fail
              go_roundw
              case rel => exact ⟨k + 1, by omega, by go_num, bel_next hb hbq, fun x h0 h1 => by
                by_cases e : x = k
                · subst e; exact HE.out
                · exact hp.out x h0 (by omega)⟩
              case measure => simp [intOf]; omega
          · have eb : (gi (homL c k k) 0 != c.I k) = true := by simp [e]
            have HG := Lib.hid (ordB_f (c := c) (fun q => e (q.2 k hO)))
            clear e
            go_wp2_with fail
            go_region_with (go_at_call 82; (with_reducible refine (c_l02Hom (VI.kept (Drawn.one (Drawn.refl _)).bel0) SH.out.tl _ _).mono ?_); rintro e wq ⟨u, rfl, o3, hb7⟩; obtain ⟨ao, bb, oo, cc, rfl, ha, hc⟩ := o3.is.ex; obtain rfl := ha hpos; have cx := hc 0 hpos; rw [Nat.add_zero] at cx; have y3 := up_cell hb7 (up_cell (Drawn.one (Drawn.refl _)).bel0 c3); have yI := up_cell hb7 (up_cell (Drawn.one (Drawn.refl _)).bel0 cI); clear ha hc)
            all_goals
              have hbq : Below wr.heap.size wr wq := bel_next (Drawn.one (Drawn.refl _)).bel0 hb7
              clear hb7 c0 c1 c2 c3 c4 cI cx o3 y3 yI
              go_wp2_with fail
              go_ret
              exact ⟨by rw [HG.out]; rfl, B.next (bel_next hb hbq)⟩
        · have HG : Hid (ordB c = true) := ordB_t ⟨HF.out, fun x hx => hp.out x hx.1 (by have := hx.2; omega)⟩
          clear hp c1 c2 c3 c4
          go_wp2_with fail
          go_ret
          exact ⟨by rw [HG.out]; rfl, B.next hb⟩
theorem i_IsOrdered {w : World} {v : Value} {c : Cat} (h : IC w v c) : Calls Try.prog 17 #[v] w (Ret w (.tuple #[.bool (ordR c).1, .int .i64 (ordR c).2])) := by
  obtain ⟨aF, aT, aI, aC, bF, oF, kF, bT, oT, kT, bI, oI, kI, bC, oC, kC, bR, oR, kR, rfl, V⟩ := h.boxed 29
  have B : Bel w (w.alloc (.cells #[.int .i64 c.n, .slice aF c.fr.length kF, .slice aT c.to.length kT, .slice aI c.id.length kI, .slice aC c.cm.length kC] 29)) := bel_box w _
  have ZB := Lib.hid (show (w.alloc (.cells #[.int .i64 c.n, .slice aF c.fr.length kF, .slice aT c.to.length kT, .slice aI c.id.length kI, .slice aC c.cm.length kC] 29)).heap.size = w.heap.size + 1 from by simp)
  clear h
  go_enter Try.func17, Try.ntmps17
  go_wp2_with fail
  generalize w.alloc (.cells #[.int .i64 c.n, .slice aF c.fr.length kF, .slice aT c.to.length kT, .slice aI c.id.length kI, .slice aC c.cm.length kC] 29) = w1 at *
  generalize w.heap.size = b at *
  have c0 := V.c0
  have c1 := V.c1
  have c2 := V.c2
  have c3 := V.c3
  have c4 := V.c4
  clear c0 c1 c2 c3 c4
  refine (c_isCategory V.pc).mono ?_
  rintro e w2 ⟨rfl, b2⟩
  have V2 := V.kept b2
  have B2 := B.next b2

  by_cases hc : catB c = true
  · have S := (catB_s hc).s
    have HG := Lib.hid (ordR_t hc)

    go_wp2_with fail
    refine (c_isOrdered V2.pc S).mono ?_
    rintro e w3 ⟨rfl, b3⟩
    clear S
    go_wp2_with fail
    go_ret2
    exact ⟨ret_bi HG.out, bel_next B2 b3⟩
  · have HG := Lib.hid (ordR_n hc)
    have hn : catB c = false := by simpa using hc
    clear hc
    go_wp2_with fail
    go_ret2
    exact ⟨ret_bi HG.out, B2⟩
theorem s_IsOrdered {w : World} {v : Value} {c : Cat} (h : IC w v c) : Calls Try.prog 15 #[v] w (Ret w (.tuple #[.bool (ordR c).1, .int .i64 (ordR c).2])) := by
  obtain ⟨aF, aT, aI, aC, bF, oF, kF, bT, oT, kT, bI, oI, kI, bC, oC, kC, bR, oR, kR, rfl, V⟩ := h.boxed 29
  have B : Bel w (w.alloc (.cells #[.int .i64 c.n, .slice aF c.fr.length kF, .slice aT c.to.length kT, .slice aI c.id.length kI, .slice aC c.cm.length kC] 29)) := bel_box w _
  have ZB := Lib.hid (show (w.alloc (.cells #[.int .i64 c.n, .slice aF c.fr.length kF, .slice aT c.to.length kT, .slice aI c.id.length kI, .slice aC c.cm.length kC] 29)).heap.size = w.heap.size + 1 from by simp)
  clear h
  go_enter Try.func15, Try.ntmps15
  go_wp2_with fail
  generalize w.alloc (.cells #[.int .i64 c.n, .slice aF c.fr.length kF, .slice aT c.to.length kT, .slice aI c.id.length kI, .slice aC c.cm.length kC] 29) = w1 at *
  generalize w.heap.size = b at *
  have c0 := V.c0
  have c1 := V.c1
  have c2 := V.c2
  have c3 := V.c3
  have c4 := V.c4
  refine (c_l02Is V.ic).mono ?_
  rintro e w2 ⟨rfl, b2⟩
  have V2 := V.kept b2
  have B2 := B.next b2
  clear c0 c1 c2 c3 c4
  by_cases hc : catB c = true
  · have S := (catB_s hc).s
    have HG := Lib.hid (ordR_t hc)
    have c0 := V2.c0
    have c1 := V2.c1
    have c2 := V2.c2
    have c3 := V2.c3
    have c4 := V2.c4
    go_wp2_with fail
    refine (c_l10Ordered V2.ic S).mono ?_
    rintro e w3 ⟨rfl, b3⟩
    clear S c0 c1 c2 c3 c4
    go_wp2_with fail
    go_ret2
    exact ⟨ret_bi HG.out, bel_next B2 b3⟩
  · have HG := Lib.hid (ordR_n hc)
    have hn : catB c = false := by simpa using hc
    clear hc
    go_wp2_with fail
    go_ret2
    exact ⟨ret_bi HG.out, B2⟩
end Go.Proofs.Ytkmkbmhpdnddnaa
