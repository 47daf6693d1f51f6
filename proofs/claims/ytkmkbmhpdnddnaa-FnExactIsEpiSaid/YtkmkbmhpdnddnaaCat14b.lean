/-
  Chapter 5: IsMono, IsEpi: program and reference.
-/
import Derived.Test.YtkmkbmhpdnddnaaCat14
namespace Go.Proofs.Ytkmkbmhpdnddnaa
open Go.RowKit

set_option maxHeartbeats 1600000 in
theorem c_jointlyMono {w : World} {b : Nat} {c : Cat} (P : PC w b c) (S : Shape c) {f : Int} (hf : c.Arr f) {ab : Nat} (ha : w.cell? ⟨ab, 0, none⟩ = some (.int .i64 f)) :
    Calls Try.prog 93 #[.pointer (some ⟨b, 0, none⟩), .int .i64 (c.F f), .slice (some ⟨ab, 0, none⟩) 1 1] w (Ret w (.bool (monoB c f))) := by
  have B : Bel w ((w.alloc (.cells #[.pointer (some ⟨b, 0, none⟩)] 56)).alloc (.cells #[.slice (some ⟨ab, 0, none⟩) 1 1] 22)) := bel_next (bel_box _ _) (bel_box _ _)
  have J : Jn ((w.alloc (.cells #[.pointer (some ⟨b, 0, none⟩)] 56)).alloc (.cells #[.slice (some ⟨ab, 0, none⟩) 1 1] 22)) w.heap.size (w.heap.size + 1) b c f :=
    ⟨(P.kept (bel_box _ _)).kept (bel_box _ _), by simp, ab, 0, 1, by simp, up_cell (bel_next (bel_box _ _) (bel_box _ _)) ha⟩
  have n0 := S.n0
  have n8 := S.n8
  have SH := Lib.hid S
  clear S P ha
  go_enter Try.func93, Try.ntmps93
  go_wp2_with fail
  generalize ((w.alloc (.cells #[.pointer (some ⟨b, 0, none⟩)] 56)).alloc (.cells #[.slice (some ⟨ab, 0, none⟩) 1 1] 22)) = wz at *
  generalize w.heap.size = p at *
  generalize p + 1 = q at *
  go_loopw [7] (fun i wr => ∃ k : Nat, (k : Int) ≤ c.n ∧ i = .int .i64 k ∧ Below wz.heap.size wz wr ∧ Hid (∀ s : Int, 0 ≤ s → s < k → CanP (fun g => c.M g f) (homL c s (c.F f)))) (fun i _ => (c.n - intOf i).toNat)
  case atStart => exact ⟨0, by omega, rfl, Below.refl _ _, fun y _ _ => by omega⟩
  case round =>
    obtain ⟨k, hk, rfl, hb, hp⟩ := hrel
    have JR := J.kept hb
    obtain ⟨aF, aT, aI, aC, bF, oF, kF, bT, oT, kT, bI, oI, kI, bC, oC, kC, bR, oR, kR, V⟩ := JR.pc.opens
    have c0 := V.c0
    have kp := JR.kp
    obtain ⟨ab2, oo2, cc2, kq, -⟩ := JR.ex
    by_cases hlt : (k : Int) < c.n
    · cases hcb : canB (fun g => c.M g f) (homL c (k : Int) (c.F f)) with
      | true =>
        have HC := Lib.hid (canB_p hcb)
        go_wp2_with fail
        clear c0
        go_region_held3 (fun w' => Below wr.heap.size wr w' ∧ w'.cell? ⟨p, 0, none⟩ = some (.pointer (some ⟨b, 0, none⟩)) ∧ w'.cell? ⟨q, 0, none⟩ = some (.slice (some ⟨ab2, oo2, none⟩) 1 cc2))
          (first | exact ⟨(Drawn.one (Drawn.refl _)).bel0, kp, kq⟩ | (refine keep2 ?_ hb7; assumption) | (refine keep2 ?_ (bel_box _ _); assumption) | assumption)
          (first | (go_at_call 86; (with_reducible refine (c_hom (JR.kept (And.left (by assumption))).pc SH.out.tl (k : Int) (c.F f)).mono ?_); rintro e wh ⟨u1, rfl, o1, hb7⟩; obtain ⟨ah, ch, rfl⟩ := o1.own.shape) | (go_at_call 110; (with_reducible refine (c_cancelsMono o1.own (fun x hx => (homL_mem hx).1) (JR.kept (And.left (by assumption))) SH.out hf).mono ?_); rintro e wq ⟨rfl, hb7⟩))
        all_goals
          obtain ⟨hbq, -⟩ := ‹Below wr.heap.size wr wq ∧ _›
          clear o1 hb7 kp kq hcb
          go_wp2_with fail
          go_roundw
          case rel => exact ⟨k + 1, by omega, by go_num, bel_next hb hbq, fun s h0 h1 => by
            by_cases e : s = k
            · subst e; exact HC.out
            · exact hp.out s h0 (by omega)⟩
          case measure => simp [intOf]; omega
      | false =>
        have HG := Lib.hid (monoB_f (MonoP.no (canB_n hcb)))
        go_wp2_with fail
        clear c0
        go_region_held3 (fun w' => Below wr.heap.size wr w' ∧ w'.cell? ⟨p, 0, none⟩ = some (.pointer (some ⟨b, 0, none⟩)) ∧ w'.cell? ⟨q, 0, none⟩ = some (.slice (some ⟨ab2, oo2, none⟩) 1 cc2))
          (first | exact ⟨(Drawn.one (Drawn.refl _)).bel0, kp, kq⟩ | (refine keep2 ?_ hb7; assumption) | (refine keep2 ?_ (bel_box _ _); assumption) | assumption)
          (first | (go_at_call 86; (with_reducible refine (c_hom (JR.kept (And.left (by assumption))).pc SH.out.tl (k : Int) (c.F f)).mono ?_); rintro e wh ⟨u1, rfl, o1, hb7⟩; obtain ⟨ah, ch, rfl⟩ := o1.own.shape) | (go_at_call 110; (with_reducible refine (c_cancelsMono o1.own (fun x hx => (homL_mem hx).1) (JR.kept (And.left (by assumption))) SH.out hf).mono ?_); rintro e wq ⟨rfl, hb7⟩))
        all_goals
          obtain ⟨hbq, -⟩ := ‹Below wr.heap.size wr wq ∧ _›
          clear o1 hb7 kp kq hcb
          go_wp2_with fail
          go_ret
          exact ⟨by rw [HG.out]; rfl, B.next (bel_next hb hbq)⟩
    · have HG : Hid (monoB c f = true) := monoB_t (MonoP.can (fun s hs => hp.out s hs.1 (by have := hs.2; omega)) SH.out)
      clear hp
      go_wp2_with fail
      go_ret
      exact ⟨by rw [HG.out]; rfl, B.next hb⟩
theorem c_isMono {w : World} {b : Nat} {c : Cat} (P : PC w b c) (S : Shape c) {f : Int} (hf : c.Arr f) : Calls Try.prog 59 #[.pointer (some ⟨b, 0, none⟩), .int .i64 f] w (Ret w (.bool (monoB c f))) := by
  obtain ⟨aF, aT, aI, aC, bF, oF, kF, bT, oT, kT, bI, oI, kI, bC, oC, kC, bR, oR, kR, V⟩ := P.opens
  obtain ⟨rfl, rfl, rfl, rfl⟩ := V.som S (by have := hf.1; have := hf.2; unfold Cat.m at this; omega)
  have f0 := hf.1
  have f1 : f < (c.fr.length : Int) := hf.2
  have f2 : f < (c.to.length : Int) := by rw [S.tl]; exact hf.2
  have cX := V.c1
  have cE := V.cF hf
  have SH := Lib.hid S
  clear S
  go_enter Try.func59, Try.ntmps59
  go_wp2_with fail
  refine (c_jointlyMono (P.kept (bel_box _ _)) SH.out hf (by simp)).mono ?_
  rintro e w2 ⟨rfl, b2⟩
  clear cX cE
  go_wp2_with fail
  go_ret
  exact ⟨rfl, bel_next (bel_box w _) b2⟩
theorem i_IsMono {w : World} {v : Value} {c : Cat} (h : IC w v c) (f : Int) (hf : I64 f) : Calls Try.prog 24 #[v, .int .i64 f] w (Ret w (.tuple #[.bool (monoR c f).1, .int .i64 (monoR c f).2])) := by
  obtain ⟨aF, aT, aI, aC, bF, oF, kF, bT, oT, kT, bI, oI, kI, bC, oC, kC, bR, oR, kR, rfl, V⟩ := h.boxed 29
  have B : Bel w (w.alloc (.cells #[.int .i64 c.n, .slice aF c.fr.length kF, .slice aT c.to.length kT, .slice aI c.id.length kI, .slice aC c.cm.length kC] 29)) := bel_box w _
  have ZB := Lib.hid (show (w.alloc (.cells #[.int .i64 c.n, .slice aF c.fr.length kF, .slice aT c.to.length kT, .slice aI c.id.length kI, .slice aC c.cm.length kC] 29)).heap.size = w.heap.size + 1 from by simp)
  clear h
  go_enter Try.func24, Try.ntmps24
  go_wp2_with fail
  generalize w.alloc (.cells #[.int .i64 c.n, .slice aF c.fr.length kF, .slice aT c.to.length kT, .slice aI c.id.length kI, .slice aC c.cm.length kC] 29) = w1 at *
  generalize w.heap.size = b at *
  have c0 := V.c0
  have c1 := V.c1
  have c2 := V.c2
  have c3 := V.c3
  have c4 := V.c4
  clear c0 c1 c2 c3 c4
  refine (c_arrowCode (V.pc.kept (bel_box _ _)) (IS.lit1v' hf _ ZB.out)).mono ?_
  rintro e w2 ⟨rfl, b2⟩
  replace b2 := bel_next (bel_box w1 _) b2
  by_cases hc : codeA c [f] = 0
  · obtain ⟨C, fA⟩ := codeA_one hc
    have S := C.s
    have hcb : (codeA c [f] != 0) = false := by simp [hc]
    have HC := Lib.hid hc
    clear hc hf C
    go_wp2_with fail
    refine (c_isMono (V.kept b2).pc S fA).mono ?_
    rintro e w3 ⟨rfl, b3⟩
    clear S
    go_wp2_with fail
    go_ret2
    exact ⟨ret_bi (by rw [monoR, if_pos HC.out]), B.next (bel_next b2 b3)⟩
  · have hcb : (codeA c [f] != 0) = true := by simp [hc]
    have HC := Lib.hid hc
    clear hc
    go_wp2_with fail
    go_ret2
    exact ⟨ret_bi (by rw [monoR, if_neg HC.out]), B.next b2⟩
set_option maxHeartbeats 3200000 in
theorem c_l05Mono {w : World} {v : Value} {c : Cat} (h : IC w v c) (S : Shape c) {f : Int} (hf : c.Arr f) : Calls Try.prog 58 #[v, .int .i64 f] w (Ret w (.bool (monoB c f))) := by
  have lF := h.lF
  have SH := Lib.hid S
  clear S
  obtain ⟨aF, aT, aI, aC, bF, oF, kF, bT, oT, kT, bI, oI, kI, bC, oC, kC, bR, oR, kR, rfl, V⟩ := h.boxed 29
  have B : Bel w (w.alloc (.cells #[.int .i64 c.n, .slice aF c.fr.length kF, .slice aT c.to.length kT, .slice aI c.id.length kI, .slice aC c.cm.length kC] 29)) := bel_box w _
  have ZB := Lib.hid (show (w.alloc (.cells #[.int .i64 c.n, .slice aF c.fr.length kF, .slice aT c.to.length kT, .slice aI c.id.length kI, .slice aC c.cm.length kC] 29)).heap.size = w.heap.size + 1 from by simp)
  clear h
  go_enter Try.func58, Try.ntmps58
  go_wp2_with fail
  generalize w.alloc (.cells #[.int .i64 c.n, .slice aF c.fr.length kF, .slice aT c.to.length kT, .slice aI c.id.length kI, .slice aC c.cm.length kC] 29) = w1 at *
  generalize w.heap.size = b at *
  have c0 := V.c0
  have c1 := V.c1
  have c2 := V.c2
  have c3 := V.c3
  have c4 := V.c4
  clear c0 c1 c2 c3 c4
  obtain ⟨rfl, rfl, rfl, rfl⟩ := V.som SH.out (by have := hf.1; have := hf.2; unfold Cat.m at this; omega)
  have f0 := hf.1
  have f1 : f < (c.fr.length : Int) := hf.2
  have f2 : f < (c.to.length : Int) := by rw [SH.out.tl]; exact f1
  try go_wp2_with fail
  go_loopw [5, 6] (fun i _ wr => ∃ k : Nat, k ≤ c.fr.length ∧ i = .int .i64 k ∧ Below w1.heap.size w1 wr ∧ Hid (∀ x y : Int, 0 ≤ x → x < k → c.Arr y → x < y → MonoPair c f x y)) (fun i _ _ => c.fr.length - (intOf i).toNat)
  case atStart => exact ⟨0, Nat.zero_le _, rfl, Below.refl _ _, fun x y _ _ => by omega⟩
  case round =>
    obtain ⟨k, hk, rfl, hb, hp⟩ := hrel
    have c1 := (V.kept hb).c1
    by_cases hlt : k < c.fr.length
    · have hA : c.Arr k := ⟨by omega, by unfold Cat.m; omega⟩
      go_wp2_with fail
      clear c1
      go_loopw [6] (fun i wr => ∃ j : Nat, k < j ∧ j ≤ c.fr.length ∧ i = .int .i64 j ∧ Below w1.heap.size w1 wr ∧ Hid (∀ y : Int, (k : Int) < y → y < j → MonoPair c f k y)) (fun i _ => c.fr.length - (intOf i).toNat)
      case atStart => exact ⟨k + 1, by omega, by omega, by go_num, hb, fun y _ _ => by omega⟩
      case round =>
        clear hb
        obtain ⟨j, hkj, hj, rfl, hb, hp2⟩ := hrel
        have V2 := V.kept hb
        have c1 := V2.c1
        by_cases hlj : j < c.fr.length
        · have hJ : c.Arr j := ⟨by omega, by unfold Cat.m; omega⟩
          have c2 := V2.c2
          have c4 := V2.c4
          have cFk := V2.cF hA
          have cTk := V2.cT SH.out hA
          have cFj := V2.cF hJ
          have cTj := V2.cT SH.out hJ
          have cFf := V2.cF hf
          have cTf := V2.cT SH.out hf
          have cRk := V2.row SH.out hA
          have cRj := V2.row SH.out hJ
          have cMk := V2.cM SH.out hA hf
          have cMj := V2.cM SH.out hJ hf
          have l6 : k < c.cm.length := by rw [SH.out.cl]; exact hlt
          have l7 : j < c.cm.length := by rw [SH.out.cl]; exact hlj
          simp only [Int.toNat_natCast] at cFk cTk cFj cTj cRk cRj cMk cMj
          have l2 : k < c.to.length := by rw [SH.out.tl]; exact hlt
          have l3 : j < c.to.length := by rw [SH.out.tl]; exact hlj
          by_cases q1 : c.F k = c.F j
          · have q1b : (c.F k == c.F j) = true := by simp [q1]
            have Q1 := Lib.hid q1
            clear q1
            by_cases q2 : c.T k = c.F f
            · have q2b : (c.T k == c.F f) = true := by simp [q2]
              have Q2 := Lib.hid q2
              clear q2
              by_cases q3 : c.T j = c.F f
              · have q3b : (c.T j == c.F f) = true := by simp [q3]
                have Q3 := Lib.hid q3
                clear q3
                by_cases q4 : c.M k f = c.M j f
                · have q4b : (c.M k f == c.M j f) = true := by simp [q4]
                  have Q4 := Lib.hid q4
                  clear q4
                  have HG := Lib.hid (monoB_f (f := f) (fun q => q k j hA hJ (by omega) Q1.out Q2.out Q3.out Q4.out))
                  go_wp2_with fail
                  go_quiet (fail)
                  go_wp2_with fail
                  go_ret
                  exact ⟨by rw [HG.out]; rfl, B.next (bel_next hb (Drawn.step (Drawn.refl _) _).bel0)⟩
                · have q4b : (c.M k f == c.M j f) = false := by simp [q4]
                  have HN : Hid (MonoPair c f k j) := fun a1 a2 a3 a4 => q4 a4
                  clear q4
                  go_wp2_with fail
                  go_quiet (fail)
                  go_wp2_with fail
                  go_roundw
                  case rel => exact ⟨j + 1, by omega, by omega, by go_num, bel_next hb (Drawn.step (Drawn.refl _) _).bel0, fun x h1 h2 => by
                    by_cases e : x = j
                    · subst e; exact HN.out
                    · exact hp2.out x h1 (by omega)⟩
                  case measure => simp [intOf]; omega
              · have q3b : (c.T j == c.F f) = false := by simp [q3]
                have HN : Hid (MonoPair c f k j) := fun a1 a2 a3 a4 => q3 a3
                clear q3
                go_wp2_with fail
                go_quiet (fail)
                go_wp2_with fail
                go_roundw
                case rel => exact ⟨j + 1, by omega, by omega, by go_num, bel_next hb (Drawn.step (Drawn.refl _) _).bel0, fun x h1 h2 => by
                  by_cases e : x = j
                  · subst e; exact HN.out
                  · exact hp2.out x h1 (by omega)⟩
                case measure => simp [intOf]; omega
            · have q2b : (c.T k == c.F f) = false := by simp [q2]
              have HN : Hid (MonoPair c f k j) := fun a1 a2 a3 a4 => q2 a2
              clear q2
              go_wp2_with fail
              go_quiet (fail)
              go_wp2_with fail
              go_roundw
              case rel => exact ⟨j + 1, by omega, by omega, by go_num, bel_next hb (Drawn.step (Drawn.refl _) _).bel0, fun x h1 h2 => by
                by_cases e : x = j
                · subst e; exact HN.out
                · exact hp2.out x h1 (by omega)⟩
              case measure => simp [intOf]; omega
          · have q1b : (c.F k == c.F j) = false := by simp [q1]
            have HN : Hid (MonoPair c f k j) := fun a1 a2 a3 a4 => q1 a1
            clear q1
            go_wp2_with fail
            go_quiet (fail)
            go_wp2_with fail
            go_roundw
            case rel => exact ⟨j + 1, by omega, by omega, by go_num, bel_next hb (Drawn.step (Drawn.refl _) _).bel0, fun x h1 h2 => by
              by_cases e : x = j
              · subst e; exact HN.out
              · exact hp2.out x h1 (by omega)⟩
            case measure => simp [intOf]; omega
        · have HN : Hid (∀ y : Int, c.Arr y → (k : Int) < y → MonoPair c f k y) := fun y hy h1 => hp2.out y h1 (by have := hy.2; unfold Cat.m at this; omega)
          have HB2 := Lib.hid hb
          have hlb : decide ((j : Int) < (c.fr.length : Int)) = false := by simp; omega
          clear hp2 hb
          go_wp2_with fail
          go_roundw
          case rel => exact ⟨k + 1, by omega, by go_num, HB2.out, fun x y h1 h2 h3 h4 => by
            by_cases e : x = k
            · subst e; exact HN.out y h3 h4
            · exact hp.out x y h1 (by omega) h3 h4⟩
          case measure => simp [intOf]; omega
    · have HG : Hid (monoB c f = true) := monoB_t (MonoP.lt fun x y h1 h2 h3 => hp.out x y h1.1 (by have := h1.2; unfold Cat.m at this; omega) h2 h3)
      have hkb : decide ((k : Int) < (c.fr.length : Int)) = false := by simp; omega
      clear hp
      go_wp2_with fail
      go_ret
      exact ⟨by rw [HG.out]; rfl, B.next hb⟩
theorem s_IsMono {w : World} {v : Value} {c : Cat} (h : IC w v c) (f : Int) (_ : I64 f) : Calls Try.prog 23 #[v, .int .i64 f] w (Ret w (.tuple #[.bool (monoR c f).1, .int .i64 (monoR c f).2])) := by
  obtain ⟨aF, aT, aI, aC, bF, oF, kF, bT, oT, kT, bI, oI, kI, bC, oC, kC, bR, oR, kR, rfl, V⟩ := h.boxed 29
  have B : Bel w (w.alloc (.cells #[.int .i64 c.n, .slice aF c.fr.length kF, .slice aT c.to.length kT, .slice aI c.id.length kI, .slice aC c.cm.length kC] 29)) := bel_box w _
  have ZB := Lib.hid (show (w.alloc (.cells #[.int .i64 c.n, .slice aF c.fr.length kF, .slice aT c.to.length kT, .slice aI c.id.length kI, .slice aC c.cm.length kC] 29)).heap.size = w.heap.size + 1 from by simp)
  clear h
  go_enter Try.func23, Try.ntmps23
  go_wp2_with fail
  generalize w.alloc (.cells #[.int .i64 c.n, .slice aF c.fr.length kF, .slice aT c.to.length kT, .slice aI c.id.length kI, .slice aC c.cm.length kC] 29) = w1 at *
  generalize w.heap.size = b at *
  have c0 := V.c0
  have c1 := V.c1
  have c2 := V.c2
  have c3 := V.c3
  have c4 := V.c4
  refine (c_l05Code V.ic f).mono ?_
  rintro e w2 ⟨rfl, b2⟩
  have V2 := V.kept b2
  clear c0 c1 c2 c3 c4
  by_cases hc : codeA c [f] = 0
  · obtain ⟨C, fA⟩ := codeA_one hc
    have S := C.s
    have hcb : (codeA c [f] != 0) = false := by simp [hc]
    have HC := Lib.hid hc
    clear hc C
    have c0 := V2.c0
    have c1 := V2.c1
    have c2 := V2.c2
    have c3 := V2.c3
    have c4 := V2.c4
    go_wp2_with fail
    refine (c_l05Mono V2.ic S fA).mono ?_
    rintro e w3 ⟨rfl, b3⟩
    clear c0 c1 c2 c3 c4 S
    go_wp2_with fail
    go_ret2
    exact ⟨ret_bi (by rw [monoR, if_pos HC.out]), B.next (bel_next b2 b3)⟩
  · have hcb : (codeA c [f] != 0) = true := by simp [hc]
    have HC := Lib.hid hc
    clear hc
    go_wp2_with fail
    go_ret2
    exact ⟨ret_bi (by rw [monoR, if_neg HC.out]), B.next b2⟩
set_option maxHeartbeats 1600000 in
theorem c_jointlyEpi {w : World} {b : Nat} {c : Cat} (P : PC w b c) (S : Shape c) {f : Int} (hf : c.Arr f) {ab : Nat} (ha : w.cell? ⟨ab, 0, none⟩ = some (.int .i64 f)) :
    Calls Try.prog 92 #[.pointer (some ⟨b, 0, none⟩), .int .i64 (c.T f), .slice (some ⟨ab, 0, none⟩) 1 1] w (Ret w (.bool (epiB c f))) := by
  have B : Bel w ((w.alloc (.cells #[.pointer (some ⟨b, 0, none⟩)] 56)).alloc (.cells #[.slice (some ⟨ab, 0, none⟩) 1 1] 22)) := bel_next (bel_box _ _) (bel_box _ _)
  have J : Jn ((w.alloc (.cells #[.pointer (some ⟨b, 0, none⟩)] 56)).alloc (.cells #[.slice (some ⟨ab, 0, none⟩) 1 1] 22)) w.heap.size (w.heap.size + 1) b c f :=
    ⟨(P.kept (bel_box _ _)).kept (bel_box _ _), by simp, ab, 0, 1, by simp, up_cell (bel_next (bel_box _ _) (bel_box _ _)) ha⟩
  have n0 := S.n0
  have n8 := S.n8
  have SH := Lib.hid S
  clear S P ha
  go_enter Try.func92, Try.ntmps92
  go_wp2_with fail
  generalize ((w.alloc (.cells #[.pointer (some ⟨b, 0, none⟩)] 56)).alloc (.cells #[.slice (some ⟨ab, 0, none⟩) 1 1] 22)) = wz at *
  generalize w.heap.size = p at *
  generalize p + 1 = q at *
  go_loopw [7] (fun i wr => ∃ k : Nat, (k : Int) ≤ c.n ∧ i = .int .i64 k ∧ Below wz.heap.size wz wr ∧ Hid (∀ s : Int, 0 ≤ s → s < k → CanP (fun g => c.M f g) (homL c (c.T f) s))) (fun i _ => (c.n - intOf i).toNat)
  case atStart => exact ⟨0, by omega, rfl, Below.refl _ _, fun y _ _ => by omega⟩
  case round =>
    obtain ⟨k, hk, rfl, hb, hp⟩ := hrel
    have JR := J.kept hb
    obtain ⟨aF, aT, aI, aC, bF, oF, kF, bT, oT, kT, bI, oI, kI, bC, oC, kC, bR, oR, kR, V⟩ := JR.pc.opens
    have c0 := V.c0
    have kp := JR.kp
    obtain ⟨ab2, oo2, cc2, kq, -⟩ := JR.ex
    by_cases hlt : (k : Int) < c.n
    · cases hcb : canB (fun g => c.M f g) (homL c (c.T f) (k : Int)) with
      | true =>
        have HC := Lib.hid (canB_p hcb)
        go_wp2_with fail
        clear c0
        go_region_held3 (fun w' => Below wr.heap.size wr w' ∧ w'.cell? ⟨p, 0, none⟩ = some (.pointer (some ⟨b, 0, none⟩)) ∧ w'.cell? ⟨q, 0, none⟩ = some (.slice (some ⟨ab2, oo2, none⟩) 1 cc2))
          (first | exact ⟨(Drawn.one (Drawn.refl _)).bel0, kp, kq⟩ | (refine keep2 ?_ hb7; assumption) | (refine keep2 ?_ (bel_box _ _); assumption) | assumption)
          (first | (go_at_call 86; (with_reducible refine (c_hom (JR.kept (And.left (by assumption))).pc SH.out.tl (c.T f) (k : Int)).mono ?_); rintro e wh ⟨u1, rfl, o1, hb7⟩; obtain ⟨ah, ch, rfl⟩ := o1.own.shape) | (go_at_call 110; (with_reducible refine (c_cancelsEpi o1.own (fun x hx => (homL_mem hx).1) (JR.kept (And.left (by assumption))) SH.out hf).mono ?_); rintro e wq ⟨rfl, hb7⟩))
        all_goals
          obtain ⟨hbq, -⟩ := ‹Below wr.heap.size wr wq ∧ _›
          clear o1 hb7 kp kq hcb
          go_wp2_with fail
          go_roundw
          case rel => exact ⟨k + 1, by omega, by go_num, bel_next hb hbq, fun s h0 h1 => by
            by_cases e : s = k
            · subst e; exact HC.out
            · exact hp.out s h0 (by omega)⟩
          case measure => simp [intOf]; omega
      | false =>
        have HG := Lib.hid (epiB_f (EpiP.no (canB_n hcb)))
        go_wp2_with fail
        clear c0
        go_region_held3 (fun w' => Below wr.heap.size wr w' ∧ w'.cell? ⟨p, 0, none⟩ = some (.pointer (some ⟨b, 0, none⟩)) ∧ w'.cell? ⟨q, 0, none⟩ = some (.slice (some ⟨ab2, oo2, none⟩) 1 cc2))
          (first | exact ⟨(Drawn.one (Drawn.refl _)).bel0, kp, kq⟩ | (refine keep2 ?_ hb7; assumption) | (refine keep2 ?_ (bel_box _ _); assumption) | assumption)
          (first | (go_at_call 86; (with_reducible refine (c_hom (JR.kept (And.left (by assumption))).pc SH.out.tl (c.T f) (k : Int)).mono ?_); rintro e wh ⟨u1, rfl, o1, hb7⟩; obtain ⟨ah, ch, rfl⟩ := o1.own.shape) | (go_at_call 110; (with_reducible refine (c_cancelsEpi o1.own (fun x hx => (homL_mem hx).1) (JR.kept (And.left (by assumption))) SH.out hf).mono ?_); rintro e wq ⟨rfl, hb7⟩))
        all_goals
          obtain ⟨hbq, -⟩ := ‹Below wr.heap.size wr wq ∧ _›
          clear o1 hb7 kp kq hcb
          go_wp2_with fail
          go_ret
          exact ⟨by rw [HG.out]; rfl, B.next (bel_next hb hbq)⟩
    · have HG : Hid (epiB c f = true) := epiB_t (EpiP.can (fun s hs => hp.out s hs.1 (by have := hs.2; omega)) SH.out)
      clear hp
      go_wp2_with fail
      go_ret
      exact ⟨by rw [HG.out]; rfl, B.next hb⟩
theorem c_isEpi {w : World} {b : Nat} {c : Cat} (P : PC w b c) (S : Shape c) {f : Int} (hf : c.Arr f) : Calls Try.prog 57 #[.pointer (some ⟨b, 0, none⟩), .int .i64 f] w (Ret w (.bool (epiB c f))) := by
  obtain ⟨aF, aT, aI, aC, bF, oF, kF, bT, oT, kT, bI, oI, kI, bC, oC, kC, bR, oR, kR, V⟩ := P.opens
  obtain ⟨rfl, rfl, rfl, rfl⟩ := V.som S (by have := hf.1; have := hf.2; unfold Cat.m at this; omega)
  have f0 := hf.1
  have f1 : f < (c.fr.length : Int) := hf.2
  have f2 : f < (c.to.length : Int) := by rw [S.tl]; exact hf.2
  have cX := V.c2
  have cE := V.cT S hf
  have SH := Lib.hid S
  clear S
  go_enter Try.func57, Try.ntmps57
  go_wp2_with fail
  refine (c_jointlyEpi (P.kept (bel_box _ _)) SH.out hf (by simp)).mono ?_
  rintro e w2 ⟨rfl, b2⟩
  clear cX cE
  go_wp2_with fail
  go_ret
  exact ⟨rfl, bel_next (bel_box w _) b2⟩
theorem i_IsEpi {w : World} {v : Value} {c : Cat} (h : IC w v c) (f : Int) (hf : I64 f) : Calls Try.prog 22 #[v, .int .i64 f] w (Ret w (.tuple #[.bool (epiR c f).1, .int .i64 (epiR c f).2])) := by
  obtain ⟨aF, aT, aI, aC, bF, oF, kF, bT, oT, kT, bI, oI, kI, bC, oC, kC, bR, oR, kR, rfl, V⟩ := h.boxed 29
  have B : Bel w (w.alloc (.cells #[.int .i64 c.n, .slice aF c.fr.length kF, .slice aT c.to.length kT, .slice aI c.id.length kI, .slice aC c.cm.length kC] 29)) := bel_box w _
  have ZB := Lib.hid (show (w.alloc (.cells #[.int .i64 c.n, .slice aF c.fr.length kF, .slice aT c.to.length kT, .slice aI c.id.length kI, .slice aC c.cm.length kC] 29)).heap.size = w.heap.size + 1 from by simp)
  clear h
  go_enter Try.func22, Try.ntmps22
  go_wp2_with fail
  generalize w.alloc (.cells #[.int .i64 c.n, .slice aF c.fr.length kF, .slice aT c.to.length kT, .slice aI c.id.length kI, .slice aC c.cm.length kC] 29) = w1 at *
  generalize w.heap.size = b at *
  have c0 := V.c0
  have c1 := V.c1
  have c2 := V.c2
  have c3 := V.c3
  have c4 := V.c4
  clear c0 c1 c2 c3 c4
  refine (c_arrowCode (V.pc.kept (bel_box _ _)) (IS.lit1v' hf _ ZB.out)).mono ?_
  rintro e w2 ⟨rfl, b2⟩
  replace b2 := bel_next (bel_box w1 _) b2
  by_cases hc : codeA c [f] = 0
  · obtain ⟨C, fA⟩ := codeA_one hc
    have S := C.s
    have hcb : (codeA c [f] != 0) = false := by simp [hc]
    have HC := Lib.hid hc
    clear hc hf C
    go_wp2_with fail
    refine (c_isEpi (V.kept b2).pc S fA).mono ?_
    rintro e w3 ⟨rfl, b3⟩
    clear S
    go_wp2_with fail
    go_ret2
    exact ⟨ret_bi (by rw [epiR, if_pos HC.out]), B.next (bel_next b2 b3)⟩
  · have hcb : (codeA c [f] != 0) = true := by simp [hc]
    have HC := Lib.hid hc
    clear hc
    go_wp2_with fail
    go_ret2
    exact ⟨ret_bi (by rw [epiR, if_neg HC.out]), B.next b2⟩
set_option maxHeartbeats 3200000 in
theorem c_l05Epi {w : World} {v : Value} {c : Cat} (h : IC w v c) (S : Shape c) {f : Int} (hf : c.Arr f) : Calls Try.prog 55 #[v, .int .i64 f] w (Ret w (.bool (epiB c f))) := by
  have lF := h.lF
  have SH := Lib.hid S
  clear S
  obtain ⟨aF, aT, aI, aC, bF, oF, kF, bT, oT, kT, bI, oI, kI, bC, oC, kC, bR, oR, kR, rfl, V⟩ := h.boxed 29
  have B : Bel w (w.alloc (.cells #[.int .i64 c.n, .slice aF c.fr.length kF, .slice aT c.to.length kT, .slice aI c.id.length kI, .slice aC c.cm.length kC] 29)) := bel_box w _
  have ZB := Lib.hid (show (w.alloc (.cells #[.int .i64 c.n, .slice aF c.fr.length kF, .slice aT c.to.length kT, .slice aI c.id.length kI, .slice aC c.cm.length kC] 29)).heap.size = w.heap.size + 1 from by simp)
  clear h
  go_enter Try.func55, Try.ntmps55
  go_wp2_with fail
  generalize w.alloc (.cells #[.int .i64 c.n, .slice aF c.fr.length kF, .slice aT c.to.length kT, .slice aI c.id.length kI, .slice aC c.cm.length kC] 29) = w1 at *
  generalize w.heap.size = b at *
  have c0 := V.c0
  have c1 := V.c1
  have c2 := V.c2
  have c3 := V.c3
  have c4 := V.c4
  clear c0 c1 c2 c3 c4
  obtain ⟨rfl, rfl, rfl, rfl⟩ := V.som SH.out (by have := hf.1; have := hf.2; unfold Cat.m at this; omega)
  have f0 := hf.1
  have f1 : f < (c.fr.length : Int) := hf.2
  have f2 : f < (c.to.length : Int) := by rw [SH.out.tl]; exact f1
  try go_wp2_with fail
  go_loopw [5, 6] (fun i _ wr => ∃ k : Nat, k ≤ c.fr.length ∧ i = .int .i64 k ∧ Below w1.heap.size w1 wr ∧ Hid (∀ x y : Int, 0 ≤ x → x < k → c.Arr y → x < y → EpiPair c f x y)) (fun i _ _ => c.fr.length - (intOf i).toNat)
  case atStart => exact ⟨0, Nat.zero_le _, rfl, Below.refl _ _, fun x y _ _ => by omega⟩
  case round =>
    obtain ⟨k, hk, rfl, hb, hp⟩ := hrel
    have c1 := (V.kept hb).c1
    by_cases hlt : k < c.fr.length
    · have hA : c.Arr k := ⟨by omega, by unfold Cat.m; omega⟩
      go_wp2_with fail
      clear c1
      go_loopw [6] (fun i wr => ∃ j : Nat, k < j ∧ j ≤ c.fr.length ∧ i = .int .i64 j ∧ Below w1.heap.size w1 wr ∧ Hid (∀ y : Int, (k : Int) < y → y < j → EpiPair c f k y)) (fun i _ => c.fr.length - (intOf i).toNat)
      case atStart => exact ⟨k + 1, by omega, by omega, by go_num, hb, fun y _ _ => by omega⟩
      case round =>
        clear hb
        obtain ⟨j, hkj, hj, rfl, hb, hp2⟩ := hrel
        have V2 := V.kept hb
        have c1 := V2.c1
        by_cases hlj : j < c.fr.length
        · have hJ : c.Arr j := ⟨by omega, by unfold Cat.m; omega⟩
          have c2 := V2.c2
          have c4 := V2.c4
          have cFk := V2.cF hA
          have cTk := V2.cT SH.out hA
          have cFj := V2.cF hJ
          have cTj := V2.cT SH.out hJ
          have cFf := V2.cF hf
          have cTf := V2.cT SH.out hf
          have cRk := V2.row SH.out hf
          have cRj : (0 : Nat) = 0 := rfl
          have cMk := V2.cM SH.out hf hA
          have cMj := V2.cM SH.out hf hJ
          have l6 : f < (c.cm.length : Int) := by rw [SH.out.cl]; exact f1
          have l7 : (0 : Nat) = 0 := rfl
          simp only [Int.toNat_natCast] at cFk cTk cFj cTj cMk cMj
          have l2 : k < c.to.length := by rw [SH.out.tl]; exact hlt
          have l3 : j < c.to.length := by rw [SH.out.tl]; exact hlj
          by_cases q1 : c.T k = c.T j
          · have q1b : (c.T k == c.T j) = true := by simp [q1]
            have Q1 := Lib.hid q1
            clear q1
            by_cases q2 : c.F k = c.T f
            · have q2b : (c.F k == c.T f) = true := by simp [q2]
              have Q2 := Lib.hid q2
              clear q2
              by_cases q3 : c.F j = c.T f
              · have q3b : (c.F j == c.T f) = true := by simp [q3]
                have Q3 := Lib.hid q3
                clear q3
                by_cases q4 : c.M f k = c.M f j
                · have q4b : (c.M f k == c.M f j) = true := by simp [q4]
                  have Q4 := Lib.hid q4
                  clear q4
                  have HG := Lib.hid (epiB_f (f := f) (fun q => q k j hA hJ (by omega) Q1.out Q2.out Q3.out Q4.out))
                  go_wp2_with fail
                  go_quiet (fail)
                  go_wp2_with fail
                  go_ret
                  exact ⟨by rw [HG.out]; rfl, B.next (bel_next hb (Drawn.step (Drawn.refl _) _).bel0)⟩
                · have q4b : (c.M f k == c.M f j) = false := by simp [q4]
                  have HN : Hid (EpiPair c f k j) := fun a1 a2 a3 a4 => q4 a4
                  clear q4
                  go_wp2_with fail
                  go_quiet (fail)
                  go_wp2_with fail
                  go_roundw
                  case rel => exact ⟨j + 1, by omega, by omega, by go_num, bel_next hb (Drawn.step (Drawn.refl _) _).bel0, fun x h1 h2 => by
                    by_cases e : x = j
                    · subst e; exact HN.out
                    · exact hp2.out x h1 (by omega)⟩
                  case measure => simp [intOf]; omega
              · have q3b : (c.F j == c.T f) = false := by simp [q3]
                have HN : Hid (EpiPair c f k j) := fun a1 a2 a3 a4 => q3 a3
                clear q3
                go_wp2_with fail
                go_quiet (fail)
                go_wp2_with fail
                go_roundw
                case rel => exact ⟨j + 1, by omega, by omega, by go_num, bel_next hb (Drawn.step (Drawn.refl _) _).bel0, fun x h1 h2 => by
                  by_cases e : x = j
                  · subst e; exact HN.out
                  · exact hp2.out x h1 (by omega)⟩
                case measure => simp [intOf]; omega
            · have q2b : (c.F k == c.T f) = false := by simp [q2]
              have HN : Hid (EpiPair c f k j) := fun a1 a2 a3 a4 => q2 a2
              clear q2
              go_wp2_with fail
              go_quiet (fail)
              go_wp2_with fail
              go_roundw
              case rel => exact ⟨j + 1, by omega, by omega, by go_num, bel_next hb (Drawn.step (Drawn.refl _) _).bel0, fun x h1 h2 => by
                by_cases e : x = j
                · subst e; exact HN.out
                · exact hp2.out x h1 (by omega)⟩
              case measure => simp [intOf]; omega
          · have q1b : (c.T k == c.T j) = false := by simp [q1]
            have HN : Hid (EpiPair c f k j) := fun a1 a2 a3 a4 => q1 a1
            clear q1
            go_wp2_with fail
            go_quiet (fail)
            go_wp2_with fail
            go_roundw
            case rel => exact ⟨j + 1, by omega, by omega, by go_num, bel_next hb (Drawn.step (Drawn.refl _) _).bel0, fun x h1 h2 => by
              by_cases e : x = j
              · subst e; exact HN.out
              · exact hp2.out x h1 (by omega)⟩
            case measure => simp [intOf]; omega
        · have HN : Hid (∀ y : Int, c.Arr y → (k : Int) < y → EpiPair c f k y) := fun y hy h1 => hp2.out y h1 (by have := hy.2; unfold Cat.m at this; omega)
          have HB2 := Lib.hid hb
          have hlb : decide ((j : Int) < (c.fr.length : Int)) = false := by simp; omega
          clear hp2 hb
          go_wp2_with fail
          go_roundw
          case rel => exact ⟨k + 1, by omega, by go_num, HB2.out, fun x y h1 h2 h3 h4 => by
            by_cases e : x = k
            · subst e; exact HN.out y h3 h4
            · exact hp.out x y h1 (by omega) h3 h4⟩
          case measure => simp [intOf]; omega
    · have HG : Hid (epiB c f = true) := epiB_t (EpiP.lt fun x y h1 h2 h3 => hp.out x y h1.1 (by have := h1.2; unfold Cat.m at this; omega) h2 h3)
      have hkb : decide ((k : Int) < (c.fr.length : Int)) = false := by simp; omega
      clear hp
      go_wp2_with fail
      go_ret
      exact ⟨by rw [HG.out]; rfl, B.next hb⟩
theorem s_IsEpi {w : World} {v : Value} {c : Cat} (h : IC w v c) (f : Int) (_ : I64 f) : Calls Try.prog 21 #[v, .int .i64 f] w (Ret w (.tuple #[.bool (epiR c f).1, .int .i64 (epiR c f).2])) := by
  obtain ⟨aF, aT, aI, aC, bF, oF, kF, bT, oT, kT, bI, oI, kI, bC, oC, kC, bR, oR, kR, rfl, V⟩ := h.boxed 29
  have B : Bel w (w.alloc (.cells #[.int .i64 c.n, .slice aF c.fr.length kF, .slice aT c.to.length kT, .slice aI c.id.length kI, .slice aC c.cm.length kC] 29)) := bel_box w _
  have ZB := Lib.hid (show (w.alloc (.cells #[.int .i64 c.n, .slice aF c.fr.length kF, .slice aT c.to.length kT, .slice aI c.id.length kI, .slice aC c.cm.length kC] 29)).heap.size = w.heap.size + 1 from by simp)
  clear h
  go_enter Try.func21, Try.ntmps21
  go_wp2_with fail
  generalize w.alloc (.cells #[.int .i64 c.n, .slice aF c.fr.length kF, .slice aT c.to.length kT, .slice aI c.id.length kI, .slice aC c.cm.length kC] 29) = w1 at *
  generalize w.heap.size = b at *
  have c0 := V.c0
  have c1 := V.c1
  have c2 := V.c2
  have c3 := V.c3
  have c4 := V.c4
  refine (c_l05Code V.ic f).mono ?_
  rintro e w2 ⟨rfl, b2⟩
  have V2 := V.kept b2
  clear c0 c1 c2 c3 c4
  by_cases hc : codeA c [f] = 0
  · obtain ⟨C, fA⟩ := codeA_one hc
    have S := C.s
    have hcb : (codeA c [f] != 0) = false := by simp [hc]
    have HC := Lib.hid hc
    clear hc C
    have c0 := V2.c0
    have c1 := V2.c1
    have c2 := V2.c2
    have c3 := V2.c3
    have c4 := V2.c4
    go_wp2_with fail
    refine (c_l05Epi V2.ic S fA).mono ?_
    rintro e w3 ⟨rfl, b3⟩
    clear c0 c1 c2 c3 c4 S
    go_wp2_with fail
    go_ret2
    exact ⟨ret_bi (by rw [epiR, if_pos HC.out]), B.next (bel_next b2 b3)⟩
  · have hcb : (codeA c [f] != 0) = true := by simp [hc]
    have HC := Lib.hid hc
    clear hc
    go_wp2_with fail
    go_ret2
    exact ⟨ret_bi (by rw [epiR, if_neg HC.out]), B.next b2⟩
end Go.Proofs.Ytkmkbmhpdnddnaa
