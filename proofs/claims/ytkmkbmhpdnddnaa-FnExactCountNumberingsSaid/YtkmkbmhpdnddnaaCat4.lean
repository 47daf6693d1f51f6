/-
  Chapter 2: composites, the first fault of a shape, categories: program and reference.
-/
import Derived.Test.YtkmkbmhpdnddnaaCat3
namespace Go.Proofs.Ytkmkbmhpdnddnaa
open Go.RowKit

def Unit1 (c : Cat) (f : Int) : Prop := c.M (c.I (c.F f)) f = f ∧ c.M f (c.I (c.T f)) = f
def As (c : Cat) (f g h : Int) : Prop := c.T f = c.F g → c.T g = c.F h → c.M (c.M f g) h = c.M f (c.M g h)
structure CatOk (c : Cat) : Prop where
  s : Shape c
  u : ∀ f, c.Arr f → Unit1 c f
  a : ∀ f g h, c.Arr f → c.Arr g → c.Arr h → As c f g h
noncomputable def catB (c : Cat) : Bool := @decide (CatOk c) (Classical.propDecidable _)
theorem catB_t {c : Cat} (h : CatOk c) : catB c = true := @decide_eq_true _ (Classical.propDecidable _) h
theorem catB_f {c : Cat} (h : ¬ CatOk c) : catB c = false := @decide_eq_false _ (Classical.propDecidable _) h
theorem catB_s {c : Cat} (h : catB c = true) : CatOk c := @of_decide_eq_true _ (Classical.propDecidable _) h
/-- The first fault. -/
def Flt1 (c : Cat) (r : Int × Int × Int × Int) : Prop := ∃ f, c.Arr f ∧ ¬ Unit1 c f ∧ (∀ x, 0 ≤ x → x < f → Unit1 c x) ∧ r = (1, f, 0, 0)
def Flt2 (c : Cat) (r : Int × Int × Int × Int) : Prop := (∀ f, c.Arr f → Unit1 c f) ∧ ∃ f g h, c.Arr f ∧ c.Arr g ∧ c.Arr h ∧ ¬ As c f g h ∧ (∀ x, 0 ≤ x → x < h → As c f g x) ∧ (∀ x, 0 ≤ x → x < g → ∀ y, c.Arr y → As c f x y) ∧ (∀ x, 0 ≤ x → x < f → ∀ y z, c.Arr y → c.Arr z → As c x y z) ∧ r = (2, f, g, h)
def Flt0 (c : Cat) (r : Int × Int × Int × Int) : Prop := (∀ f, c.Arr f → Unit1 c f) ∧ (∀ f g h, c.Arr f → c.Arr g → c.Arr h → As c f g h) ∧ r = (0, 0, 0, 0)
def FaultIs (c : Cat) (r : Int × Int × Int × Int) : Prop := Flt1 c r ∨ Flt2 c r ∨ Flt0 c r
theorem FaultIs.uniq {c : Cat} {r s : Int × Int × Int × Int} (h : FaultIs c r) (k : FaultIs c s) : r = s := by
  rcases h with ⟨f, a1, a2, a3, rfl⟩ | ⟨u, f, g, h, a1, a2, a3, a4, a5, a6, a7, rfl⟩ | ⟨u, a, rfl⟩ <;> rcases k with ⟨f', b1, b2, b3, rfl⟩ | ⟨u', f', g', h', b1, b2, b3, b4, b5, b6, b7, rfl⟩ | ⟨u', a', rfl⟩
  · rcases Int.lt_trichotomy f f' with e | e | e
    · exact absurd (b3 f a1.1 e) a2
    · rw [e]
    · exact absurd (a3 f' b1.1 e) b2
  · exact absurd (u' f a1) a2
  · exact absurd (u' f a1) a2
  · exact absurd (u f' b1) b2
  · rcases Int.lt_trichotomy f f' with e | e | e
    · exact absurd (b7 f a1.1 e g h a2 a3) a4
    · subst e
      rcases Int.lt_trichotomy g g' with e | e | e
      · exact absurd (b6 g a2.1 e h a3) a4
      · subst e
        rcases Int.lt_trichotomy h h' with e | e | e
        · exact absurd (b5 h a3.1 e) a4
        · rw [e]
        · exact absurd (a5 h' b3.1 e) b4
      · exact absurd (a6 g' b2.1 e h' b3) b4
    · exact absurd (a7 f' b1.1 e g' h' b2 b3) b4
  · exact absurd (a' f g h a1 a2 a3) a4
  · exact absurd (u f' b1) b2
  · exact absurd (a f' g' h' b1 b2 b3) b4
  · rfl
noncomputable def faultOf (c : Cat) : Int × Int × Int × Int := @dite _ (∃ r, FaultIs c r) (Classical.propDecidable _) (fun h => h.choose) (fun _ => (0, 0, 0, 0))
theorem faultOf_eq {c : Cat} {r : Int × Int × Int × Int} (h : FaultIs c r) : faultOf c = r := by
  have hx : ∃ r, FaultIs c r := ⟨r, h⟩
  unfold faultOf
  rw [dif_pos hx]
  exact hx.choose_spec.uniq h
theorem fault_kind {c : Cat} {r : Int × Int × Int × Int} (S : Shape c) (h : FaultIs c r) : (r.1 == 0) = catB c := by
  rcases h with ⟨f, a1, a2, a3, rfl⟩ | ⟨u, f, g, h, a1, a2, a3, a4, a5, a6, a7, rfl⟩ | ⟨u, a, rfl⟩
  · rw [catB_f fun C => a2 (C.u f a1)]; rfl
  · rw [catB_f fun C => a4 (C.a f g h a1 a2 a3)]; rfl
  · rw [catB_t ⟨S, u, a⟩]; rfl
/-- What isShape, then the first fault, say. -/
noncomputable def firstFault (c : Cat) : Int × Int × Int × Int × Int := if shapeB c then ((faultOf c).1, (faultOf c).2.1, (faultOf c).2.2.1, (faultOf c).2.2.2, 0) else (0, 0, 0, 0, 1)
theorem results_tmp4 {fn : Func} {t u v x : Tmp} (h : fn.results = #[.tmp t, .tmp u, .tmp v, .tmp x]) (tmps : Array Value) (P : Program) (w : World) :
    (results fn tmps).run P w = .ok (.tuple #[tmps.getD t undef, tmps.getD u undef, tmps.getD v undef, tmps.getD x undef]) w := by
  simp [results, h]
theorem results_tmp5 {fn : Func} {t u v x y : Tmp} (h : fn.results = #[.tmp t, .tmp u, .tmp v, .tmp x, .tmp y]) (tmps : Array Value) (P : Program) (w : World) :
    (results fn tmps).run P w = .ok (.tuple #[tmps.getD t undef, tmps.getD u undef, tmps.getD v undef, tmps.getD x undef, tmps.getD y undef]) w := by
  simp [results, h]
def tup4 (r : Int × Int × Int × Int) : Value := .tuple #[.int .i64 r.1, .int .i64 r.2.1, .int .i64 r.2.2.1, .int .i64 r.2.2.2]
/-- The end of a call that looks for the first fault. -/
def FltEnd (c : Cat) (w : World) : Ending → World → Prop := fun e w' => ∃ r, FaultIs c r ∧ e = .returned (tup4 r) ∧ Below w.heap.size w w'
theorem c_then {w : World} {b : Nat} {c : Cat} (h : PC w b c) (S : Shape c) {f g : Int} (hf : c.Arr f) (hg : c.Arr g) :
    Calls Try.prog 103 #[.pointer (some ⟨b, 0, none⟩), .int .i64 f, .int .i64 g] w (Rd w (.int .i64 (c.M f g))) := by
  obtain ⟨aF, aT, aI, aC, bF, oF, kF, bT, oT, kT, bI, oI, kI, bC, oC, kC, bR, oR, kR, V⟩ := h.opens
  obtain ⟨rfl, rfl, rfl, rfl⟩ := V.som S (by have := hf.1; have := hf.2; unfold Cat.m at this; omega)
  have c4 := V.c4
  have cR := V.row S hf
  have cM := V.cM S hf hg
  obtain ⟨f0, f1⟩ := hf
  obtain ⟨g0, g1⟩ := hg
  unfold Cat.m at f1 g1
  have f2 : f < (c.cm.length : Int) := by rw [S.cl]; exact f1
  go_enter Try.func103, Try.ntmps103
  go_wp2_with fail
  go_ret
  exact rd_int rfl (by repeat (first | exact Drawn.refl _ | refine Drawn.step ?_ _ | refine Drawn.one ?_))
set_option maxHeartbeats 1600000 in
set_option maxRecDepth 100000 in
theorem c_fault {w1 : World} {b : Nat} {c : Cat} (P : PC w1 b c) (S : Shape c) : Calls Try.prog 84 #[.pointer (some ⟨b, 0, none⟩)] w1 (FltEnd c w1) := by
  obtain ⟨aF, aT, aI, aC, bF, oF, kF, bT, oT, kT, bI, oI, kI, bC, oC, kC, bR, oR, kR, V⟩ := P.opens
  have HT := Lib.hid (fun W f g (hd : Drawn w1 W) (hf : c.Arr f) (hg : c.Arr g) => c_then (V.drawn hd).pc S hf hg)
  have HP := Lib.hid P
  have B : Bel w1 w1 := Below.refl _ _
  have m0 : 0 ≤ c.m := by unfold Cat.m; omega
  have m1 := S.m40
  have SH := Lib.hid S
  clear S P
  go_enter Try.func84, Try.ntmps84
  go_wp2_with (go_at_call 85; (with_reducible refine (c_arrows HP.out).mono ?_); rintro e w' ⟨rfl, n1, rfl⟩)
  go_loopw [7] (fun iv wr => ∃ k : Nat, (k : Int) ≤ c.m ∧ iv = .int .i64 k ∧ Drawn w1 wr ∧ Hid (∀ x : Int, 0 ≤ x → x < k → Unit1 c x)) (fun iv _ => (c.m - intOf iv).toNat)
  case atStart => exact ⟨0, by omega, rfl, (by repeat (first | exact Drawn.refl _ | refine Drawn.step ?_ _ | refine Drawn.one ?_)), fun x _ _ => by omega⟩
  case round =>
    obtain ⟨k, hk, rfl, hd, hp⟩ := hrel
    by_cases hlt : (k : Int) < c.m
    · have hA : c.Arr k := ⟨by omega, hlt⟩
      obtain ⟨rfl, rfl, rfl, rfl⟩ := V.som SH.out (by have := hA.2; unfold Cat.m at this; omega)
      obtain ⟨p1, p2⟩ := SH.out.fO k hA
      obtain ⟨q1, q2⟩ := SH.out.tO k hA
      have hI := SH.out.iA _ ⟨p1, p2⟩
      have hJ := SH.out.iA _ ⟨q1, q2⟩
      have c1 := (V.drawn hd).c1
      have c2 := (V.drawn hd).c2
      have c3 := (V.drawn hd).c3
      have cF := (V.drawn hd).cF hA
      have cT := (V.drawn hd).cT SH.out hA
      have cI := (V.drawn hd).cI SH.out ⟨p1, p2⟩
      have cJ := (V.drawn hd).cI SH.out ⟨q1, q2⟩
      simp only [Int.toNat_natCast] at cF cT
      have l1 : k < c.fr.length := by have := hA.2; unfold Cat.m at this; omega
      have l2 : k < c.to.length := by rw [SH.out.tl]; exact l1
      have l3 : c.F k < (c.id.length : Int) := by rw [SH.out.il]; exact p2
      have l4 : c.T k < (c.id.length : Int) := by rw [SH.out.il]; exact q2
      have HQ1 := Lib.hid (fun W (h : Drawn wr W) => calls_q (HT.out W _ _ (drawn_trans hd h) hI hA))
      have HQ2 := Lib.hid (fun W (h : Drawn wr W) => calls_q (HT.out W _ _ (drawn_trans hd h) hA hJ))
      by_cases u1 : c.M (c.I (c.F k)) k = k
      · have u1b : (c.M (c.I (c.F k)) k != (k : Int)) = false := by simp [u1]
        have U1 := Lib.hid u1
        clear u1
        by_cases u2 : c.M k (c.I (c.T k)) = k
        · have u2b : (c.M k (c.I (c.T k)) != (k : Int)) = false := by simp [u2]
          have U2 := Lib.hid u2
          clear u2
          go_wp2_with fail
          go_quiet ((first | (go_at_call 103; with_reducible exact Calls.quiet_of (HQ1.out _ (by repeat (first | exact Drawn.refl _ | refine Drawn.step ?_ _ | refine Drawn.one ?_)))) | (go_at_call 103; with_reducible exact Calls.quiet_of (HQ2.out _ (by repeat (first | exact Drawn.refl _ | refine Drawn.step ?_ _ | refine Drawn.one ?_))))))
          go_wp2_with fail
          go_roundw
          case rel => exact ⟨k + 1, by omega, by go_num, hd.step _, fun x h0 h1 => by
            by_cases e : x = k
            · subst e; exact ⟨U1.out, U2.out⟩
            · exact hp.out x h0 (by omega)⟩
          case measure => simp [intOf]; omega
        · have u2b : (c.M k (c.I (c.T k)) != (k : Int)) = true := by simp [u2]
          have U2 := Lib.hid u2
          clear u2
          go_wp2_with fail
          go_quiet ((first | (go_at_call 103; with_reducible exact Calls.quiet_of (HQ1.out _ (by repeat (first | exact Drawn.refl _ | refine Drawn.step ?_ _ | refine Drawn.one ?_)))) | (go_at_call 103; with_reducible exact Calls.quiet_of (HQ2.out _ (by repeat (first | exact Drawn.refl _ | refine Drawn.step ?_ _ | refine Drawn.one ?_))))))
          go_wp2_with fail
          ((try simp only [Exit.inBlock, Exit.then]); refine bodyPost_ret (results_tmp4 rfl _ _ _) rfl ?_)
          exact ⟨(1, (k : Int), 0, 0), .inl ⟨k, hA, fun h => U2.out h.2, hp.out, rfl⟩, rfl, B.drawn (hd.step _)⟩
      · have u1b : (c.M (c.I (c.F k)) k != (k : Int)) = true := by simp [u1]
        have U1 := Lib.hid u1
        clear u1
        go_wp2_with fail
        go_quiet ((first | (go_at_call 103; with_reducible exact Calls.quiet_of (HQ1.out _ (by repeat (first | exact Drawn.refl _ | refine Drawn.step ?_ _ | refine Drawn.one ?_)))) | (go_at_call 103; with_reducible exact Calls.quiet_of (HQ2.out _ (by repeat (first | exact Drawn.refl _ | refine Drawn.step ?_ _ | refine Drawn.one ?_))))))
        go_wp2_with fail
        ((try simp only [Exit.inBlock, Exit.then]); refine bodyPost_ret (results_tmp4 rfl _ _ _) rfl ?_)
        exact ⟨(1, (k : Int), 0, 0), .inl ⟨k, hA, fun h => U1.out h.1, hp.out, rfl⟩, rfl, B.drawn (hd.step _)⟩
    · have HU : Hid (∀ f, c.Arr f → Unit1 c f) := fun f hf => hp.out f hf.1 (by have := hf.2; unfold Cat.m at *; omega)
      have hke : (k : Int) = c.m := by omega
      clear hp
      go_wp2_with fail
      obtain ⟨wa, rfl⟩ : ∃ wa : World, wa = wr := ⟨_, rfl⟩
      have hda := hd
      clear hd
      go_loopw [8, 9, 10] (fun iv _ _ wr => ∃ k : Nat, (k : Int) ≤ c.m ∧ iv = .int .i64 k ∧ Drawn w1 wr ∧ Hid (∀ x : Int, 0 ≤ x → x < k → ∀ y z, c.Arr y → c.Arr z → As c x y z)) (fun iv _ _ _ => (c.m - intOf iv).toNat)
      case atStart => exact ⟨0, by omega, rfl, hda, fun x _ _ => by omega⟩
      case round =>
        obtain ⟨f, hkf, rfl, hd, hp⟩ := hrel
        by_cases hltf : (f : Int) < c.m
        · have hf : c.Arr f := ⟨by omega, hltf⟩
          go_wp2_with fail
          obtain ⟨wb, rfl⟩ : ∃ wb : World, wb = wr := ⟨_, rfl⟩
          have hdb := hd
          clear hd
          go_loopw [9, 10] (fun iv _ wr => ∃ k : Nat, (k : Int) ≤ c.m ∧ iv = .int .i64 k ∧ Drawn w1 wr ∧ Hid (∀ x : Int, 0 ≤ x → x < k → ∀ y, c.Arr y → As c f x y)) (fun iv _ _ => (c.m - intOf iv).toNat)
          case atStart => exact ⟨0, by omega, rfl, hdb, fun x _ _ => by omega⟩
          case round =>
            obtain ⟨g, hkg, rfl, hd, hp2⟩ := hrel
            by_cases hltg : (g : Int) < c.m
            · have hg : c.Arr g := ⟨by omega, hltg⟩
              skip
              by_cases h1 : c.T f = c.F g
              · obtain ⟨hfg, -, hTfg⟩ := SH.out.mA f g hf hg h1
                have b1 : decide (c.M f g < 0) = false := by simp; exact hfg.1
                have H1 := Lib.hid h1
                have HTFG := Lib.hid hTfg
                clear h1 hTfg
                go_wp2_with fail
                (with_reducible refine (HT.out _ _ _ hd hf hg).mono ?_)
                rintro e wr2 ⟨rfl, hd2⟩
                have hdc := drawn_trans hd hd2
                clear hd hd2
                go_wp2_with fail
                obtain ⟨wc, rfl⟩ : ∃ wc : World, wc = wr2 := ⟨_, rfl⟩
                go_loopw [10] (fun iv wr => ∃ k : Nat, (k : Int) ≤ c.m ∧ iv = .int .i64 k ∧ Drawn w1 wr ∧ Hid (∀ x : Int, 0 ≤ x → x < k → As c f g x)) (fun iv _ => (c.m - intOf iv).toNat)
                case atStart => exact ⟨0, by omega, rfl, hdc, fun x _ _ => by omega⟩
                case round =>
                  obtain ⟨h, hkh, rfl, hd, hp3⟩ := hrel
                  by_cases hlth : (h : Int) < c.m
                  · have hh : c.Arr h := ⟨by omega, hlth⟩
                    skip
                    by_cases h2 : c.T g = c.F h
                    · obtain ⟨hgh, hFgh, -⟩ := SH.out.mA g h hg hh h2
                      have H2 := Lib.hid h2
                      have HFGH := Lib.hid hFgh
                      have b2 : decide (c.M g h ≥ 0) = true := by simp; exact hgh.1
                      clear h2 hFgh
                      by_cases e : c.M (c.M f g) h = c.M f (c.M g h)
                      · have eb : (c.M (c.M f g) h != c.M f (c.M g h)) = false := by simp [e]
                        have E := Lib.hid e
                        clear e
                        go_wp2_with (go_at_call 103; (with_reducible refine (HT.out _ _ _ (by first | exact hd | exact Drawn.step hd _ | exact Drawn.step (Drawn.step hd _) _ | exact Drawn.step (Drawn.step (Drawn.step hd _) _) _ | exact Drawn.step (Drawn.step (Drawn.step (Drawn.step hd _) _) _) _) (by assumption) (by assumption)).mono ?_); rintro e w' ⟨rfl, n1, rfl⟩)
                        go_roundw
                        case rel => exact ⟨h + 1, by omega, by go_num, (by first | exact Drawn.step hd _ | exact hd), fun x h0 h1 => by
                          by_cases ee : x = h
                          · subst ee; exact fun _ _ => E.out
                          · exact hp3.out x h0 (by omega)⟩
                        case measure => simp [intOf]; omega
                      · have eb : (c.M (c.M f g) h != c.M f (c.M g h)) = true := by simp [e]
                        have E := Lib.hid e
                        clear e
                        go_wp2_with (go_at_call 103; (with_reducible refine (HT.out _ _ _ (by first | exact hd | exact Drawn.step hd _ | exact Drawn.step (Drawn.step hd _) _ | exact Drawn.step (Drawn.step (Drawn.step hd _) _) _ | exact Drawn.step (Drawn.step (Drawn.step (Drawn.step hd _) _) _) _) (by assumption) (by assumption)).mono ?_); rintro e w' ⟨rfl, n1, rfl⟩)
                        ((try simp only [Exit.inBlock, Exit.then]); refine bodyPost_ret (results_tmp4 rfl _ _ _) rfl ?_)
                        exact ⟨(2, (f : Int), (g : Int), (h : Int)), .inr (.inl ⟨HU.out, f, g, h, hf, hg, hh, fun q => E.out (q H1.out H2.out), hp3.out, hp2.out, hp.out, rfl⟩), rfl, B.drawn (by first | exact Drawn.step hd _ | exact hd)⟩
                    · have b2 : decide (c.M g h ≥ 0) = false := by rw [SH.out.mN g h hg hh h2]; rfl
                      have H2 := Lib.hid h2
                      clear h2
                      go_wp2_with (go_at_call 103; (with_reducible refine (HT.out _ _ _ (by first | exact hd | exact Drawn.step hd _ | exact Drawn.step (Drawn.step hd _) _ | exact Drawn.step (Drawn.step (Drawn.step hd _) _) _ | exact Drawn.step (Drawn.step (Drawn.step (Drawn.step hd _) _) _) _) (by assumption) (by assumption)).mono ?_); rintro e w' ⟨rfl, n1, rfl⟩)
                      go_roundw
                      case rel => exact ⟨h + 1, by omega, by go_num, (by first | exact Drawn.step hd _ | exact hd), fun x h0 h1 => by
                        by_cases ee : x = h
                        · subst ee; exact fun _ q => absurd q H2.out
                        · exact hp3.out x h0 (by omega)⟩
                      case measure => simp [intOf]; omega
                  · have HG : Hid (∀ y, c.Arr y → As c f g y) := fun y hy => hp3.out y hy.1 (by have := hy.2; unfold Cat.m at *; omega)
                    clear hp3
                    go_wp2_with fail
                    go_roundw
                    case rel => exact ⟨g + 1, by omega, by go_num, hd, fun x h0 h1 => by
                      by_cases ee : x = g
                      · subst ee; exact HG.out
                      · exact hp2.out x h0 (by omega)⟩
                    case measure => simp [intOf]; omega
              · have b1 : decide (c.M f g < 0) = true := by rw [SH.out.mN f g hf hg h1]; rfl
                have H1 := Lib.hid h1
                clear h1
                go_wp2_with fail
                (with_reducible refine (HT.out _ _ _ hd hf hg).mono ?_)
                rintro e wr2 ⟨rfl, hd2⟩
                have hdc := drawn_trans hd hd2
                clear hd hd2
                go_wp2_with fail
                go_roundw
                case rel => exact ⟨g + 1, by omega, by go_num, hdc, fun x h0 h1 => by
                  by_cases ee : x = g
                  · subst ee; exact fun _ _ q => absurd q H1.out
                  · exact hp2.out x h0 (by omega)⟩
                case measure => simp [intOf]; omega
            · have HG : Hid (∀ y z, c.Arr y → c.Arr z → As c f y z) := fun y z hy hz => hp2.out y hy.1 (by have := hy.2; unfold Cat.m at *; omega) z hz
              clear hp2
              go_wp2_with fail
              go_roundw
              case rel => exact ⟨f + 1, by omega, by go_num, hd, fun x h0 h1 => by
                by_cases ee : x = f
                · subst ee; exact HG.out
                · exact hp.out x h0 (by omega)⟩
              case measure => simp [intOf]; omega
        · have HA : Hid (∀ x y z, c.Arr x → c.Arr y → c.Arr z → As c x y z) := fun x y z hx hy hz => hp.out x hx.1 (by have := hx.2; unfold Cat.m at *; omega) y z hy hz
          clear hp
          go_wp2_with fail
          ((try simp only [Exit.inBlock, Exit.then]); refine bodyPost_ret (results_tmp4 rfl _ _ _) rfl ?_)
          exact ⟨(0, 0, 0, 0), .inr (.inr ⟨HU.out, HA.out, rfl⟩), rfl, B.drawn hd⟩
set_option maxHeartbeats 1600000 in
set_option maxRecDepth 100000 in
theorem c_l02Fault {w : World} {v : Value} {c : Cat} (h : IC w v c) (S : Shape c) : Calls Try.prog 80 #[v] w (FltEnd c w) := by
  have m0 : 0 ≤ c.m := by unfold Cat.m; omega
  have m1 := S.m40
  have SH := Lib.hid S
  clear S
  obtain ⟨aF, aT, aI, aC, bF, oF, kF, bT, oT, kT, bI, oI, kI, bC, oC, kC, bR, oR, kR, rfl, V⟩ := h.boxed 29
  have B : Bel w (w.alloc (.cells #[.int .i64 c.n, .slice aF c.fr.length kF, .slice aT c.to.length kT, .slice aI c.id.length kI, .slice aC c.cm.length kC] 29)) := bel_box w _
  have ZB := Lib.hid (show (w.alloc (.cells #[.int .i64 c.n, .slice aF c.fr.length kF, .slice aT c.to.length kT, .slice aI c.id.length kI, .slice aC c.cm.length kC] 29)).heap.size = w.heap.size + 1 from by simp)
  clear h
  go_enter Try.func80, Try.ntmps80
  go_wp2_with fail
  generalize w.alloc (.cells #[.int .i64 c.n, .slice aF c.fr.length kF, .slice aT c.to.length kT, .slice aI c.id.length kI, .slice aC c.cm.length kC] 29) = w1 at *
  generalize w.heap.size = b at *
  have c0 := V.c0
  have c1 := V.c1
  have c2 := V.c2
  have c3 := V.c3
  have c4 := V.c4
  clear c0 c1 c2 c3 c4
  try go_wp2_with fail
  unfold Cat.m at m0 m1
  go_loopw [7] (fun iv wr => ∃ k : Nat, (k : Int) ≤ (c.fr.length : Int) ∧ iv = .int .i64 k ∧ Drawn w1 wr ∧ Hid (∀ x : Int, 0 ≤ x → x < k → Unit1 c x)) (fun iv _ => ((c.fr.length : Int) - intOf iv).toNat)
  case atStart => exact ⟨0, by omega, rfl, (by repeat (first | exact Drawn.refl _ | refine Drawn.step ?_ _ | refine Drawn.one ?_)), fun x _ _ => by omega⟩
  case round =>
    obtain ⟨k, hk, rfl, hd, hp⟩ := hrel
    by_cases hlt : (k : Int) < (c.fr.length : Int)
    · have hA : c.Arr k := ⟨by omega, hlt⟩
      obtain ⟨rfl, rfl, rfl, rfl⟩ := V.som SH.out (by have := hA.2; unfold Cat.m at this; omega)
      obtain ⟨p1, p2⟩ := SH.out.fO k hA
      obtain ⟨q1, q2⟩ := SH.out.tO k hA
      have hI := SH.out.iA _ ⟨p1, p2⟩
      have hJ := SH.out.iA _ ⟨q1, q2⟩
      have c1 := (V.drawn hd).c1
      have c2 := (V.drawn hd).c2
      have c3 := (V.drawn hd).c3
      have cF := (V.drawn hd).cF hA
      have cT := (V.drawn hd).cT SH.out hA
      have cI := (V.drawn hd).cI SH.out ⟨p1, p2⟩
      have cJ := (V.drawn hd).cI SH.out ⟨q1, q2⟩
      simp only [Int.toNat_natCast] at cF cT
      have l1 : k < c.fr.length := by have := hA.2; unfold Cat.m at this; omega
      have l2 : k < c.to.length := by rw [SH.out.tl]; exact l1
      have l3 : c.F k < (c.id.length : Int) := by rw [SH.out.il]; exact p2
      have l4 : c.T k < (c.id.length : Int) := by rw [SH.out.il]; exact q2
      have c4 := (V.drawn hd).c4
      have cR := (V.drawn hd).row SH.out hI
      have cM := (V.drawn hd).cM SH.out hI hA
      have cR2 := (V.drawn hd).row SH.out hA
      have cM2 := (V.drawn hd).cM SH.out hA hJ
      simp only [Int.toNat_natCast] at cM cR2
      obtain ⟨i1, i2⟩ := hI
      obtain ⟨j1, j2⟩ := hJ
      unfold Cat.m at i2 j2
      have i3 : c.I (c.F k) < (c.cm.length : Int) := by rw [SH.out.cl]; exact i2
      have l5 : k < c.cm.length := by rw [SH.out.cl]; exact l1
      by_cases u1 : c.M (c.I (c.F k)) k = k
      · have u1b : (c.M (c.I (c.F k)) k != (k : Int)) = false := by simp [u1]
        have U1 := Lib.hid u1
        clear u1
        by_cases u2 : c.M k (c.I (c.T k)) = k
        · have u2b : (c.M k (c.I (c.T k)) != (k : Int)) = false := by simp [u2]
          have U2 := Lib.hid u2
          clear u2
          go_wp2_with fail
          go_quiet (fail)
          go_wp2_with fail
          go_roundw
          case rel => exact ⟨k + 1, by omega, by go_num, hd.step _, fun x h0 h1 => by
            by_cases e : x = k
            · subst e; exact ⟨U1.out, U2.out⟩
            · exact hp.out x h0 (by omega)⟩
          case measure => simp [intOf]; omega
        · have u2b : (c.M k (c.I (c.T k)) != (k : Int)) = true := by simp [u2]
          have U2 := Lib.hid u2
          clear u2
          go_wp2_with fail
          go_quiet (fail)
          go_wp2_with fail
          ((try simp only [Exit.inBlock, Exit.then]); refine bodyPost_ret (results_tmp4 rfl _ _ _) rfl ?_)
          exact ⟨(1, (k : Int), 0, 0), .inl ⟨k, hA, fun h => U2.out h.2, hp.out, rfl⟩, rfl, B.drawn (hd.step _)⟩
      · have u1b : (c.M (c.I (c.F k)) k != (k : Int)) = true := by simp [u1]
        have U1 := Lib.hid u1
        clear u1
        go_wp2_with fail
        go_quiet (fail)
        go_wp2_with fail
        ((try simp only [Exit.inBlock, Exit.then]); refine bodyPost_ret (results_tmp4 rfl _ _ _) rfl ?_)
        exact ⟨(1, (k : Int), 0, 0), .inl ⟨k, hA, fun h => U1.out h.1, hp.out, rfl⟩, rfl, B.drawn (hd.step _)⟩
    · have HU : Hid (∀ f, c.Arr f → Unit1 c f) := fun f hf => hp.out f hf.1 (by have := hf.2; unfold Cat.m at *; omega)
      have hke : (k : Int) = (c.fr.length : Int) := by omega
      clear hp
      go_wp2_with fail
      obtain ⟨wa, rfl⟩ : ∃ wa : World, wa = wr := ⟨_, rfl⟩
      have hda := hd
      clear hd
      go_loopw [8, 9, 10] (fun iv _ _ wr => ∃ k : Nat, (k : Int) ≤ (c.fr.length : Int) ∧ iv = .int .i64 k ∧ Drawn w1 wr ∧ Hid (∀ x : Int, 0 ≤ x → x < k → ∀ y z, c.Arr y → c.Arr z → As c x y z)) (fun iv _ _ _ => ((c.fr.length : Int) - intOf iv).toNat)
      case atStart => exact ⟨0, by omega, rfl, hda, fun x _ _ => by omega⟩
      case round =>
        obtain ⟨f, hkf, rfl, hd, hp⟩ := hrel
        by_cases hltf : (f : Int) < (c.fr.length : Int)
        · have hf : c.Arr f := ⟨by omega, hltf⟩
          go_wp2_with fail
          obtain ⟨wb, rfl⟩ : ∃ wb : World, wb = wr := ⟨_, rfl⟩
          have hdb := hd
          clear hd
          go_loopw [9, 10] (fun iv _ wr => ∃ k : Nat, (k : Int) ≤ (c.fr.length : Int) ∧ iv = .int .i64 k ∧ Drawn w1 wr ∧ Hid (∀ x : Int, 0 ≤ x → x < k → ∀ y, c.Arr y → As c f x y)) (fun iv _ _ => ((c.fr.length : Int) - intOf iv).toNat)
          case atStart => exact ⟨0, by omega, rfl, hdb, fun x _ _ => by omega⟩
          case round =>
            obtain ⟨g, hkg, rfl, hd, hp2⟩ := hrel
            by_cases hltg : (g : Int) < (c.fr.length : Int)
            · have hg : c.Arr g := ⟨by omega, hltg⟩
              obtain ⟨rfl, rfl, rfl, rfl⟩ := V.som SH.out (by have := hf.2; unfold Cat.m at this; omega)
              have c1 := (V.drawn hd).c1
              have c2 := (V.drawn hd).c2
              have cT := (V.drawn hd).cT SH.out hf
              have cF := (V.drawn hd).cF hg
              simp only [Int.toNat_natCast] at cF cT
              have l1 : f < c.to.length := by rw [SH.out.tl]; omega
              have l2 : g < c.fr.length := by omega
              by_cases h1 : c.T f = c.F g
              · obtain ⟨hfg, -, hTfg⟩ := SH.out.mA f g hf hg h1
                have b1 : (c.T f != c.F g) = false := by simp [h1]
                have H1 := Lib.hid h1
                have HTFG := Lib.hid hTfg
                clear h1 hTfg
                go_wp2_with fail
                go_quiet (fail)
                have hdc := hd.step nq
                clear c1 c2 cT cF hd
                generalize wr.drewN nq = wr2 at *
                go_wp2_with fail
                obtain ⟨wc, rfl⟩ : ∃ wc : World, wc = wr2 := ⟨_, rfl⟩
                go_loopw [10] (fun iv wr => ∃ k : Nat, (k : Int) ≤ (c.fr.length : Int) ∧ iv = .int .i64 k ∧ Drawn w1 wr ∧ Hid (∀ x : Int, 0 ≤ x → x < k → As c f g x)) (fun iv _ => ((c.fr.length : Int) - intOf iv).toNat)
                case atStart => exact ⟨0, by omega, rfl, hdc, fun x _ _ => by omega⟩
                case round =>
                  obtain ⟨h, hkh, rfl, hd, hp3⟩ := hrel
                  by_cases hlth : (h : Int) < (c.fr.length : Int)
                  · have hh : c.Arr h := ⟨by omega, hlth⟩
                    have c1 := (V.drawn hd).c1
                    have c2 := (V.drawn hd).c2
                    have c4 := (V.drawn hd).c4
                    have cT := (V.drawn hd).cT SH.out hg
                    have cF := (V.drawn hd).cF hh
                    simp only [Int.toNat_natCast] at cF cT
                    have l3 : g < c.to.length := by rw [SH.out.tl]; omega
                    have l4 : h < c.fr.length := by omega
                    by_cases h2 : c.T g = c.F h
                    · obtain ⟨hgh, hFgh, -⟩ := SH.out.mA g h hg hh h2
                      have H2 := Lib.hid h2
                      have HFGH := Lib.hid hFgh
                      have b2 : (c.T g == c.F h) = true := by simp [h2]
                      have r1 := (V.drawn hd).row SH.out hf
                      have r2 := (V.drawn hd).row SH.out hg
                      have r3 := (V.drawn hd).row SH.out hfg
                      have m2 := (V.drawn hd).cM SH.out hf hg
                      have m3 := (V.drawn hd).cM SH.out hg hh
                      have m4 := (V.drawn hd).cM SH.out hfg hh
                      have m5 := (V.drawn hd).cM SH.out hf hgh
                      simp only [Int.toNat_natCast] at r1 r2 m2 m3 m4
                      obtain ⟨i1, i2⟩ := hfg
                      obtain ⟨j1, j2⟩ := hgh
                      unfold Cat.m at i2 j2
                      have i3 : c.M f g < (c.cm.length : Int) := by rw [SH.out.cl]; exact i2
                      have l5 : f < c.cm.length := by rw [SH.out.cl]; omega
                      have l6 : g < c.cm.length := by rw [SH.out.cl]; omega
                      have l7 : f < c.fr.length := by omega
                      clear h2 hFgh
                      by_cases e : c.M (c.M f g) h = c.M f (c.M g h)
                      · have eb : (c.M (c.M f g) h != c.M f (c.M g h)) = false := by simp [e]
                        have E := Lib.hid e
                        clear e
                        go_wp2_with fail
                        go_quiet (fail)
                        go_wp2_with fail
                        go_roundw
                        case rel => exact ⟨h + 1, by omega, by go_num, (hd.step _), fun x h0 h1 => by
                          by_cases ee : x = h
                          · subst ee; exact fun _ _ => E.out
                          · exact hp3.out x h0 (by omega)⟩
                        case measure => simp [intOf]; omega
                      · have eb : (c.M (c.M f g) h != c.M f (c.M g h)) = true := by simp [e]
                        have E := Lib.hid e
                        clear e
                        go_wp2_with fail
                        go_quiet (fail)
                        go_wp2_with fail
                        ((try simp only [Exit.inBlock, Exit.then]); refine bodyPost_ret (results_tmp4 rfl _ _ _) rfl ?_)
                        exact ⟨(2, (f : Int), (g : Int), (h : Int)), .inr (.inl ⟨HU.out, f, g, h, hf, hg, hh, fun q => E.out (q H1.out H2.out), hp3.out, hp2.out, hp.out, rfl⟩), rfl, B.drawn (hd.step _)⟩
                    · have b2 : (c.T g == c.F h) = false := by simp [h2]
                      have H2 := Lib.hid h2
                      clear h2
                      go_wp2_with fail
                      go_quiet (fail)
                      go_wp2_with fail
                      go_roundw
                      case rel => exact ⟨h + 1, by omega, by go_num, (hd.step _), fun x h0 h1 => by
                        by_cases ee : x = h
                        · subst ee; exact fun _ q => absurd q H2.out
                        · exact hp3.out x h0 (by omega)⟩
                      case measure => simp [intOf]; omega
                  · have HG : Hid (∀ y, c.Arr y → As c f g y) := fun y hy => hp3.out y hy.1 (by have := hy.2; unfold Cat.m at *; omega)
                    clear hp3
                    go_wp2_with fail
                    go_roundw
                    case rel => exact ⟨g + 1, by omega, by go_num, hd, fun x h0 h1 => by
                      by_cases ee : x = g
                      · subst ee; exact HG.out
                      · exact hp2.out x h0 (by omega)⟩
                    case measure => simp [intOf]; omega
              · have b1 : (c.T f != c.F g) = true := by simp [h1]
                have H1 := Lib.hid h1
                clear h1
                go_wp2_with fail
                go_quiet (fail)
                have hdc := hd.step nq
                clear c1 c2 cT cF hd
                generalize wr.drewN nq = wr2 at *
                go_wp2_with fail
                go_roundw
                case rel => exact ⟨g + 1, by omega, by go_num, hdc, fun x h0 h1 => by
                  by_cases ee : x = g
                  · subst ee; exact fun _ _ q => absurd q H1.out
                  · exact hp2.out x h0 (by omega)⟩
                case measure => simp [intOf]; omega
            · have HG : Hid (∀ y z, c.Arr y → c.Arr z → As c f y z) := fun y z hy hz => hp2.out y hy.1 (by have := hy.2; unfold Cat.m at *; omega) z hz
              clear hp2
              go_wp2_with fail
              go_roundw
              case rel => exact ⟨f + 1, by omega, by go_num, hd, fun x h0 h1 => by
                by_cases ee : x = f
                · subst ee; exact HG.out
                · exact hp.out x h0 (by omega)⟩
              case measure => simp [intOf]; omega
        · have HA : Hid (∀ x y z, c.Arr x → c.Arr y → c.Arr z → As c x y z) := fun x y z hx hy hz => hp.out x hx.1 (by have := hx.2; unfold Cat.m at *; omega) y z hy hz
          clear hp
          go_wp2_with fail
          ((try simp only [Exit.inBlock, Exit.then]); refine bodyPost_ret (results_tmp4 rfl _ _ _) rfl ?_)
          exact ⟨(0, 0, 0, 0), .inr (.inr ⟨HU.out, HA.out, rfl⟩), rfl, B.drawn hd⟩
end Go.Proofs.Ytkmkbmhpdnddnaa
