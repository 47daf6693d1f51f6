/-
  Chapter 1: EqualizerOf, KernelOf of program and reference.
-/
import Derived.Test.YtocgbhcfnphnhaaSets3
namespace Go.Proofs.Ytocgbhcfnphnhaa
open Go.RowKit

/-- The code of two maps from one set. -/
def twoCode (n : Int) (f g : List Int) : Int := if codesOf n [f, g] = 0 ∧ ¬ f.length = g.length then 1 else codesOf n [f, g]
theorem codesOf_two (n : Int) (f g : List Int) : codesOf n [f, g] = if codeOf n f = 0 then codeOf n g else codeOf n f := by
  unfold codesOf codeOf
  by_cases h : inR n 0 256 = true
  · simp only [if_pos h, List.all_cons, List.all_nil, Bool.and_true, Bool.and_eq_true]
    by_cases h1 : isMapB n f = true <;> by_cases h2 : isMapB n g = true <;> simp [h1, h2]
  · simp [h]
theorem twoCode_zero {n : Int} {f g : List Int} (h : twoCode n f g = 0) : 0 ≤ n ∧ n ≤ 256 ∧ f.length ≤ 256 ∧ f.length = g.length ∧ allIn n f = true ∧ allIn n g = true := by
  unfold twoCode at h
  split at h
  · cases h
  · rename_i h1
    rw [codesOf_two] at h h1
    split at h
    · rename_i h2
      have a := codeOf_zero h2
      have b := codeOf_zero h
      rw [if_pos h2] at h1
      have : f.length = g.length := by
        refine Classical.byContradiction fun e => h1 ⟨h, e⟩
      exact ⟨a.1, a.2.1, a.2.2.1, this, a.2.2.2, b.2.2.2⟩
    · rename_i h2; exact absurd h h2
theorem codesOf_bd (n : Int) (fs : List (List Int)) : 0 ≤ codesOf n fs ∧ codesOf n fs ≤ 2 := by
  unfold codesOf
  repeat' split
  all_goals omega
theorem twoCode_bd (n : Int) (f g : List Int) : 0 ≤ twoCode n f g ∧ twoCode n f g ≤ 2 := by
  have := codesOf_bd n [f, g]
  unfold twoCode
  split <;> omega

theorem c_parallel (n : Int) {w : World} {u v : Value} {f g : List Int} (hf : IS w u f) (hg : IS w v g) :
    Calls Try.prog 60 #[.int .i64 n, u, v] w (Ret w (.int .i64 (twoCode n f g))) := by
  obtain ⟨ao, b, o, c, hu, -⟩ := hf.ex
  obtain ⟨ao', b', o', c', hv, -⟩ := hg.ex
  have l1 := hf.len
  have l2 := hg.len
  have HF := Lib.hid hf
  have HG := Lib.hid hg
  clear hf hg
  subst hu hv
  have h1b := eq_zero_b (codesOf n [f, g])
  have h2b := ne_len f.length g.length
  cases hd1 : decide (codesOf n [f, g] = 0) <;> cases hd2 : decide (f.length = g.length)
  all_goals
    rw [hd1] at h1b
    rw [hd2] at h2b
    simp only [Bool.not_true, Bool.not_false] at h2b
    have H1 := Lib.hid hd1
    have H2 := Lib.hid hd2
    clear hd1 hd2
    go_enter Try.func60, Try.ntmps60
    go_wp2_with fail
    refine (c_mapCode (ISS.lit2 HF.out HG.out) n).mono ?_
    rintro e w1 ⟨rfl, d1⟩
    go_wp2_with fail
    go_ret
    have e1 := H1.out
    have e2 := H2.out
    simp at e1 e2
    exact ⟨by simp [twoCode, e1, e2], (bel_alloc (Below.refl _ _) _).trans (d1.below _)⟩
theorem c_l01Two (n : Int) {w : World} {u v : Value} {f g : List Int} (hf : IS w u f) (hg : IS w v g) :
    Calls Try.prog 61 #[.int .i64 n, u, v] w (Rd w (.int .i64 (twoCode n f g))) := by
  obtain ⟨ao, b, o, c, hu, -⟩ := hf.ex
  obtain ⟨ao', b', o', c', hv, -⟩ := hg.ex
  have l1 := hf.len
  have l2 := hg.len
  have HF := Lib.hid hf
  have HG := Lib.hid hg
  clear hf hg
  subst hu hv
  have h1b := eq_zero_b (codeOf n f)
  have h3b := eq_zero_b (codeOf n g)
  have h2b := ne_len f.length g.length
  cases hd1 : decide (codeOf n f = 0) <;> cases hd3 : decide (codeOf n g = 0) <;> cases hd2 : decide (f.length = g.length)
  all_goals
    rw [hd1] at h1b
    rw [hd2] at h2b
    rw [hd3] at h3b
    simp only [Bool.not_true, Bool.not_false] at h2b
    have H1 := Lib.hid hd1
    have H2 := Lib.hid hd2
    have H3 := Lib.hid hd3
    clear hd1 hd2 hd3
    go_enter Try.func61, Try.ntmps61
    go_wp2_with (first | (go_at_call 74; (with_reducible refine (c_l01Code (HF.out.drawn (by repeat (first | exact Drawn.refl _ | refine Drawn.step ?_ _ | refine Drawn.one ?_))) n).mono ?_); rintro e w' ⟨rfl, n1, rfl⟩) | (go_at_call 74; (with_reducible refine (c_l01Code (HG.out.drawn (by repeat (first | exact Drawn.refl _ | refine Drawn.step ?_ _ | refine Drawn.one ?_))) n).mono ?_); rintro e w' ⟨rfl, n1, rfl⟩))
    go_ret
    have e1 := H1.out
    have e2 := H2.out
    have e3 := H3.out
    simp at e1 e2 e3
    exact rd_int (by simp [twoCode, codesOf_two, e1, e2, e3]) (by repeat (first | exact Drawn.refl _ | refine Drawn.step ?_ _ | refine Drawn.one ?_))
/-- What EqualizerOf returns. -/
def equR (n : Int) (f g : List Int) : List Int × Int :=
  if twoCode n f g = 0 then (sel (fun i => gi f i == gi g i) f.length, 0) else ([], twoCode n f g)
theorem i_EqualizerOf (n : Int) (_ : I64 n) {w : World} {u v : Value} {f g : List Int} (hf : IS w u f) (hg : IS w v g) :
    Calls Try.prog 23 #[.int .i64 n, u, v] w (Mk2 2 w (equR n f g)) := by
  have hm := c_parallel n hf hg
  obtain ⟨ao, b, o, c, rfl, ha, hc⟩ := hf.ex
  obtain ⟨ao', b', o', c', rfl, ha', hc'⟩ := hg.ex
  have l1 := hf.len
  have l2 := hg.len
  have hcb := twoCode_bd n f g
  have Hm := Lib.hid hm
  clear hf hg hm
  by_cases h1 : twoCode n f g = 0
  · have hz := twoCode_zero h1
    have hle : f.length ≤ g.length ∧ f.length ≤ 256 ∧ g.length ≤ f.length := by omega
    have h1b : (twoCode n f g != 0) = false := by simp [h1]
    have H1 := Lib.hid h1
    clear h1 hz
    go_enter Try.func23, Try.ntmps23
    go_wp2_with fail
    refine Hm.out.mono ?_
    rintro e w1 ⟨rfl, d1⟩
    have b1 : Below w.heap.size w w1 := d1
    clear d1 Hm
    go_wp2_with fail
    go_loopw [9, 10, 11, 22] (fun out _ _ i wr => ∃ (k : Nat) (os : List Int), k ≤ f.length ∧ i = .int .i64 k ∧ Below w.heap.size w wr ∧ Own 2 wr w.heap.size out os ∧ os.length ≤ k ∧ Hid (os = sel (fun i => gi f i == gi g i) k)) (fun _ _ _ i _ => f.length - (intOf i).toNat)
    case atStart => exact ⟨0, [], Nat.zero_le _, rfl, bel_alloc b1 _, Own.empty _ _ _ b1.size, Nat.le_refl _, rfl⟩
    case round =>
      obtain ⟨k, os, hk, rfl, hb, ho, hol, hp⟩ := hrel
      by_cases hlt : k < f.length
      · have hw0 := hb.size
        obtain rfl := ha (by omega)
        obtain rfl := ha' (by omega)
        have hx1 := IS.cellAt hb (hc k hlt) rfl
        have hx2 := IS.cellAt hb (hc' k (by omega)) rfl
        clear hc hc'
        clear b1
        by_cases he : gi f k = gi g k
        · have heb : (gi f k == gi g k) = true := by simp [he]
          have HE := Lib.hid he
          clear he
          go_wp2_with (at_builtin; refine hold ?_)
          refine app1 ho (by constructor <;> omega) (by omega) (by first | omega | (simp; omega)) Try.underlying24 infoInt64 (by rfl) _ _ (by rfl) (by rfl) (by rfl) ?_
          intro v' w2 ho2 g2
          have hb2 := g2.below hb (by first | omega | (simp; omega)) (fun k hk => (ho.lt k hk).1)
          clear ho g2 hb
          go_wp2_with fail
          go_roundw
          case rel => exact ⟨k + 1, _, by omega, by go_num, hb2, ho2, by simp; omega, by unfold Hid; rw [sel_yes (by simp [HE.out]), ← hp.out]⟩
          case measure => simp [intOf]; omega
        · have heb : (gi f k == gi g k) = false := by simp [he]
          have HE := Lib.hid he
          clear he
          go_wp2_with fail
          go_roundw
          case rel => exact ⟨k + 1, _, by omega, by go_num, hb, ho, by omega, by unfold Hid; rw [sel_no (by simp [HE.out]), ← hp.out]⟩
          case measure => simp [intOf]; omega
      · have hk : k = f.length := by omega
        subst hk
        go_wp2_with fail
        go_ret2
        exact mk2_own (by rw [equR, if_pos H1.out, hp.out]) ho hb
  · have h1b : (twoCode n f g != 0) = true := by simp [h1]
    have H1 := Lib.hid h1
    clear h1
    go_enter Try.func23, Try.ntmps23
    go_wp2_with fail
    refine Hm.out.mono ?_
    rintro e w1 ⟨rfl, d1⟩
    go_wp2_with fail
    go_ret2
    exact mk2_nil (by rw [equR, if_neg H1.out]) d1
theorem s_EqualizerOf (n : Int) (_ : I64 n) {w : World} {u v : Value} {f g : List Int} (hf : IS w u f) (hg : IS w v g) :
    Calls Try.prog 24 #[.int .i64 n, u, v] w (Mk2 2 w (equR n f g)) := by
  have hm := c_l01Two n hf hg
  obtain ⟨ao, b, o, c, rfl, ha, hc⟩ := hf.ex
  obtain ⟨ao', b', o', c', rfl, ha', hc'⟩ := hg.ex
  have l1 := hf.len
  have l2 := hg.len
  have hcb := twoCode_bd n f g
  have Hm := Lib.hid hm
  clear hf hg hm
  by_cases h1 : twoCode n f g = 0
  · have hz := twoCode_zero h1
    have hle : f.length ≤ g.length ∧ f.length ≤ 256 ∧ g.length ≤ f.length := by omega
    have h1b : (twoCode n f g != 0) = false := by simp [h1]
    have H1 := Lib.hid h1
    clear h1 hz
    go_enter Try.func24, Try.ntmps24
    go_wp2_with fail
    refine Hm.out.mono ?_
    rintro e w1 ⟨rfl, d1⟩
    have b1 : Below w.heap.size w w1 := d1.below _
    clear d1 Hm
    go_wp2_with fail
    go_loopw [9, 10] (fun out i wr => ∃ (k : Nat) (os : List Int), k ≤ f.length ∧ i = .int .i64 k ∧ Below w.heap.size w wr ∧ Own 2 wr w.heap.size out os ∧ os.length ≤ k ∧ Hid (os = sel (fun i => gi f i == gi g i) k)) (fun _ i _ => f.length - (intOf i).toNat)
    case atStart => exact ⟨0, [], Nat.zero_le _, rfl, bel_alloc b1 _, Own.empty _ _ _ b1.size, Nat.le_refl _, rfl⟩
    case round =>
      obtain ⟨k, os, hk, rfl, hb, ho, hol, hp⟩ := hrel
      by_cases hlt : k < f.length
      · have hw0 := hb.size
        obtain rfl := ha (by omega)
        obtain rfl := ha' (by omega)
        have hx1 := IS.cellAt hb (hc k hlt) rfl
        have hx2 := IS.cellAt hb (hc' k (by omega)) rfl
        clear hc hc'
        clear b1
        by_cases he : gi f k = gi g k
        · have heb : (gi f k == gi g k) = true := by simp [he]
          have HE := Lib.hid he
          clear he
          go_wp2_with fail
          go_quiet (fail)
          obtain ⟨wq, hq⟩ : ∃ wq, wq = wr.drewN nq := ⟨_, rfl⟩
          rw [← hq]
          have hdq : Drawn wr wq := by subst hq; exact Drawn.step (Drawn.refl _) _
          clear hq
          replace hb := hb.trans (hdq.below _)
          replace ho := ho.kept (hdq.below _)
          have hw0 := hb.size
          clear hdq
          go_wp2_with (at_builtin; refine hold ?_)
          refine app1 ho (by constructor <;> omega) (by omega) (by first | omega | (simp; omega)) Try.underlying24 infoInt64 (by rfl) _ _ (by rfl) (by rfl) (by rfl) ?_
          intro v' w2 ho2 g2
          have hb2 := g2.below hb (by first | omega | (simp; omega)) (fun k hk => (ho.lt k hk).1)
          clear ho g2 hb
          go_wp2_with fail
          go_roundw
          case rel => exact ⟨k + 1, _, by omega, by go_num, hb2, ho2, by simp; omega, by unfold Hid; rw [sel_yes (by simp [HE.out]), ← hp.out]⟩
          case measure => simp [intOf]; omega
        · have heb : (gi f k == gi g k) = false := by simp [he]
          have HE := Lib.hid he
          clear he
          go_wp2_with fail
          go_quiet (fail)
          obtain ⟨wq, hq⟩ : ∃ wq, wq = wr.drewN nq := ⟨_, rfl⟩
          rw [← hq]
          have hdq : Drawn wr wq := by subst hq; exact Drawn.step (Drawn.refl _) _
          clear hq
          replace hb := hb.trans (hdq.below _)
          replace ho := ho.kept (hdq.below _)
          have hw0 := hb.size
          clear hdq
          go_wp2_with fail
          go_roundw
          case rel => exact ⟨k + 1, _, by omega, by go_num, hb, ho, by omega, by unfold Hid; rw [sel_no (by simp [HE.out]), ← hp.out]⟩
          case measure => simp [intOf]; omega
      · have hk : k = f.length := by omega
        subst hk
        go_wp2_with fail
        go_ret2
        exact mk2_own (by rw [equR, if_pos H1.out, hp.out]) ho hb
  · have h1b : (twoCode n f g != 0) = true := by simp [h1]
    have H1 := Lib.hid h1
    clear h1
    go_enter Try.func24, Try.ntmps24
    go_wp2_with fail
    refine Hm.out.mono ?_
    rintro e w1 ⟨rfl, d1⟩
    go_wp2_with fail
    go_ret2
    exact mk2_nil (by rw [equR, if_neg H1.out]) (d1.below _)
end Go.Proofs.Ytocgbhcfnphnhaa
