/- FnEqualizers returns true for every input and leaves its argument as it was. No condition. -/
import Derived.Test.YtocgbhcfnphnhaaLike
import Derived.Test.YtocgbhcfnphnhaaDraw2
import Derived.Test.YtocgbhcfnphnhaaEqz
namespace Go.Proofs.Ytocgbhcfnphnhaa
open Go.ChangeShapes Go.WideShapes Go.ChangeAt Go.RowKit

set_option maxHeartbeats 3200000 in
set_option maxRecDepth 100000 in
theorem walk_FnEqualizers (code : Value) (w : World) (hcode : RawB w code) : Calls Try.prog 5 #[code] w (fun e w' => e = .returned (.bool true) ∧ Below w.heap.size w w') := by
  obtain ⟨ao, len, cap, bc, oc, B, rfl, hlm, -⟩ := id hcode
  have HB := Lib.hid (c_big (w := w) (ao := ao) (len := len) (cap := cap) hlm)
  by_cases hl : len ≤ 4096
  · have hlb : decide (4096 < len) = false := decide_eq_false (by omega)
    rw [hlb] at HB
    have HD := Lib.hid (fun (W : World) (hW : Below w.heap.size w W) => c_DrawCoequalizerOf (hcode.kept hW) hl)
    clear hcode hlb
    go_enter Try.func5, Try.ntmps5
    go_wp2_with fail
    refine HB.out.mono ?_
    rintro e w0 ⟨rfl, n0, rfl⟩
    have b0 := Drawn.below (w := w) (w' := w.drewN n0) ⟨_, rfl⟩ w.heap.size
    generalize w.drewN n0 = w0 at *
    go_wp2_with fail
    refine (HD.out _ b0).mono ?_
    rintro e w1 ⟨n, uf, ug, f, g, rfl, hn, If, Ig, b1⟩
    replace b1 := bel_next b0 b1
    have HIf := Lib.hid If
    have HIg := Lib.hid Ig
    obtain ⟨af, bf, of', cf, rfl, haf, hcf⟩ := If.ex
    obtain ⟨ag, bg, og, cg, rfl, hag, hcg⟩ := Ig.ex
    have hlf := If.len
    have hlgg := Ig.len
    have HCF := Lib.hid hcf
    have HCG := Lib.hid hcg
    have hn1 := hn.1
    have hn2 := hn.2
    have HC := Lib.hid (fun (W : World) (hW : Below w1.heap.size w1 W) => i_CoequalizerOf n hn (HIf.out.kept hW) (HIg.out.kept hW))
    have HC2 := Lib.hid (fun (W : World) (hW : Below w1.heap.size w1 W) => s_CoequalizerOf n hn (HIf.out.kept hW) (HIg.out.kept hW))
    have HE := Lib.hid (fun (W : World) (hW : Below w1.heap.size w1 W) => i_EqualizerOf n hn (HIf.out.kept hW) (HIg.out.kept hW))
    have HE2 := Lib.hid (fun (W : World) (hW : Below w1.heap.size w1 W) => s_EqualizerOf n hn (HIf.out.kept hW) (HIg.out.kept hW))
    have HT := Lib.hid (fun (k : Int) (hk : I64 k) (c : List Int) (W : World) (hW : Below w1.heap.size w1 W) {v : Value} (hv : IS W v c) => i_ThenMaps n hn (HIf.out.kept hW) k hk hv)
    have HT2 := Lib.hid (fun (k : Int) (hk : I64 k) (c : List Int) (W : World) (hW : Below w1.heap.size w1 W) {v : Value} (hv : IS W v c) => i_ThenMaps n hn (HIg.out.kept hW) k hk hv)
    clear If Ig HD hn hcf hcg hl hlm
    obtain ⟨c, bad, hcR⟩ : ∃ c bad, coR n f g = (c, bad) := ⟨_, _, rfl⟩
    obtain ⟨due, one, heR⟩ : ∃ c bad, equR n f g = (c, bad) := ⟨_, _, rfl⟩
    rw [hcR] at HC HC2
    rw [heR] at HE HE2
    go_wp2_with fail
    refine (HC.out _ (Below.refl _ _)).mono ?_
    rintro e w2 ⟨u2, rfl, o2, b2⟩
    obtain ⟨a2, c2, rfl⟩ := o2.own.shape
    have I2 := o2.is
    clear o2
    go_wp2_with fail
    refine (HC2.out _ b2).mono ?_
    rintro e w3 ⟨u3, rfl, o3, b3⟩
    obtain ⟨a3, c3, rfl⟩ := o3.own.shape
    have I3 := o3.is
    replace I2 := I2.kept b3
    replace b2 := bel_next b2 b3
    clear o3 b3
    go_wp2_with fail
    refine (HE.out _ b2).mono ?_
    rintro e w4 ⟨u4, rfl, o4, b4⟩
    obtain ⟨a4, c4, rfl⟩ := o4.own.shape
    have I4 := o4.is
    replace I2 := I2.kept b4
    replace I3 := I3.kept b4
    replace b2 := bel_next b2 b4
    clear o4 b4
    go_wp2_with fail
    refine (HE2.out _ b2).mono ?_
    rintro e w5 ⟨u5, rfl, o5, b5⟩
    obtain ⟨a5, c5, rfl⟩ := o5.own.shape
    have I5 := o5.is
    replace I2 := I2.kept b5
    replace I3 := I3.kept b5
    replace I4 := I4.kept b5
    replace b2 := bel_next b2 b5
    clear o5 b5 HC HC2 HE HE2
    go_wp2_with fail
    refine (c_likeInts I2 I3).mono ?_
    rintro e w6 ⟨rfl, n6, rfl⟩
    rw [show (c == c) = true by simp]
    have d6 : Below w5.heap.size w5 (w5.drewN n6) := Drawn.below ⟨_, rfl⟩ _
    replace I3 := I3.kept d6
    replace I4 := I4.kept d6
    replace I5 := I5.kept d6
    replace b2 := bel_next b2 d6
    clear d6 I2
    generalize w5.drewN n6 = w6 at *
    go_wp2_with fail
    refine (c_likeInts I4 I5).mono ?_
    rintro e w7 ⟨rfl, n7, rfl⟩
    rw [show (due == due) = true by simp]
    have d7 : Below w6.heap.size w6 (w6.drewN n7) := Drawn.below ⟨_, rfl⟩ _
    replace I3 := I3.kept d7
    replace I5 := I5.kept d7
    replace b2 := bel_next b2 d7
    clear d7 I4
    generalize w6.drewN n7 = w7 at *
    by_cases hbad : bad = 0
    · subst hbad
      have htw : twoCode n f g = 0 := by
        unfold coR at hcR
        by_cases h : twoCode n f g = 0
        · exact h
        · rw [if_neg h] at hcR; exact absurd (congrArg Prod.snd hcR) h
      obtain ⟨c', hc', he', hb', a, ht1, ht2⟩ := eqz_facts htw
      rw [hcR] at hc'
      rw [heR] at he'
      injection hc' with hc' _
      injection he' with he' he0
      subst hc' he0
      obtain ⟨-, -, -, hlen, -, -⟩ := twoCode_zero htw
      have htop0 := (topF_ge c 0).1
      have htop1 := topF_le c 1000001 0 (by omega) (fun x hx => by have := (hb' x hx).2; omega)
      have HTOP := Lib.hid (fun (W : World) {v : Value} (hv : IS W v c) => c_top5 hv hb')
      have HT' := Lib.hid (HT.out (topF c 0) ⟨by omega, by omega⟩ c)
      have HT2' := Lib.hid (HT2.out (topF c 0) ⟨by omega, by omega⟩ c)
      rw [ht1] at HT'
      rw [ht2] at HT2'
      have HDUE := Lib.hid (fun k (hk : k < f.length) => show decide ((k : Int) ∈ due) = (gi f k == gi g k) by
        rw [he']
        cases hb : (gi f k == gi g k) with
        | true => exact decide_eq_true (mem_sel.2 ⟨hk, hb⟩)
        | false => exact decide_eq_false (fun hm => by have := (mem_sel.1 hm).2; rw [hb] at this; cases this))
      have HLEN := Lib.hid hlen
      generalize topF c 0 = top at *
      clear HT HT2 htw ht1 ht2 hb' he' hcR heR hlen
      go_wp2_with fail
      refine (HTOP.out _ I3).mono ?_
      rintro e w8 ⟨rfl, n8, rfl⟩
      have d8 : Below w7.heap.size w7 (w7.drewN n8) := Drawn.below ⟨_, rfl⟩ _
      replace I3 := I3.kept d8
      replace I5 := I5.kept d8
      replace b2 := bel_next b2 d8
      clear d8
      generalize w7.drewN n8 = w8 at *
      go_wp2_with fail
      refine (HT'.out _ b2 I3).mono ?_
      rintro e w9 ⟨u9, rfl, o9, b9⟩
      obtain ⟨a9, c9, rfl⟩ := o9.own.shape
      have I9 := o9.is
      replace I3 := I3.kept b9
      replace I5 := I5.kept b9
      replace b2 := bel_next b2 b9
      clear o9 b9
      go_wp2_with fail
      refine (HTOP.out _ I3).mono ?_
      rintro e w10 ⟨rfl, n10, rfl⟩
      have d10 : Below w9.heap.size w9 (w9.drewN n10) := Drawn.below ⟨_, rfl⟩ _
      replace I3 := I3.kept d10
      replace I5 := I5.kept d10
      replace I9 := I9.kept d10
      replace b2 := bel_next b2 d10
      clear d10
      generalize w9.drewN n10 = w10 at *
      go_wp2_with fail
      refine (HT2'.out _ b2 I3).mono ?_
      rintro e w11 ⟨u11, rfl, o11, b11⟩
      obtain ⟨a11, c11, rfl⟩ := o11.own.shape
      have I11 := o11.is
      replace I5 := I5.kept b11
      replace I9 := I9.kept b11
      replace b2 := bel_next b2 b11
      clear o11 b11 I3 HT' HT2' HTOP
      have key : ∀ W, Below w11.heap.size w11 W → (∀ i, i < f.length → W.cell? ⟨bf, of' + i, none⟩ = some (.int .i64 (gi f i))) ∧ (∀ i, i < g.length → W.cell? ⟨bg, og + i, none⟩ = some (.int .i64 (gi g i))) ∧ Below w.heap.size w W ∧ ∀ k, k < f.length → Calls Try.prog 27 #[.slice a5 due.length c5, .int .i64 (k : Int)] W (Rd W (.bool (gi f k == gi g k))) := fun W hW =>
        ⟨fun i hi => upc (bel_next b2 hW) (HCF.out i hi), fun i hi => upc (bel_next b2 hW) (HCG.out i hi), bel_next b1 (bel_next b2 hW), fun k hk => by rw [← HDUE.out k hk]; exact c_hasInt (I5.kept hW) k⟩
      have HKEY := Lib.hid key
      have HLIKE := Lib.hid (c_likeInts I9 I11)
      rw [show (a == a) = true by simp] at HLIKE
      clear key I5 I9 I11 b1 b2 HCF HCG HIf HIg
      by_cases hnp : 0 < n
      · have nb : decide (0 < n) = true := decide_eq_true hnp
        go_wp2_with fail
        refine HLIKE.out.mono ?_
        rintro e w12 ⟨rfl, n12, rfl⟩
        have hkk := HKEY.out (w11.drewN n12) (Drawn.below ⟨_, rfl⟩ _)
        have HW12 := Lib.hid (fun W (hW : Drawn (w11.drewN n12) W) => HKEY.out W ((Drawn.below (w := w11) (w' := w11.drewN n12) ⟨_, rfl⟩ _).trans (hW.below _)))
        clear HKEY
        generalize w11.drewN n12 = w12 at *
        go_wp2_with fail
        go_loopw [18] (fun iv wr => ∃ k : Nat, k ≤ f.length ∧ iv = .int .i64 k ∧ Drawn w12 wr) (fun iv _ => f.length - (intOf iv).toNat)
        case atStart => exact ⟨0, Nat.zero_le _, rfl, Drawn.refl _⟩
        case round =>
          obtain ⟨k, hk, rfl, hdw⟩ := hrel
          have hk2 := HW12.out wr hdw
          by_cases hlt : k < f.length
          · obtain rfl := haf (by omega)
            obtain rfl := hag (by have := HLEN.out; omega)
            have hlt2 : k < g.length := by have := HLEN.out; omega
            have x1 := hk2.1 k hlt
            have x2 := hk2.2.1 k hlt2
            have p0 : (0 : Int) ≤ (k : Int) := by omega
            have p1 : (k : Int) < (f.length : Int) := by omega
            have p2 : (k : Int) < (g.length : Int) := by omega
            have HQ := Lib.hid (fun W (hW : Drawn w12 W) => (HW12.out W hW).2.2.2 k hlt)
            go_wp2_with fail
            go_quiet ((go_at_call 27; with_reducible exact Calls.quiet_of (HQ.out _ (Drawn.step hdw _))))
            go_wp2_with fail
            go_roundw
            case rel => exact ⟨k + 1, by omega, by go_num, Drawn.step hdw _⟩
            case measure => simp [intOf]; omega
          · have hke : f.length = k := by omega
            subst hke
            go_wp2_with fail
            go_ret
            exact ⟨rfl, hk2.2.2.1⟩
      · have nb : decide (0 < n) = false := decide_eq_false hnp
        have hkk := HKEY.out w11 (Below.refl _ _)
        have HW12 := Lib.hid (fun W (hW : Drawn w11 W) => HKEY.out W (hW.below _))
        clear HKEY
        generalize w11 = w12 at *
        go_wp2_with fail
        go_loopw [18] (fun iv wr => ∃ k : Nat, k ≤ f.length ∧ iv = .int .i64 k ∧ Drawn w12 wr) (fun iv _ => f.length - (intOf iv).toNat)
        case atStart => exact ⟨0, Nat.zero_le _, rfl, Drawn.refl _⟩
        case round =>
          obtain ⟨k, hk, rfl, hdw⟩ := hrel
          have hk2 := HW12.out wr hdw
          by_cases hlt : k < f.length
          · obtain rfl := haf (by omega)
            obtain rfl := hag (by have := HLEN.out; omega)
            have hlt2 : k < g.length := by have := HLEN.out; omega
            have x1 := hk2.1 k hlt
            have x2 := hk2.2.1 k hlt2
            have p0 : (0 : Int) ≤ (k : Int) := by omega
            have p1 : (k : Int) < (f.length : Int) := by omega
            have p2 : (k : Int) < (g.length : Int) := by omega
            have HQ := Lib.hid (fun W (hW : Drawn w12 W) => (HW12.out W hW).2.2.2 k hlt)
            go_wp2_with fail
            go_quiet ((go_at_call 27; with_reducible exact Calls.quiet_of (HQ.out _ (Drawn.step hdw _))))
            go_wp2_with fail
            go_roundw
            case rel => exact ⟨k + 1, by omega, by go_num, Drawn.step hdw _⟩
            case measure => simp [intOf]; omega
          · have hke : f.length = k := by omega
            subst hke
            go_wp2_with fail
            go_ret
            exact ⟨rfl, hk2.2.2.1⟩
    · have hcb : (bad != 0) = true := by simp [hbad]
      clear hbad HT HT2
      go_wp2_with fail
      go_ret
      exact ⟨rfl, bel_next b1 b2⟩
  · have hlb : decide (4096 < len) = true := decide_eq_true (by omega)
    rw [hlb] at HB
    clear hcode hlb
    go_enter Try.func5, Try.ntmps5
    go_wp2_with fail
    refine HB.out.mono ?_
    rintro e w0 ⟨rfl, n0, rfl⟩
    go_wp2_with fail
    go_ret
    exact ⟨rfl, Drawn.below (by repeat (first | exact Drawn.refl _ | refine Drawn.step ?_ _ | refine Drawn.one ?_)) _⟩
section
set_option maxRecDepth 100000 in
theorem lifted_FnEqualizers (os : Os) (started : os.Started) (H : Type) (enc : TypeId × Value → H) :
    ReturnsInHanded {} Try.checked os 5 .any (Rows.fnEqualizersSpec.pre6 enc Try.prog Try.f5 Rows.fnEqualizersRow.domain false) (Rows.fnEqualizersSpec.post enc Try.prog Try.f5 false true false false) := by
  refine returnsInHanded_of_change (C := Try.checked) ownKnobNone started (by kernel_rfl) Try.func5
    (ChangeSpec.witness6 (enc := enc) (C := Try.checked) false ⟨#[], #[.slice none 0 0], []⟩ 8 (by kernel_rfl) (by kernel_rfl) (by kernel_rfl) (by kernel_rfl)) ?_
  intro W base args ds gs before hval0 hW hcnd _
  have hval : ∀ (j : Nat) t v, Try.f5.params[j]? = some t → args[j]? = some v → Value.okWide Try.prog W .any base t v := hval0
  have hW' := hW
  obtain ⟨p, q, hA0, hV, rfl, hfz, hnd⟩ := hW
  have hA : DataW.TrodAll enc Try.prog W 0 (fun _ => true) true Try.f5.params.toList args.toList ds p := hA0
  rw [Try.params5] at hA hval
  obtain ⟨v0, vs0, d0, ds0, p0, q0, hargs, rfl, rfl, h0, r0⟩ := trodAll_cons hA
  obtain ⟨rfl, rfl, rfl⟩ := trodAll_nil r0
  obtain rfl : args = #[v0] := by cases args; simp_all
  obtain ⟨rfl, rfl⟩ := trodVars_none hV
  have k0 := h0
  have lt0 : ∀ x ∈ p0, x.block < W.heap.size := by obtain ⟨m, hm⟩ := k0; exact DataW.trod_lt m _ _ _ hm
  obtain ⟨a0, len0, cap0, rfl⟩ := okWide_slice Try.underlying22 (hval 0 22 v0 rfl rfl)
  have w0 : RawB W (.slice a0 len0 cap0) := by obtain ⟨fuel, hf⟩ := h0; exact rawB_trod hf
  clear hA0 hval0
  refine (walk_FnEqualizers (.slice a0 len0 cap0) W w0).mono fun e W' ⟨he, bel⟩ => ?_
  subst he
  exact ⟨_, rfl, _, _, _, [], _, [], hW', trodAll_mk1 (shut_bool Try.underlying4 _), (trodAll_cons_mk (Below.trod laidOutB_prog (by kernel_rfl) (of_decide_eq_true (by kernel_rfl)) k0 bel lt0) (trodAll_mk0)), rfl, bel.frame _, fun h => by cases h⟩
end
/-- THE STATEMENT. -/
theorem proved_FnEqualizers : Rows.FnEqualizersSaid :=
  OpenClaim.holds_of_wide 5 Try.f5 rfl rfl rfl rfl rfl rfl rfl ⟨rfl, rfl, rfl, rfl, rfl⟩ rfl rfl rfl rfl rfl (by kernel_rfl) Try.func5 (by kernel_rfl)
    (of_decide_eq_true (by kernel_rfl)) (by unfold Func.isWrapper; first | (rw [if_pos (by decide +kernel)]; kernel_rfl) | (rw [if_neg (by decide +kernel)]; exact ⟨rfl, rfl⟩))
    (fun os started H enc _ => lifted_FnEqualizers os started H enc)
end Go.Proofs.Ytocgbhcfnphnhaa
