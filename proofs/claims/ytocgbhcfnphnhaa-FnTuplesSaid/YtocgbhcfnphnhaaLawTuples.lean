/- FnTuples returns true for every input and leaves its argument as it was. No condition. -/
import Derived.Test.YtocgbhcfnphnhaaLike
import Derived.Test.YtocgbhcfnphnhaaTupLaw
import Derived.Test.YtocgbhcfnphnhaaTuple2
import Derived.Test.YtocgbhcfnphnhaaTuple3
namespace Go.Proofs.Ytocgbhcfnphnhaa
open Go.ChangeShapes Go.WideShapes Go.ChangeAt Go.RowKit

set_option maxHeartbeats 1600000 in
theorem walk_FnTuples (code : Value) (w : World) (hcode : RawB w code) : Calls Try.prog 3 #[code] w (fun e w' => e = .returned (.bool true) ∧ Below w.heap.size w w') := by
  obtain ⟨ao, len, cap, bc, oc, B, rfl, hlm, -⟩ := id hcode
  have HB := Lib.hid (c_big (w := w) (ao := ao) (len := len) (cap := cap) hlm)
  by_cases hl : len ≤ 4096
  · have hlb : decide (4096 < len) = false := decide_eq_false (by omega)
    rw [hlb] at HB
    have HD := Lib.hid (fun (W : World) (hW : Below w.heap.size w W) => c_DrawTupleAt (hcode.kept hW) hl)
    clear hcode hlb
    go_enter Try.func3, Try.ntmps3
    go_wp2_with fail
    refine HB.out.mono ?_
    rintro e w0 ⟨rfl, n0, rfl⟩
    have b0 := Drawn.below (w := w) (w' := w.drewN n0) ⟨_, rfl⟩ w.heap.size
    generalize w.drewN n0 = w0 at *
    go_wp2_with fail
    refine (HD.out _ b0).mono ?_
    rintro e w1 ⟨u, k, xs, rfl, hk, o1, b1⟩
    replace b1 := bel_next b0 b1
    obtain ⟨au, cu, rfl⟩ := o1.own.shape
    have I1 := o1.is
    have hk1 := hk.1
    have hk2 := hk.2
    obtain ⟨t, c, hT⟩ : ∃ t c, tupleAtR xs k = (t, c) := ⟨_, _, rfl⟩
    have HA := Lib.hid (fun (W : World) (hW : Below w1.heap.size w1 W) => i_TupleAt (I1.kept hW) k hk)
    have HS := Lib.hid (fun (W : World) (hW : Below w1.heap.size w1 W) => s_TupleAt (I1.kept hW) k hk)
    have HN := Lib.hid (fun (W : World) (hW : Below w1.heap.size w1 W) {v : Value} (hv : IS W v t) => i_TupleNumber (I1.kept hW) hv)
    have HX := Lib.hid (fun (hk' : I64 (k + 1)) (W : World) (hW : Below w1.heap.size w1 W) => i_TupleAt (I1.kept hW) (k + 1) hk')
    rw [hT] at HA HS
    clear HD o1 I1 hk hl hlm
    go_wp2_with fail
    refine (HA.out _ (Below.refl _ _)).mono ?_
    rintro e w2 ⟨u2, rfl, o2, b2⟩
    obtain ⟨a2, c2, rfl⟩ := o2.own.shape
    have I2 := o2.is
    clear o2
    go_wp2_with fail
    refine (HS.out _ b2).mono ?_
    rintro e w3 ⟨u3, rfl, o3, b3⟩
    obtain ⟨a3, c3, rfl⟩ := o3.own.shape
    have I3 := o3.is
    replace I2 := I2.kept b3
    replace b2 := bel_next b2 b3
    clear o3 b3
    go_wp2_with fail
    refine (c_likeInts I2 I3).mono ?_
    rintro e w4 ⟨rfl, n4, rfl⟩
    rw [show (t == t) = true by simp]
    have d4 : Below w3.heap.size w3 (w3.drewN n4) := Drawn.below ⟨_, rfl⟩ _
    replace I3 := I3.kept d4
    replace b2 := bel_next b2 d4
    clear d4 I2
    generalize w3.drewN n4 = w4 at *
    by_cases hc : c = 0
    · subst hc
      have hcb : ((0 : Int) != 0) = false := by simp
      have hN := tupleNumber_of hT
      obtain ⟨-, -, -, q0, q1, -, q2, -⟩ := tupleAt_ok hT
      have hkk : 0 ≤ k ∧ k < 1000000000000 := ⟨q0, by omega⟩
      obtain ⟨kk0, kk1⟩ := hkk
      have hnx := tupleNext_of hT
      have HNN := Lib.hid (HN.out w4 b2 I3)
      rw [hN] at HNN
      have HXX := Lib.hid (HX.out ⟨by omega, by omega⟩)
      clear HN HX HA HS q0 q1 q2 hN hT hcb
      go_wp2_with fail
      refine HNN.out.mono ?_
      rintro e w5 ⟨rfl, b5⟩
      replace I3 := I3.kept b5
      replace b2 := bel_next b2 b5
      clear b5 HNN
      go_wp2_with fail
      refine (HXX.out _ b2).mono ?_
      rintro e w6 ⟨u6, rfl, o6, b6⟩
      obtain ⟨a6, c6, rfl⟩ := o6.own.shape
      have I6 := o6.is
      replace I3 := I3.kept b6
      replace b2 := bel_next b2 b6
      clear o6 b6 HXX
      have BB := bel_next b1 b2
      rcases hnx with hx | ⟨t', hx, hlen, i0, hi0, heq, hlt⟩
      · rw [hx] at I6 ⊢
        go_wp2_with fail
        go_ret
        exact ⟨rfl, BB⟩
      · rw [hx] at I6 ⊢
        dsimp only at I6 ⊢
        obtain ⟨a3', b3', o3', c3', h3, ha3, hc3⟩ := I3.ex
        obtain ⟨a6', b6', o6', c6', h6, ha6, hc6⟩ := I6.ex
        injection h3 with e1 _ e2
        injection h6 with e3 _ e4
        subst e1 e2 e3 e4
        have hl3 := I3.len
        have hl6 := I6.len
        obtain rfl := ha3 (by omega)
        obtain rfl := ha6 (by omega)
        have hi6 : i0 < t'.length := by omega
        have HE := Lib.hid heq
        have HC3 := Lib.hid hc3
        have HC6 := Lib.hid hc6
        have HL := Lib.hid hlen
        clear I3 I6 hc3 hc6 ha3 ha6 heq hx hlen
        go_wp2_with fail
        go_loopw [13] (fun iv wr => ∃ i m : Nat, i ≤ i0 ∧ iv = .int .i64 i ∧ wr = w6.drewN m) (fun iv _ => i0 + 1 - (intOf iv).toNat)
        case atStart => exact ⟨0, 0, Nat.zero_le _, rfl, rfl⟩
        case round =>
          obtain ⟨i, m, hi, rfl, rfl⟩ := hrel
          have x3 := HC3.out i (by omega)
          have x6 := HC6.out i (by omega)
          have l3 : decide ((i : Int) < (t.length : Int)) = true := decide_eq_true (by omega)
          have l6 : decide ((i : Int) < (t'.length : Int)) = true := decide_eq_true (by omega)
          have p0 : (0 : Int) ≤ (i : Int) := by omega
          have p3 : (i : Int) < (t.length : Int) := by omega
          have p6 : (i : Int) < (t'.length : Int) := by omega
          by_cases he : i = i0
          · subst he
            have hne : (gi t i != gi t' i) = true := by simp; omega
            have hlb : decide (gi t i < gi t' i) = true := decide_eq_true hlt
            clear hlt
            go_wp2_with fail
            go_quiet (fail)
            go_wp2_with fail
            go_quiet (fail)
            go_wp2_with fail
            go_ret
            exact ⟨rfl, BB.trans (Drawn.below (by repeat (first | exact Drawn.refl _ | refine Drawn.step ?_ _ | refine Drawn.one ?_)) _)⟩
          · have hne : (gi t i != gi t' i) = false := by simp [HE.out i (by omega)]
            clear hlt
            go_wp2_with fail
            go_quiet (fail)
            go_wp2_with fail
            go_roundw
            case rel => exact ⟨i + 1, _, by omega, by go_num, rfl⟩
            case measure => simp [intOf]; omega
    · have hcb : (c != 0) = true := by simp [hc]
      clear hc HN HX HA HS
      go_wp2_with fail
      go_ret
      exact ⟨rfl, bel_next b1 b2⟩
  · have hlb : decide (4096 < len) = true := decide_eq_true (by omega)
    rw [hlb] at HB
    clear hcode hlb
    go_enter Try.func3, Try.ntmps3
    go_wp2_with fail
    refine HB.out.mono ?_
    rintro e w0 ⟨rfl, n0, rfl⟩
    go_wp2_with fail
    go_ret
    exact ⟨rfl, Drawn.below (by repeat (first | exact Drawn.refl _ | refine Drawn.step ?_ _ | refine Drawn.one ?_)) _⟩
section
set_option maxRecDepth 100000 in
theorem lifted_FnTuples (os : Os) (started : os.Started) (H : Type) (enc : TypeId × Value → H) :
    ReturnsInHanded {} Try.checked os 3 .any (Rows.fnTuplesSpec.pre6 enc Try.prog Try.f3 Rows.fnTuplesRow.domain false) (Rows.fnTuplesSpec.post enc Try.prog Try.f3 false true false false) := by
  refine returnsInHanded_of_change (C := Try.checked) ownKnobNone started (by kernel_rfl) Try.func3
    (ChangeSpec.witness6 (enc := enc) (C := Try.checked) false ⟨#[], #[.slice none 0 0], []⟩ 8 (by kernel_rfl) (by kernel_rfl) (by kernel_rfl) (by kernel_rfl)) ?_
  intro W base args ds gs before hval0 hW hcnd _
  have hval : ∀ (j : Nat) t v, Try.f3.params[j]? = some t → args[j]? = some v → Value.okWide Try.prog W .any base t v := hval0
  have hW' := hW
  obtain ⟨p, q, hA0, hV, rfl, hfz, hnd⟩ := hW
  have hA : DataW.TrodAll enc Try.prog W 0 (fun _ => true) true Try.f3.params.toList args.toList ds p := hA0
  rw [Try.params3] at hA hval
  obtain ⟨v0, vs0, d0, ds0, p0, q0, hargs, rfl, rfl, h0, r0⟩ := trodAll_cons hA
  obtain ⟨rfl, rfl, rfl⟩ := trodAll_nil r0
  obtain rfl : args = #[v0] := by cases args; simp_all
  obtain ⟨rfl, rfl⟩ := trodVars_none hV
  have k0 := h0
  have lt0 : ∀ x ∈ p0, x.block < W.heap.size := by obtain ⟨m, hm⟩ := k0; exact DataW.trod_lt m _ _ _ hm
  obtain ⟨a0, len0, cap0, rfl⟩ := okWide_slice Try.underlying22 (hval 0 22 v0 rfl rfl)
  have w0 : RawB W (.slice a0 len0 cap0) := by obtain ⟨fuel, hf⟩ := h0; exact rawB_trod hf
  clear hA0 hval0
  refine (walk_FnTuples (.slice a0 len0 cap0) W w0).mono fun e W' ⟨he, bel⟩ => ?_
  subst he
  exact ⟨_, rfl, _, _, _, [], _, [], hW', trodAll_mk1 (shut_bool Try.underlying4 _), (trodAll_cons_mk (Below.trod laidOutB_prog (by kernel_rfl) (of_decide_eq_true (by kernel_rfl)) k0 bel lt0) (trodAll_mk0)), rfl, bel.frame _, fun h => by cases h⟩
end
/-- THE STATEMENT. -/
theorem proved_FnTuples : Rows.FnTuplesSaid :=
  OpenClaim.holds_of_wide 3 Try.f3 rfl rfl rfl rfl rfl rfl rfl ⟨rfl, rfl, rfl, rfl, rfl⟩ rfl rfl rfl rfl rfl (by kernel_rfl) Try.func3 (by kernel_rfl)
    (of_decide_eq_true (by kernel_rfl)) (by unfold Func.isWrapper; first | (rw [if_pos (by decide +kernel)]; kernel_rfl) | (rw [if_neg (by decide +kernel)]; exact ⟨rfl, rfl⟩))
    (fun os started H enc _ => lifted_FnTuples os started H enc)
end Go.Proofs.Ytocgbhcfnphnhaa
