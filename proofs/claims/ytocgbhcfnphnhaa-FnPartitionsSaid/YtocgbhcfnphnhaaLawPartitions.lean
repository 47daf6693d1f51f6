/- FnPartitions returns true for every input and leaves its argument as it was. No condition. -/
import Derived.Test.YtocgbhcfnphnhaaLike
import Derived.Test.YtocgbhcfnphnhaaDraw4
import Derived.Test.YtocgbhcfnphnhaaParts
namespace Go.Proofs.Ytocgbhcfnphnhaa
open Go.ChangeShapes Go.WideShapes Go.ChangeAt Go.RowKit

theorem grew_drawn {wr w' : World} {q : Nat} {v v' : Value} (g : Grew (wr.drewN q) w' v v') : Grew wr w' v v' := ⟨⟨g.grown.os, g.grown.tape, g.grown.output, g.grown.size, g.grown.block⟩, g.blk⟩
set_option maxHeartbeats 3200000 in
set_option maxRecDepth 100000 in
theorem walk_FnPartitions (code : Value) (w : World) (hcode : RawB w code) : Calls Try.prog 4 #[code] w (fun e w' => e = .returned (.bool true) ∧ Below w.heap.size w w') := by
  obtain ⟨ao, len, cap, bc, oc, B, rfl, hlm, -⟩ := id hcode
  have HB := Lib.hid (c_big (w := w) (ao := ao) (len := len) (cap := cap) hlm)
  by_cases hl : len ≤ 4096
  · have hlb : decide (4096 < len) = false := decide_eq_false (by omega)
    rw [hlb] at HB
    have HD := Lib.hid (fun (W : World) (hW : Below w.heap.size w W) => c_DrawMeetPartitions (hcode.kept hW) hl)
    clear hcode hlb
    go_enter Try.func4, Try.ntmps4
    go_wp2_with fail
    refine HB.out.mono ?_
    rintro e w0 ⟨rfl, n0, rfl⟩
    have b0 := Drawn.below (w := w) (w' := w.drewN n0) ⟨_, rfl⟩ w.heap.size
    generalize w.drewN n0 = w0 at *
    go_wp2_with fail
    refine (HD.out _ b0).mono ?_
    rintro e w1 ⟨up, uq, p, q, rfl, Ip, Iq, hpl, hql, b1⟩
    replace b1 := bel_next b0 b1
    have HIp := Lib.hid Ip
    have HIq := Lib.hid Iq
    obtain ⟨ap, bp, op, cp, rfl, hap, hcp⟩ := Ip.ex
    obtain ⟨aq, bq, oq, cq, rfl, haq, hcq⟩ := Iq.ex
    have HCP := Lib.hid hcp
    have HCQ := Lib.hid hcq
    have HM := Lib.hid (i_MeetPartitions Ip Iq)
    have HJ := Lib.hid (fun (W : World) (hW : Below w1.heap.size w1 W) => i_JoinPartitions (HIp.out.kept hW) (HIq.out.kept hW))
    have HM2 := Lib.hid (fun (W : World) (hW : Below w1.heap.size w1 W) => s_MeetPartitions (HIp.out.kept hW) (HIq.out.kept hW))
    have HJ2 := Lib.hid (fun (W : World) (hW : Below w1.heap.size w1 W) => s_JoinPartitions (HIp.out.kept hW) (HIq.out.kept hW))
    clear Ip Iq HD hcp hcq hl hlm
    obtain ⟨m, bad, hmR⟩ : ∃ c bad, meetR p q = (c, bad) := ⟨_, _, rfl⟩
    obtain ⟨j, one, hjR⟩ : ∃ c bad, jparR p q = (c, bad) := ⟨_, _, rfl⟩
    rw [hmR] at HM HM2
    rw [hjR] at HJ HJ2
    go_wp2_with fail
    refine HM.out.mono ?_
    rintro e w2 ⟨u2, rfl, o2, b2⟩
    obtain ⟨a2, c2, rfl⟩ := o2.own.shape
    have I2 := o2.is
    clear o2
    go_wp2_with fail
    refine (HJ.out _ b2).mono ?_
    rintro e w3 ⟨u3, rfl, o3, b3⟩
    obtain ⟨a3, c3, rfl⟩ := o3.own.shape
    have I3 := o3.is
    replace I2 := I2.kept b3
    replace b2 := bel_next b2 b3
    clear o3 b3
    go_wp2_with fail
    refine (HM2.out _ b2).mono ?_
    rintro e w4 ⟨u4, rfl, o4, b4⟩
    obtain ⟨a4, c4, rfl⟩ := o4.own.shape
    have I4 := o4.is
    replace I2 := I2.kept b4
    replace I3 := I3.kept b4
    replace b2 := bel_next b2 b4
    clear o4 b4
    go_wp2_with fail
    refine (HJ2.out _ b2).mono ?_
    rintro e w5 ⟨u5, rfl, o5, b5⟩
    obtain ⟨a5, c5, rfl⟩ := o5.own.shape
    have I5 := o5.is
    replace I2 := I2.kept b5
    replace I3 := I3.kept b5
    replace I4 := I4.kept b5
    replace b2 := bel_next b2 b5
    clear o5 b5 HM HM2 HJ HJ2
    go_wp2_with fail
    refine (c_likeInts I2 I4).mono ?_
    rintro e w6 ⟨rfl, n6, rfl⟩
    rw [show (m == m) = true by simp]
    have d6 : Below w5.heap.size w5 (w5.drewN n6) := Drawn.below ⟨_, rfl⟩ _
    replace I2 := I2.kept d6
    replace I3 := I3.kept d6
    replace I4 := I4.kept d6
    replace I5 := I5.kept d6
    replace b2 := bel_next b2 d6
    clear d6
    generalize w5.drewN n6 = w6 at *
    go_wp2_with fail
    refine (c_likeInts I3 I5).mono ?_
    rintro e w7 ⟨rfl, n7, rfl⟩
    rw [show (j == j) = true by simp]
    have d7 : Below w6.heap.size w6 (w6.drewN n7) := Drawn.below ⟨_, rfl⟩ _
    replace I2 := I2.kept d7
    replace I3 := I3.kept d7
    replace I4 := I4.kept d7
    replace I5 := I5.kept d7
    replace b2 := bel_next b2 d7
    clear d7
    generalize w6.drewN n7 = w7 at *
    by_cases htp : twoParts p q = true
    · obtain ⟨m', j', hm', hj', hlpq, hl256, hlm, hlj, pm, pj, hjp, hmi, hji⟩ := parts_facts htp
      rw [hmR] at hm'
      rw [hjR] at hj'
      injection hm' with e1 e2
      injection hj' with e3 e4
      subst e1 e2 e3 e4
      obtain ⟨b4', o4', hc4⟩ : ∃ b o, (0 < m.length → a4 = some ⟨b, o, none⟩) ∧ ∀ i, i < m.length → w7.cell? ⟨b, o + i, none⟩ = some (.int .i64 (gi m i)) := by
        obtain ⟨a, b, o, c, hv, ha, hc⟩ := I4.ex
        injection hv with e1 e2 e3
        exact ⟨b, o, fun h => e1.trans (ha h), hc⟩
      obtain ⟨b5', o5', hc5⟩ : ∃ b o, (0 < j.length → a5 = some ⟨b, o, none⟩) ∧ ∀ i, i < j.length → w7.cell? ⟨b, o + i, none⟩ = some (.int .i64 (gi j i)) := by
        obtain ⟨a, b, o, c, hv, ha, hc⟩ := I5.ex
        injection hv with e1 e2 e3
        exact ⟨b, o, fun h => e1.trans (ha h), hc⟩
      have HLPQ := Lib.hid hlpq
      have HHM := Lib.hid hmi
      have HHJ := Lib.hid hji
      have HLM := Lib.hid hlm
      have HLJ := Lib.hid hlj
      have HJP := Lib.hid hjp
      have HC4 := Lib.hid hc4
      have HC5 := Lib.hid hc5
      clear hlpq hmi hji hlm hlj hjp hc4 hc5 hmR hjR htp
      go_wp2_with fail
      go_loopw [13, 14, 15, 16] (fun out xv _ _ wr => ∃ x : Nat, x ≤ p.length ∧ xv = .int .i64 x ∧ Below w7.heap.size w7 wr ∧ w7.heap.size ≤ wr.heap.size ∧ OF 2 24 w7.heap.size wr.heap.size wr out (eqPrs p x).length (gr (eqPrs p x))) (fun _ xv _ _ _ => p.length - (intOf xv).toNat)
      case atStart => exact ⟨0, Nat.zero_le _, rfl, bel_alloc (Below.refl _ _) _, by simp, by rw [World.size_alloc]; exact OF.empty (Nat.le_refl _) rfl⟩
      case round =>
        obtain ⟨x, hx, rfl, hb, hw2, ho⟩ := hrel
        by_cases hlt : x < p.length
        · go_wp2_with fail
          go_loopw [13, 15, 16] (fun out yv _ wr => ∃ y : Nat, y ≤ x ∧ yv = .int .i64 y ∧ Below w7.heap.size w7 wr ∧ w7.heap.size ≤ wr.heap.size ∧ OF 2 24 w7.heap.size wr.heap.size wr out (eqPrs p x ++ eqRow p x y).length (gr (eqPrs p x ++ eqRow p x y))) (fun _ yv _ _ => x - (intOf yv).toNat)
          case atStart => exact ⟨0, Nat.zero_le _, rfl, hb, hw2, by simpa [eqRow] using ho⟩
          case round =>
            obtain ⟨y, hy, rfl, hb3, hw3, ho3⟩ := hrel
            by_cases hly : y < x
            · have hy2 : y < p.length := by omega
              obtain rfl := hap (by omega)
              obtain rfl := haq (by have := HLPQ.out; omega)
              obtain rfl := HC4.out.1 (by have := HLM.out; omega)
              obtain rfl := HC5.out.1 (by have := HLJ.out; omega)
              have cpx := upc (bel_next b2 hb3) (HCP.out x hlt)
              have cpy := upc (bel_next b2 hb3) (HCP.out y hy2)
              have cqx := upc (bel_next b2 hb3) (HCQ.out x (by have := HLPQ.out; omega))
              have cqy := upc (bel_next b2 hb3) (HCQ.out y (by have := HLPQ.out; omega))
              have cmx := upc hb3 (HC4.out.2 x (by have := HLM.out; omega))
              have cmy := upc hb3 (HC4.out.2 y (by have := HLM.out; omega))
              have cjx := upc hb3 (HC5.out.2 x (by have := HLJ.out; omega))
              have cjy := upc hb3 (HC5.out.2 y (by have := HLJ.out; omega))
              have HMI := Lib.hid (HHM.out x y hlt hy2)
              have HJI := Lib.hid (HHJ.out x y hlt hy2)
              have q1 : (x : Int) < (q.length : Int) := by have := HLPQ.out; omega
              have q2 : (y : Int) < (q.length : Int) := by omega
              have q3 : (x : Int) < (m.length : Int) := by have := HLM.out; omega
              have q4 : (y : Int) < (m.length : Int) := by omega
              have q5 : (x : Int) < (j.length : Int) := by have := HLJ.out; omega
              have q6 : (y : Int) < (j.length : Int) := by omega
              have hLL : (eqPrs p x ++ eqRow p x y).length ≤ 301 * 301 + 301 := by
                have h1 := eqPrs_len p x (by omega)
                have h2 := eqRow_len p x y
                rw [List.length_append]
                omega
              obtain ⟨L, hLe⟩ : ∃ L, L = eqPrs p x ++ eqRow p x y := ⟨_, rfl⟩
              rw [← hLe] at ho3 hLL
              have HLE := Lib.hid hLe
              clear hLe
              obtain ⟨ao9, g9, c9, V9, hv9, -, -, -⟩ := ho3.opened
              subst hv9
              clear ho hb hw2
              by_cases ep : gi p x = gi p y
              · have HEP := Lib.hid ep
                have ebp : (gi p x == gi p y) = true := by simp [ep]
                by_cases eq : gi q x = gi q y
                · have ebq : (gi q x == gi q y) = true := by simp [eq]
                  have ebm : (gi m x == gi m y) = true := by simp [HMI.out.2 ⟨ep, eq⟩]
                  have ebj : (gi j x != gi j y) = false := by simp; exact HJI.out (.inl ep)
                  clear ep eq
                  go_wp2_with fail
                  go_quiet (fail)
                  go_wp2_with fail
                  go_quiet (fail)
                  go_wp2_with fail
                  go_quiet (fail)
                  go_wp2_with (at_builtin; refine hold ?_)
                  refine appSS (by decide) ((ho3.keptB (Drawn.below ⟨_, rfl⟩ _)).alloc _) (OwnT.lit2' (a := (x : Int)) (b := (y : Int)) (by constructor <;> omega) (by constructor <;> omega) rfl) (by omega) (by simp) (by omega) Try.underlying34 infoInts (by rfl) _ _ (by rfl) (by rfl) (by rfl) (by simp) ?_
                  intro v' w4 ho4 g4
                  have g4' := grew_drawn g4.of_alloc
                  have hsz4 := g4'.grown.size
                  have hb4 := g4'.below hb3 hw3 (fun k hk => by obtain ⟨V, h1, _⟩ := ho3; exact (h1.lt k hk).1)
                  have HO4 := Lib.hid ho4.snoc
                  clear g4 g4' ho4 ho3 hb3
                  go_wp2_with fail
                  go_roundw
                  case rel => exact ⟨y + 1, by omega, by go_num, hb4, by omega, by rw [eqRow, if_pos HEP.out, ← List.append_assoc, ← HLE.out]; exact HO4.out⟩
                  case measure => simp [intOf]; omega
                · have ebq : (gi q x == gi q y) = false := by simp [eq]
                  have ebm : (gi m x == gi m y) = false := by simp; intro e; exact eq (HMI.out.1 e).2
                  have ebj : (gi j x != gi j y) = false := by simp; exact HJI.out (.inl ep)
                  clear ep eq
                  go_wp2_with fail
                  go_quiet (fail)
                  go_wp2_with fail
                  go_quiet (fail)
                  go_wp2_with fail
                  go_quiet (fail)
                  go_wp2_with (at_builtin; refine hold ?_)
                  refine appSS (by decide) ((ho3.keptB (Drawn.below ⟨_, rfl⟩ _)).alloc _) (OwnT.lit2' (a := (x : Int)) (b := (y : Int)) (by constructor <;> omega) (by constructor <;> omega) rfl) (by omega) (by simp) (by omega) Try.underlying34 infoInts (by rfl) _ _ (by rfl) (by rfl) (by rfl) (by simp) ?_
                  intro v' w4 ho4 g4
                  have g4' := grew_drawn g4.of_alloc
                  have hsz4 := g4'.grown.size
                  have hb4 := g4'.below hb3 hw3 (fun k hk => by obtain ⟨V, h1, _⟩ := ho3; exact (h1.lt k hk).1)
                  have HO4 := Lib.hid ho4.snoc
                  clear g4 g4' ho4 ho3 hb3
                  go_wp2_with fail
                  go_roundw
                  case rel => exact ⟨y + 1, by omega, by go_num, hb4, by omega, by rw [eqRow, if_pos HEP.out, ← List.append_assoc, ← HLE.out]; exact HO4.out⟩
                  case measure => simp [intOf]; omega
              · have HEP := Lib.hid ep
                have ebp : (gi p x == gi p y) = false := by simp [ep]
                by_cases eq : gi q x = gi q y
                · have ebq : (gi q x == gi q y) = true := by simp [eq]
                  have ebm : (gi m x == gi m y) = false := by simp; intro e; exact ep (HMI.out.1 e).1
                  have ebj : (gi j x != gi j y) = false := by simp; exact HJI.out (.inr eq)
                  clear ep eq
                  go_wp2_with fail
                  go_quiet (fail)
                  go_wp2_with fail
                  go_quiet (fail)
                  go_wp2_with fail
                  go_quiet (fail)
                  go_wp2_with fail
                  go_roundw
                  case rel => exact ⟨y + 1, by omega, by go_num, bel_next hb3 (Drawn.below ⟨_, rfl⟩ _), by simpa using hw3, by rw [eqRow, if_neg HEP.out, List.append_nil, ← HLE.out]; exact (ho3.keptB (Drawn.below ⟨_, rfl⟩ _)).mono (Nat.le_refl _) (by simp)⟩
                  case measure => simp [intOf]; omega
                · have ebq : (gi q x == gi q y) = false := by simp [eq]
                  have ebm : (gi m x == gi m y) = false := by simp; intro e; exact eq (HMI.out.1 e).2
                  clear ep eq
                  go_wp2_with fail
                  go_quiet (fail)
                  go_wp2_with fail
                  go_quiet (fail)
                  go_wp2_with fail
                  go_quiet (fail)
                  go_wp2_with fail
                  go_roundw
                  case rel => exact ⟨y + 1, by omega, by go_num, bel_next hb3 (Drawn.below ⟨_, rfl⟩ _), by simpa using hw3, by rw [eqRow, if_neg HEP.out, List.append_nil, ← HLE.out]; exact (ho3.keptB (Drawn.below ⟨_, rfl⟩ _)).mono (Nat.le_refl _) (by simp)⟩
                  case measure => simp [intOf]; omega
            · have hye : x = y := by omega
              subst hye
              clear ho hb hw2
              go_wp2_with fail
              go_roundw
              case rel => exact ⟨x + 1, by omega, by go_num, hb3, hw3, ho3⟩
              case measure => simp [intOf]; omega
        · have hxe : p.length = x := by omega
          subst hxe
          have hpl2 := eqPrs_len p p.length (by omega)
          have Is := ho.iss (by omega)
          obtain ⟨ao9, g9, c9, V9, hv9, -, -, -⟩ := ho.opened
          subst hv9
          have HX := Lib.hid (i_JoinPairs (p.length : Int) (by constructor <;> omega) Is)
          rw [HJP.out] at HX
          have J2 := I2.kept hb
          have J3 := I3.kept hb
          have Jp := HIp.out.kept (bel_next b2 hb)
          have hbw := bel_next b1 (bel_next b2 hb)
          clear ho Is hb
          go_wp2_with fail
          refine HX.out.mono ?_
          rintro e w8 ⟨u8, rfl, o8, b8⟩
          obtain ⟨a8, c8, rfl⟩ := o8.own.shape
          have I8 := o8.is
          replace J2 := J2.kept b8
          replace J3 := J3.kept b8
          replace Jp := Jp.kept b8
          replace hbw := bel_next hbw b8
          clear o8 b8
          go_wp2_with fail
          refine (c_likeInts I8 Jp).mono ?_
          rintro e w9 ⟨rfl, n9, rfl⟩
          rw [show (p == p) = true by simp]
          have d9 : Below w8.heap.size w8 (w8.drewN n9) := Drawn.below ⟨_, rfl⟩ _
          replace J2 := J2.kept d9
          replace J3 := J3.kept d9
          replace hbw := bel_next hbw d9
          clear d9 I8 Jp
          generalize w8.drewN n9 = w9 at *
          go_wp2_with fail
          refine (c_IsPartition J2).mono ?_
          rintro e w10 ⟨rfl, n10, rfl⟩
          rw [pm]
          have d10 : Below w9.heap.size w9 (w9.drewN n10) := Drawn.below ⟨_, rfl⟩ _
          replace J3 := J3.kept d10
          replace hbw := bel_next hbw d10
          clear d10 J2
          generalize w9.drewN n10 = w10 at *
          go_wp2_with fail
          refine (c_IsPartition J3).mono ?_
          rintro e w11 ⟨rfl, n11, rfl⟩
          rw [pj]
          have hfin := bel_next hbw (Drawn.below (w := w10) (w' := w10.drewN n11) ⟨_, rfl⟩ _)
          go_wp2_with fail
          go_ret
          exact ⟨rfl, hfin⟩
    · obtain ⟨hm', hj'⟩ := parts_bad htp
      rw [hmR] at hm'
      rw [hjR] at hj'
      injection hm' with e1 e2
      injection hj' with e3 e4
      subst e1 e2 e3 e4
      clear hmR hjR htp
      go_wp2_with fail
      go_ret
      exact ⟨rfl, bel_next b1 b2⟩
  · have hlb : decide (4096 < len) = true := decide_eq_true (by omega)
    rw [hlb] at HB
    clear hcode hlb
    go_enter Try.func4, Try.ntmps4
    go_wp2_with fail
    refine HB.out.mono ?_
    rintro e w0 ⟨rfl, n0, rfl⟩
    go_wp2_with fail
    go_ret
    exact ⟨rfl, Drawn.below (by repeat (first | exact Drawn.refl _ | refine Drawn.step ?_ _ | refine Drawn.one ?_)) _⟩
section
set_option maxRecDepth 100000 in
theorem lifted_FnPartitions (os : Os) (started : os.Started) (H : Type) (enc : TypeId × Value → H) :
    ReturnsInHanded {} Try.checked os 4 .any (Rows.fnPartitionsSpec.pre6 enc Try.prog Try.f4 Rows.fnPartitionsRow.domain false) (Rows.fnPartitionsSpec.post enc Try.prog Try.f4 false true false false) := by
  refine returnsInHanded_of_change (C := Try.checked) ownKnobNone started (by kernel_rfl) Try.func4
    (ChangeSpec.witness6 (enc := enc) (C := Try.checked) false ⟨#[], #[.slice none 0 0], []⟩ 8 (by kernel_rfl) (by kernel_rfl) (by kernel_rfl) (by kernel_rfl)) ?_
  intro W base args ds gs before hval0 hW hcnd _
  have hval : ∀ (j : Nat) t v, Try.f4.params[j]? = some t → args[j]? = some v → Value.okWide Try.prog W .any base t v := hval0
  have hW' := hW
  obtain ⟨p, q, hA0, hV, rfl, hfz, hnd⟩ := hW
  have hA : DataW.TrodAll enc Try.prog W 0 (fun _ => true) true Try.f4.params.toList args.toList ds p := hA0
  rw [Try.params4] at hA hval
  obtain ⟨v0, vs0, d0, ds0, p0, q0, hargs, rfl, rfl, h0, r0⟩ := trodAll_cons hA
  obtain ⟨rfl, rfl, rfl⟩ := trodAll_nil r0
  obtain rfl : args = #[v0] := by cases args; simp_all
  obtain ⟨rfl, rfl⟩ := trodVars_none hV
  have k0 := h0
  have lt0 : ∀ x ∈ p0, x.block < W.heap.size := by obtain ⟨m, hm⟩ := k0; exact DataW.trod_lt m _ _ _ hm
  obtain ⟨a0, len0, cap0, rfl⟩ := okWide_slice Try.underlying22 (hval 0 22 v0 rfl rfl)
  have w0 : RawB W (.slice a0 len0 cap0) := by obtain ⟨fuel, hf⟩ := h0; exact rawB_trod hf
  clear hA0 hval0
  refine (walk_FnPartitions (.slice a0 len0 cap0) W w0).mono fun e W' ⟨he, bel⟩ => ?_
  subst he
  exact ⟨_, rfl, _, _, _, [], _, [], hW', trodAll_mk1 (shut_bool Try.underlying4 _), (trodAll_cons_mk (Below.trod laidOutB_prog (by kernel_rfl) (of_decide_eq_true (by kernel_rfl)) k0 bel lt0) (trodAll_mk0)), rfl, bel.frame _, fun h => by cases h⟩
end
/-- THE STATEMENT. -/
theorem proved_FnPartitions : Rows.FnPartitionsSaid :=
  OpenClaim.holds_of_wide 4 Try.f4 rfl rfl rfl rfl rfl rfl rfl ⟨rfl, rfl, rfl, rfl, rfl⟩ rfl rfl rfl rfl rfl (by kernel_rfl) Try.func4 (by kernel_rfl)
    (of_decide_eq_true (by kernel_rfl)) (by unfold Func.isWrapper; first | (rw [if_pos (by decide +kernel)]; kernel_rfl) | (rw [if_neg (by decide +kernel)]; exact ⟨rfl, rfl⟩))
    (fun os started H enc _ => lifted_FnPartitions os started H enc)
end Go.Proofs.Ytocgbhcfnphnhaa
