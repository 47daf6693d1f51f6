/- FnPullbacksPushouts returns true for every input and leaves its argument as it was. No condition. -/
import Derived.Test.YtocgbhcfnphnhaaLike
import Derived.Test.YtocgbhcfnphnhaaDraw3
import Derived.Test.YtocgbhcfnphnhaaPbPo
import Derived.Test.YtocgbhcfnphnhaaPull
namespace Go.Proofs.Ytocgbhcfnphnhaa
open Go.ChangeShapes Go.WideShapes Go.ChangeAt Go.RowKit

theorem sumTo_le {F : Nat → Nat} (h : ∀ y, F y ≤ 65536) : ∀ n, sumTo F n ≤ 65536 * n := by
  intro n
  induction n with
  | zero => exact Nat.le_refl _
  | succ n ih => have := h n; simp only [sumTo]; omega
theorem OwnSS.shp {E E' : TypeId} {B T : Nat} {w : World} {v : Value} {xss : List (List Int)} (h : OwnSS E E' B T w v xss) : ∃ ao c, v = .slice ao xss.length c := by
  obtain ⟨ao, b, o, c, R, e, -, -, -⟩ := h.is.ex
  exact ⟨_, _, e⟩
set_option maxHeartbeats 3200000 in
set_option maxRecDepth 100000 in
theorem walk_FnPullbacksPushouts (code : Value) (w : World) (hcode : RawB w code) : Calls Try.prog 6 #[code] w (fun e w' => e = .returned (.bool true) ∧ Below w.heap.size w w') := by
  obtain ⟨ao, len, cap, bc, oc, B, rfl, hlm, -⟩ := id hcode
  have HB := Lib.hid (c_big (w := w) (ao := ao) (len := len) (cap := cap) hlm)
  by_cases hl : len ≤ 4096
  · have hlb : decide (4096 < len) = false := decide_eq_false (by omega)
    rw [hlb] at HB
    have HD := Lib.hid (fun (W : World) (hW : Below w.heap.size w W) => c_DrawPullbackOf (hcode.kept hW) hl)
    have HD2 := Lib.hid (fun (W : World) (hW : Below w.heap.size w W) => c_DrawPushoutOf (hcode.kept hW) hl)
    clear hcode hlb
    go_enter Try.func6, Try.ntmps6
    go_wp2_with fail
    refine HB.out.mono ?_
    rintro e w0 ⟨rfl, n0, rfl⟩
    have b0 := Drawn.below (w := w) (w' := w.drewN n0) ⟨_, rfl⟩ w.heap.size
    generalize w.drewN n0 = w0 at *
    go_wp2_with fail
    refine (HD.out _ b0).mono ?_
    rintro e w1 ⟨n, uf, ug, f, g, rfl, hn, If, Ig, b1⟩
    replace b1 := bel_next b0 b1
    obtain ⟨af, bf, of', cf, rfl, -, -⟩ := If.ex
    obtain ⟨ag, bg, og, cg, rfl, -, -⟩ := Ig.ex
    have HIf := Lib.hid If
    have HIg := Lib.hid Ig
    have hn1 := hn.1
    have hn2 := hn.2
    have HC := Lib.hid (i_PullbackOf n hn If Ig)
    have HC2 := Lib.hid (fun (W : World) (hW : Below w1.heap.size w1 W) => s_PullbackOf n hn (HIf.out.kept hW) (HIg.out.kept hW))
    have HF := Lib.hid (fun (W : World) (hW : Below w1.heap.size w1 W) (y : Int) (hy : I64 y) => i_FibreOf n hn (HIf.out.kept hW) y hy)
    have HG := Lib.hid (fun (W : World) (hW : Below w1.heap.size w1 W) (y : Int) (hy : I64 y) => i_FibreOf n hn (HIg.out.kept hW) y hy)
    clear If Ig HD hn hl hlm
    obtain ⟨l, bad, hcR⟩ : ∃ c bad, pullR n f g = (c, bad) := ⟨_, _, rfl⟩
    rw [hcR] at HC HC2
    go_wp2_with fail
    refine HC.out.mono ?_
    rintro e w2 ⟨u2, rfl, o2, b2⟩
    have I2 := o2.is
    obtain ⟨a2, c2, rfl⟩ := o2.shp
    clear o2
    go_wp2_with fail
    refine (HC2.out _ b2).mono ?_
    rintro e w3 ⟨u3, rfl, o3, b3⟩
    have I3 := o3.is
    obtain ⟨a3, c3, rfl⟩ := o3.shp
    replace I2 := I2.kept b3
    replace b2 := bel_next b2 b3
    clear o3 b3 HC HC2
    go_wp2_with fail
    refine (c_likeRows5_refl I2 I3).mono ?_
    rintro e w4 ⟨rfl, n4, rfl⟩
    have d4 : Below w3.heap.size w3 (w3.drewN n4) := Drawn.below ⟨_, rfl⟩ _
    have hll := I3.len
    replace b2 := bel_next b2 d4
    clear d4 I2 I3
    generalize w3.drewN n4 = w4 at *
    by_cases hbad : bad = 0
    · subst hbad
      obtain ⟨n0, n256, hcf, hcg, hsum, hlf, hlg⟩ := pull_sum hcR
      have HFF := Lib.hid (fun (k : Nat) (hk : (k : Int) < n) => fibre_ok hcf hk)
      have HGG := Lib.hid (fun (k : Nat) (hk : (k : Int) < n) => fibre_ok hcg hk)
      have HSL := Lib.hid (sumTo_le (F := fun y => cnt f (y : Int) * cnt g (y : Int)) (fun y => by have h1 := cnt_le f (y : Int); have h2 := cnt_le g (y : Int); have := Nat.mul_le_mul (Nat.le_trans h1 hlf) (Nat.le_trans h2 hlg); simpa using this))
      have HSS := Lib.hid (fun k => show sumTo (fun y => cnt f (y : Int) * cnt g (y : Int)) (k + 1) = sumTo (fun y => cnt f (y : Int) * cnt g (y : Int)) k + cnt f (k : Int) * cnt g (k : Int) from rfl)
      have HCF := Lib.hid (fun k : Nat => Nat.le_trans (cnt_le f (k : Int)) hlf)
      have HCG := Lib.hid (fun k : Nat => Nat.le_trans (cnt_le g (k : Int)) hlg)
      have HSUM := Lib.hid hsum
      have HS0 : sumTo (fun y => cnt f (y : Int) * cnt g (y : Int)) 0 = 0 := rfl
      generalize sumTo (fun y => cnt f (y : Int) * cnt g (y : Int)) = S at *
      clear hcf hcg hsum hcR
      go_wp2_with fail
      go_loopw [10, 11, 12, 13, 14, 15] (fun t y _ _ _ _ wr => ∃ k : Nat, (k : Int) ≤ n ∧ y = .int .i64 k ∧ t = .int .i64 (S k : Nat) ∧ Below w1.heap.size w1 wr) (fun _ y _ _ _ _ _ => n.toNat - (intOf y).toNat)
      case atStart => exact ⟨0, by omega, rfl, by rw [HS0]; rfl, b2⟩
      case round =>
        rename_i v12 v13 v14 v15 wr
        obtain ⟨k, hk, rfl, rfl, hb⟩ := hrel
        have hs1 := HSL.out k
        by_cases hlt : (k : Int) < n
        · obtain ⟨la, hla, hlla⟩ := HFF.out k hlt
          obtain ⟨lb, hlb2, hllb⟩ := HGG.out k hlt
          have h1 := HCF.out k
          have h2 := HCG.out k
          have HF1 := Lib.hid (HF.out _ hb k (by constructor <;> omega))
          have HG1 := Lib.hid (fun W hW => HG.out W hW k (by constructor <;> omega))
          rw [hla] at HF1
          rw [hlb2] at HG1
          have HS' := Lib.hid (HSS.out k)
          rw [← hlla, ← hllb] at HS'
          rw [← hlla] at h1
          rw [← hllb] at h2
          clear hla hlb2 hlla hllb
          have q0 : (0 : Int) ≤ (la.length : Int) * (lb.length : Int) := Int.mul_nonneg (by omega) (by omega)
          have q1 : (la.length : Int) * (lb.length : Int) ≤ 65536 := by
            have := Nat.mul_le_mul h1 h2
            have : ((la.length * lb.length : Nat) : Int) ≤ 65536 := by omega
            rwa [Int.natCast_mul] at this
          go_wp2_with fail
          refine HF1.out.mono ?_
          rintro e w5 ⟨u5, rfl, o5, b5⟩
          obtain ⟨a5, c5, rfl⟩ := o5.own.shape
          replace b5 := bel_next hb b5
          clear o5 hb
          go_wp2_with fail
          refine (HG1.out _ b5).mono ?_
          rintro e w6 ⟨u6, rfl, o6, b6⟩
          obtain ⟨a6, c6, rfl⟩ := o6.own.shape
          replace b6 := bel_next b5 b6
          clear o6 b5
          go_wp2_with fail
          go_roundw
          case rel => exact ⟨k + 1, by omega, by go_num, by rw [HS'.out]; simp, b6⟩
          case measure => simp [intOf]; omega
        · have hke : n.toNat = k := by omega
          have HE := HSUM.out
          rw [hke] at HE
          rw [← HE] at hs1 ⊢
          have hbw := bel_next b1 hb
          have hnlt : decide ((k : Int) < n) = false := decide_eq_false hlt
          clear b1 b2 hb HF HG HFF HGG HSL HSS HCF HCG HSUM HE hs1
          generalize wr = w7 at *
          go_wp2_with fail
          refine (HD2.out _ hbw).mono ?_
          rintro e w8 ⟨m, ua, k, ub, a, b, rfl, hm, hk, Ia, Ib, b8⟩
          replace b8 := bel_next hbw b8
          obtain ⟨aa, ba, oa, ca, rfl, -, -⟩ := Ia.ex
          obtain ⟨ab, bb, ob, cb, rfl, hab, hcb⟩ := Ib.ex
          have HIa := Lib.hid Ia
          have HIb := Lib.hid Ib
          have hm1 := hm.1
          have hm2 := hm.2
          have hk1 := hk.1
          have hk2 := hk.2
          have HCB := Lib.hid hcb
          have hbl := Ib.len
          have HP := Lib.hid (i_PushoutOf m hm Ia k hk Ib)
          have HP2 := Lib.hid (fun (W : World) (hW : Below w8.heap.size w8 W) => s_PushoutOf m hm (HIa.out.kept hW) k hk (HIb.out.kept hW))
          obtain ⟨due, three, hpR⟩ : ∃ c bad, pushR m a k b = (c, bad) := ⟨_, _, rfl⟩
          rw [hpR] at HP HP2
          clear Ia Ib hcb hm hk HD2 hbw
          go_wp2_with fail
          refine HP.out.mono ?_
          rintro e w9 ⟨u9, rfl, o9, b9⟩
          obtain ⟨a9, c9, rfl⟩ := o9.own.shape
          have I9 := o9.is
          clear o9
          go_wp2_with fail
          refine (HP2.out _ b9).mono ?_
          rintro e w10 ⟨u10, rfl, o10, b10⟩
          obtain ⟨a10, c10, rfl⟩ := o10.own.shape
          have I10 := o10.is
          replace I9 := I9.kept b10
          replace b9 := bel_next b9 b10
          clear o10 b10 HP HP2
          go_wp2_with fail
          refine (c_likeInts I9 I10).mono ?_
          rintro e w11 ⟨rfl, n11, rfl⟩
          rw [show (due == due) = true by simp]
          have d11 : Below w10.heap.size w10 (w10.drewN n11) := Drawn.below ⟨_, rfl⟩ _
          replace I10 := I10.kept d11
          replace b9 := bel_next b9 d11
          clear d11 I9
          generalize w10.drewN n11 = w11 at *
          by_cases h3 : three = 0
          · subst h3
            obtain ⟨m0, k0, hmk, hbg, hbl2, hco⟩ := push_coeq hpR
            have HBG := Lib.hid hbg
            have HCO := Lib.hid (fun (W : World) (hW : Below w8.heap.size w8 W) {v : Value} (hv : IS W v (tab (fun i => m + gi b i) b.length)) => i_CoequalizerOf (m + k) ⟨by omega, by omega⟩ (HIa.out.kept hW) hv)
            rw [hco] at HCO
            have hmkw : IntKind.i64.wrap (m + k) = m + k := IntWalk.i64_in _ (by omega)
            clear hpR hco hbg
            go_wp2_with fail
            go_loopw [24, 25] (fun s iv wr => ∃ i : Nat, i ≤ b.length ∧ iv = .int .i64 i ∧ Below w11.heap.size w11 wr ∧ Own 2 wr w11.heap.size s (tab (fun i => m + gi b i) i)) (fun _ iv _ => b.length - (intOf iv).toNat)
            case atStart => exact ⟨0, Nat.zero_le _, rfl, bel_alloc (Below.refl _ _) _, Own.empty _ _ _ (Nat.le_refl _)⟩
            case round =>
              obtain ⟨i, hi, rfl, hb, ho⟩ := hrel
              have hw0 := hb.size
              by_cases hlt : i < b.length
              · obtain rfl := hab (by omega)
                have x1 := upc (bel_next b9 hb) (HCB.out i hlt)
                have y1 := HBG.out i hlt
                have hl' : (tab (fun i => m + gi b i) i).length = i := tab_length _ _
                have HTS := Lib.hid (tab_succ (fun i => m + gi b i) i)
                have p0 : (0 : Int) ≤ (i : Int) := by omega
                have p1 : (i : Int) < (b.length : Int) := by omega
                have hwy : IntKind.i64.wrap (m + gi b i) = m + gi b i := IntWalk.i64_in _ (by omega)
                generalize hts : tab (fun i => m + gi b i) i = ts at *
                clear hts
                go_wp2_with (at_builtin; refine hold ?_)
                refine app1 ho (by constructor <;> omega) (by omega) (by omega) Try.underlying24 infoInt64 (by rfl) _ _ (by rfl) (by rfl) (by rfl) ?_
                intro v' w2 ho2 g2
                have hb2 := g2.below hb (by omega) (fun k hk => (ho.lt k hk).1)
                clear ho g2 hb x1
                go_wp2_with fail
                go_roundw
                case rel => exact ⟨i + 1, by omega, by go_num, hb2, by rw [HTS.out]; exact ho2⟩
                case measure => simp [intOf]; omega
              · have hke : b.length = i := by omega
                subst hke
                obtain ⟨asv, csv, rfl⟩ := ho.shape
                have Is := ho.is
                replace I10 := I10.kept hb
                have hb12 := bel_next b9 hb
                clear ho hb hw0 b9
                go_wp2_with fail
                refine (HCO.out _ hb12 Is).mono ?_
                rintro e w13 ⟨u13, rfl, o13, b13⟩
                obtain ⟨a13, c13, rfl⟩ := o13.own.shape
                have I13 := o13.is
                replace I10 := I10.kept b13
                have hb13 := bel_next b8 (bel_next hb12 b13)
                clear o13 b13 hb12 b8
                go_wp2_with fail
                refine (c_likeInts I13 I10).mono ?_
                rintro e w14 ⟨rfl, n14, rfl⟩
                rw [show (due == due) = true by simp]
                have hb14 := bel_next hb13 (Drawn.below (w := w13) (w' := w13.drewN n14) ⟨_, rfl⟩ _)
                clear hb13
                go_wp2_with fail
                go_ret
                exact ⟨rfl, hb14⟩
          · have h3b : (three != 0) = true := by simp [h3]
            have hfin := bel_next b8 b9
            clear h3
            go_wp2_with fail
            go_ret
            exact ⟨rfl, hfin⟩
    · have hcb : (bad == 0) = false := by simp [hbad]
      have hbw := bel_next b1 b2
      clear hbad HF HG b1 b2 hcR
      generalize w4 = w7 at *
      go_wp2_with fail
      refine (HD2.out _ hbw).mono ?_
      rintro e w8 ⟨m, ua, k, ub, a, b, rfl, hm, hk, Ia, Ib, b8⟩
      replace b8 := bel_next hbw b8
      obtain ⟨aa, ba, oa, ca, rfl, -, -⟩ := Ia.ex
      obtain ⟨ab, bb, ob, cb, rfl, hab, hcb⟩ := Ib.ex
      have HIa := Lib.hid Ia
      have HIb := Lib.hid Ib
      have hm1 := hm.1
      have hm2 := hm.2
      have hk1 := hk.1
      have hk2 := hk.2
      have HCB := Lib.hid hcb
      have hbl := Ib.len
      have HP := Lib.hid (i_PushoutOf m hm Ia k hk Ib)
      have HP2 := Lib.hid (fun (W : World) (hW : Below w8.heap.size w8 W) => s_PushoutOf m hm (HIa.out.kept hW) k hk (HIb.out.kept hW))
      obtain ⟨due, three, hpR⟩ : ∃ c bad, pushR m a k b = (c, bad) := ⟨_, _, rfl⟩
      rw [hpR] at HP HP2
      clear Ia Ib hcb hm hk HD2 hbw
      go_wp2_with fail
      refine HP.out.mono ?_
      rintro e w9 ⟨u9, rfl, o9, b9⟩
      obtain ⟨a9, c9, rfl⟩ := o9.own.shape
      have I9 := o9.is
      clear o9
      go_wp2_with fail
      refine (HP2.out _ b9).mono ?_
      rintro e w10 ⟨u10, rfl, o10, b10⟩
      obtain ⟨a10, c10, rfl⟩ := o10.own.shape
      have I10 := o10.is
      replace I9 := I9.kept b10
      replace b9 := bel_next b9 b10
      clear o10 b10 HP HP2
      go_wp2_with fail
      refine (c_likeInts I9 I10).mono ?_
      rintro e w11 ⟨rfl, n11, rfl⟩
      rw [show (due == due) = true by simp]
      have d11 : Below w10.heap.size w10 (w10.drewN n11) := Drawn.below ⟨_, rfl⟩ _
      replace I10 := I10.kept d11
      replace b9 := bel_next b9 d11
      clear d11 I9
      generalize w10.drewN n11 = w11 at *
      by_cases h3 : three = 0
      · subst h3
        obtain ⟨m0, k0, hmk, hbg, hbl2, hco⟩ := push_coeq hpR
        have HBG := Lib.hid hbg
        have HCO := Lib.hid (fun (W : World) (hW : Below w8.heap.size w8 W) {v : Value} (hv : IS W v (tab (fun i => m + gi b i) b.length)) => i_CoequalizerOf (m + k) ⟨by omega, by omega⟩ (HIa.out.kept hW) hv)
        rw [hco] at HCO
        have hmkw : IntKind.i64.wrap (m + k) = m + k := IntWalk.i64_in _ (by omega)
        clear hpR hco hbg
        go_wp2_with fail
        go_loopw [24, 25] (fun s iv wr => ∃ i : Nat, i ≤ b.length ∧ iv = .int .i64 i ∧ Below w11.heap.size w11 wr ∧ Own 2 wr w11.heap.size s (tab (fun i => m + gi b i) i)) (fun _ iv _ => b.length - (intOf iv).toNat)
        case atStart => exact ⟨0, Nat.zero_le _, rfl, bel_alloc (Below.refl _ _) _, Own.empty _ _ _ (Nat.le_refl _)⟩
        case round =>
          obtain ⟨i, hi, rfl, hb, ho⟩ := hrel
          have hw0 := hb.size
          by_cases hlt : i < b.length
          · obtain rfl := hab (by omega)
            have x1 := upc (bel_next b9 hb) (HCB.out i hlt)
            have y1 := HBG.out i hlt
            have hl' : (tab (fun i => m + gi b i) i).length = i := tab_length _ _
            have HTS := Lib.hid (tab_succ (fun i => m + gi b i) i)
            have p0 : (0 : Int) ≤ (i : Int) := by omega
            have p1 : (i : Int) < (b.length : Int) := by omega
            have hwy : IntKind.i64.wrap (m + gi b i) = m + gi b i := IntWalk.i64_in _ (by omega)
            generalize hts : tab (fun i => m + gi b i) i = ts at *
            clear hts
            go_wp2_with (at_builtin; refine hold ?_)
            refine app1 ho (by constructor <;> omega) (by omega) (by omega) Try.underlying24 infoInt64 (by rfl) _ _ (by rfl) (by rfl) (by rfl) ?_
            intro v' w2 ho2 g2
            have hb2 := g2.below hb (by omega) (fun k hk => (ho.lt k hk).1)
            clear ho g2 hb x1
            go_wp2_with fail
            go_roundw
            case rel => exact ⟨i + 1, by omega, by go_num, hb2, by rw [HTS.out]; exact ho2⟩
            case measure => simp [intOf]; omega
          · have hke : b.length = i := by omega
            subst hke
            obtain ⟨asv, csv, rfl⟩ := ho.shape
            have Is := ho.is
            replace I10 := I10.kept hb
            have hb12 := bel_next b9 hb
            clear ho hb hw0 b9
            go_wp2_with fail
            refine (HCO.out _ hb12 Is).mono ?_
            rintro e w13 ⟨u13, rfl, o13, b13⟩
            obtain ⟨a13, c13, rfl⟩ := o13.own.shape
            have I13 := o13.is
            replace I10 := I10.kept b13
            have hb13 := bel_next b8 (bel_next hb12 b13)
            clear o13 b13 hb12 b8
            go_wp2_with fail
            refine (c_likeInts I13 I10).mono ?_
            rintro e w14 ⟨rfl, n14, rfl⟩
            rw [show (due == due) = true by simp]
            have hb14 := bel_next hb13 (Drawn.below (w := w13) (w' := w13.drewN n14) ⟨_, rfl⟩ _)
            clear hb13
            go_wp2_with fail
            go_ret
            exact ⟨rfl, hb14⟩
      · have h3b : (three != 0) = true := by simp [h3]
        have hfin := bel_next b8 b9
        clear h3
        go_wp2_with fail
        go_ret
        exact ⟨rfl, hfin⟩
  · have hlb : decide (4096 < len) = true := decide_eq_true (by omega)
    rw [hlb] at HB
    clear hcode hlb
    go_enter Try.func6, Try.ntmps6
    go_wp2_with fail
    refine HB.out.mono ?_
    rintro e w0 ⟨rfl, n0, rfl⟩
    go_wp2_with fail
    go_ret
    exact ⟨rfl, Drawn.below (by repeat (first | exact Drawn.refl _ | refine Drawn.step ?_ _ | refine Drawn.one ?_)) _⟩
section
set_option maxRecDepth 100000 in
theorem lifted_FnPullbacksPushouts (os : Os) (started : os.Started) (H : Type) (enc : TypeId × Value → H) :
    ReturnsInHanded {} Try.checked os 6 .any (Rows.fnPullbacksPushoutsSpec.pre6 enc Try.prog Try.f6 Rows.fnPullbacksPushoutsRow.domain false) (Rows.fnPullbacksPushoutsSpec.post enc Try.prog Try.f6 false true false false) := by
  refine returnsInHanded_of_change (C := Try.checked) ownKnobNone started (by kernel_rfl) Try.func6
    (ChangeSpec.witness6 (enc := enc) (C := Try.checked) false ⟨#[], #[.slice none 0 0], []⟩ 8 (by kernel_rfl) (by kernel_rfl) (by kernel_rfl) (by kernel_rfl)) ?_
  intro W base args ds gs before hval0 hW hcnd _
  have hval : ∀ (j : Nat) t v, Try.f6.params[j]? = some t → args[j]? = some v → Value.okWide Try.prog W .any base t v := hval0
  have hW' := hW
  obtain ⟨p, q, hA0, hV, rfl, hfz, hnd⟩ := hW
  have hA : DataW.TrodAll enc Try.prog W 0 (fun _ => true) true Try.f6.params.toList args.toList ds p := hA0
  rw [Try.params6] at hA hval
  obtain ⟨v0, vs0, d0, ds0, p0, q0, hargs, rfl, rfl, h0, r0⟩ := trodAll_cons hA
  obtain ⟨rfl, rfl, rfl⟩ := trodAll_nil r0
  obtain rfl : args = #[v0] := by cases args; simp_all
  obtain ⟨rfl, rfl⟩ := trodVars_none hV
  have k0 := h0
  have lt0 : ∀ x ∈ p0, x.block < W.heap.size := by obtain ⟨m, hm⟩ := k0; exact DataW.trod_lt m _ _ _ hm
  obtain ⟨a0, len0, cap0, rfl⟩ := okWide_slice Try.underlying22 (hval 0 22 v0 rfl rfl)
  have w0 : RawB W (.slice a0 len0 cap0) := by obtain ⟨fuel, hf⟩ := h0; exact rawB_trod hf
  clear hA0 hval0
  refine (walk_FnPullbacksPushouts (.slice a0 len0 cap0) W w0).mono fun e W' ⟨he, bel⟩ => ?_
  subst he
  exact ⟨_, rfl, _, _, _, [], _, [], hW', trodAll_mk1 (shut_bool Try.underlying4 _), (trodAll_cons_mk (Below.trod laidOutB_prog (by kernel_rfl) (of_decide_eq_true (by kernel_rfl)) k0 bel lt0) (trodAll_mk0)), rfl, bel.frame _, fun h => by cases h⟩
end
/-- THE STATEMENT. -/
theorem proved_FnPullbacksPushouts : Rows.FnPullbacksPushoutsSaid :=
  OpenClaim.holds_of_wide 6 Try.f6 rfl rfl rfl rfl rfl rfl rfl ⟨rfl, rfl, rfl, rfl, rfl⟩ rfl rfl rfl rfl rfl (by kernel_rfl) Try.func6 (by kernel_rfl)
    (of_decide_eq_true (by kernel_rfl)) (by unfold Func.isWrapper; first | (rw [if_pos (by decide +kernel)]; kernel_rfl) | (rw [if_neg (by decide +kernel)]; exact ⟨rfl, rfl⟩))
    (fun os started H enc _ => lifted_FnPullbacksPushouts os started H enc)
end Go.Proofs.Ytocgbhcfnphnhaa
