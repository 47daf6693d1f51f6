/-
  The reference's CommutativeMonoidal.
-/
import Derived.Test.YtgjinjenijjiiaaComm
namespace Go.Proofs.Ytgjinjenijjiiaa
open Go.RowKit

set_option maxHeartbeats 3200000 in
theorem s_CommutativeMonoidal {w : World} {v : Value} {t : List (List Int)} (h : ISS w v t) : Calls Try.prog 21 #[v] w (MkM w (comR t)) := by
  have hlen := h.len
  have HM := Lib.hid (fun W (hW : Below w.heap.size w W) => c_l35Monoid (h.kept hW))
  have HMo := Lib.hid (fun W (hW : Below w.heap.size w W) => c_l03Monoid (h.kept hW))
  have HCl := Lib.hid (fun W (hW : Below w.heap.size w W) => c_l01Own2 (h.kept hW))
  obtain ⟨ao, b, o, c, R, rfl, ha, hc, hr⟩ := h.ex
  clear h
  by_cases hM : dB (Mon t) = true
  · have hsq : Sq t.length t := (dB_s hM).sq
    go_enter Try.func21, Try.ntmps21
    go_wp2_with fail
    refine (HM.out _ (bel_alloc (Below.refl _ _) _)).mono ?_
    rintro e w' ⟨rfl, n1, rfl⟩
    have B0 : RS8 w w.heap.size 37 ((w.alloc (.cells #[.int .i64 0, .slice none 0 0, .slice none 0 0, .slice none 0 0, .slice none 0 0, .int .i64 0, .slice none 0 0, .slice none 0 0] 37)).drewN n1) := RS8.drawn RS8.start ⟨_, rfl⟩
    generalize (w.alloc (.cells #[.int .i64 0, .slice none 0 0, .slice none 0 0, .slice none 0 0, .slice none 0 0, .int .i64 0, .slice none 0 0, .slice none 0 0] 37)).drewN n1 = W0 at *
    obtain ⟨bR, oR, kR, hv⟩ := rows_view (fun i hi => (hr i hi).kept B0.bel) (fun i hi => (hsq i hi).1)
    have HV := Lib.hid hv
    have HS := Lib.hid hsq
    have hc2 : ∀ i, i < t.length → W0.cell? ⟨b, o + i, none⟩ = some (.slice (some ⟨bR i, oR i, none⟩) t.length (kR i)) := fun i hi => by rw [upc B0.bel (hc i hi), (HV.out i hi).1]
    have HC := Lib.hid hc2
    clear hv hsq hc hc2 hr
    go_wp2_with fail
    go_loopw [4, 5] (fun i _ wr => ∃ k m : Nat, k ≤ t.length ∧ i = .int .i64 k ∧ wr = W0.drewN m ∧ Hid (∀ x y, x < k → y < x → ge t x y = ge t y x)) (fun i _ _ => t.length - (intOf i).toNat)
    case atStart => first | exact ⟨0, 0, Nat.zero_le _, rfl, rfl, fun j _ hj => by omega⟩ | exact ⟨0, _, Nat.zero_le _, rfl, rfl, fun j _ hj => by omega⟩
    case round =>
      obtain ⟨x, m2, hx, rfl, rfl, hp⟩ := hrel
      by_cases hltx : x < t.length
      · obtain rfl := ha (by omega)
        have cr := HC.out x hltx
        go_wp2_with fail
        go_loopw [5] (fun i wr => ∃ k m : Nat, k ≤ x ∧ i = .int .i64 k ∧ wr = W0.drewN m ∧ Hid (∀ y, y < k → ge t x y = ge t y x)) (fun i _ => x - (intOf i).toNat)
        case atStart => exact ⟨0, _, Nat.zero_le _, rfl, rfl, fun y hj => by omega⟩
        case round =>
          obtain ⟨y, m3, hy, rfl, rfl, hp2⟩ := hrel
          by_cases hlty : y < x
          · have hlty2 : y < t.length := by omega
            have cy := HC.out y hlty2
            have cxy := (HV.out x hltx).2 y hlty2
            have cyx := (HV.out y hlty2).2 x hltx
            by_cases he : ge t x y = ge t y x
            · have heb : (ge t x y != ge t y x) = false := by simp [he]
              have HE := Lib.hid he
              clear he
              go_wp2_with fail
              go_quiet (fail)
              go_wp2_with fail
              go_roundw
              case rel => exact ⟨y + 1, _, by omega, by go_num, rfl, fun j hj => by
                by_cases e : j = y
                · subst e; exact HE.out
                · exact hp2.out j (by omega)⟩
              case measure => simp [intOf]; omega
            · have heb : (ge t x y != ge t y x) = true := by simp [he]
              have HE := Lib.hid he
              clear he
              go_wp2_with fail
              go_quiet (fail)
              obtain ⟨-, x0, x1, x2, x3, x4, x5, x6, x7, f0, f1, f2, f3, f4, f5, f6, f7⟩ := B0.all
              go_wp2_with fail
              refine bodyPost_ret (results_cell_row2 rfl _ _ w.heap.size 37 #[_, _, _, _, _, _, _, _] (0, 0) _ (by rfl) (RS8.five (w := w) ?hR _ _ _ _ _ _ _ _) Try.underlying37 rfl (by kernel_rfl)) rfl ?hF
              case hR => first | exact B0.drawn (by repeat (first | exact Drawn.refl _ | refine Drawn.step ?_ _ | refine Drawn.one ?_)) | exact B0
              case hF => exact mkM_nil8 (T := 37) (by first | exact B0.drawn (by repeat (first | exact Drawn.refl _ | refine Drawn.step ?_ _ | refine Drawn.one ?_)) | exact B0) (comR_5 hM fun C => HE.out (C x y hltx hlty2))
          · have hk' : x = y := by omega
            subst hk'
            have HY := Lib.hid (show ∀ y, y < x → ge t x y = ge t y x from hp2.out)
            clear hp2
            go_wp2_with fail
            go_roundw
            case rel => exact ⟨x + 1, _, by omega, by go_num, rfl, fun j y hj hjy => by
              by_cases e : j = x
              · subst e; exact HY.out y hjy
              · exact hp.out j y (by omega) hjy⟩
            case measure => simp [intOf]; omega
      · have hk' : t.length = x := by omega
        subst hk'
        have HCM := Lib.hid (show Comm t from fun i j hi hj => by
          rcases Nat.lt_trichotomy i j with h | h | h
          · exact (hp.out j i hj h).symm
          · subst h; rfl
          · exact hp.out i j hi h)
        clear hp
        by_cases hl : t.length ≤ 40
        · have hr := comR_0 hM HCM.out hl
          have HL := Lib.hid (mon_len HS.out hl)
          have hlb : decide ((40 : Int) < (t.length : Int)) = false := decide_eq_false (by omega)
          go_wp2_with fail
          refine (HMo.out _ ?_).mono ?_
          case refine_1 => exact B0.bel.trans (Drawn.below (by repeat (first | exact Drawn.refl _ | refine Drawn.step ?_ _ | refine Drawn.one ?_)) _)
          rintro e w1 ⟨u, rfl, ⟨aF, kF, aT, nT, kT, aI, nI, kI, aC, nC, kC, rfl, ho⟩, b1⟩
          replace ho := ho HL.out
          have R1 := RS8.call (B0.drawn (by repeat (first | exact Drawn.refl _ | refine Drawn.step ?_ _ | refine Drawn.one ?_))) b1
          have hB : w.heap.size < W0.heap.size := B0.lt
          have z1 : W0.heap.size ≤ w1.heap.size := b1.size
          have ho2 : OwnC W0.heap.size w1.heap.size _ _ _ := ho
          clear HMo HV HC HM ho
          go_wp2_with fail
          refine (HCl.out _ (bel_alloc (bel_alloc (R1.bel) _) _)).mono ?_
          rintro e w9 ⟨u, rfl, o9, b9⟩
          obtain ⟨au, cu, rfl⟩ := o9.opened'
          have R2 := ((R1.alloc (.cells #[.int .i64 0] 2)).alloc (.cells #[.slice (some ⟨w1.heap.size, 0, none⟩) 1 1] 24)).call b9
          have BB : Below w1.heap.size w1 w9 := bel_next (bel_alloc (bel_alloc (Below.refl _ _) _) _) b9
          obtain ⟨-, x0, x1, x2, x3, x4, x5, x6, x7, f0, f1, f2, f3, f4, f5, f6, f7⟩ := R2.all
          have z9 := b9.size
          simp only [World.size_drew, World.size_alloc] at z9
          go_wp2_with fail
          refine bodyPost_ret (results_cell_row2 rfl _ _ w.heap.size 37 #[_, _, _, _, _, _, _, _] (0, 0) _ (by rfl) (RS8.five (w := w) R2 _ _ _ _ _ _ _ _) Try.underlying37 rfl (by kernel_rfl)) rfl ?hF
          case hF =>
            clear x0 x1 x2 x3 x4 x5 x6 x7 f0 f1 f2 f3 f4 f5 f6 f7
            rw [hr]
            refine mkM_one (T := 37) (m := comM t) (xs := [0]) rfl R2 0 ho2 BB ?g2 o9 (Below.refl _ _) HL.out ?g5 ?g6 ?g7 (by simp [I64, comM])
            case g2 =>
              refine ⟨w1.heap.size, ?_, ?_⟩
              · refine OwnS1.call ?_ b9
                refine OwnS1.new (xs := [0]) ?_ ?_ ?_
                · refine OwnT.lit1 ?_ ?_
                  · simp [I64]
                  · simp
                · simp
                · simp
              · clear R1 R2 o9
                simp only [World.size_drew, World.size_alloc]
                omega
            case g5 =>
              clear o9 R2 R1
              simp only [World.size_drew, World.size_alloc]
              omega
            case g6 =>
              clear o9 R2 R1
              simp only [World.size_drew, World.size_alloc]
              omega
            case g7 =>
              clear o9 R2 R1
              simp only [World.size_drew, World.size_alloc]
              omega
        · have hr := comR_3 hM HCM.out hl
          have hlb : decide ((40 : Int) < (t.length : Int)) = true := decide_eq_true (by omega)
          obtain ⟨-, x0, x1, x2, x3, x4, x5, x6, x7, f0, f1, f2, f3, f4, f5, f6, f7⟩ := B0.all
          go_wp2_with fail
          refine bodyPost_ret (results_cell_row2 rfl _ _ w.heap.size 37 #[_, _, _, _, _, _, _, _] (0, 0) _ (by rfl) (RS8.five (w := w) ?hR _ _ _ _ _ _ _ _) Try.underlying37 rfl (by kernel_rfl)) rfl ?hF
          case hR => first | exact B0.drawn (by repeat (first | exact Drawn.refl _ | refine Drawn.step ?_ _ | refine Drawn.one ?_)) | exact B0
          case hF => exact mkM_nil8 (T := 37) (by first | exact B0.drawn (by repeat (first | exact Drawn.refl _ | refine Drawn.step ?_ _ | refine Drawn.one ?_)) | exact B0) (hr)
  · have hr2 := comR_1 hM
    simp only [Bool.not_eq_true] at hM
    go_enter Try.func21, Try.ntmps21
    go_wp2_with fail
    refine (HM.out _ (bel_alloc (Below.refl _ _) _)).mono ?_
    rintro e w' ⟨rfl, n1, rfl⟩
    have B0 : RS8 w w.heap.size 37 ((w.alloc (.cells #[.int .i64 0, .slice none 0 0, .slice none 0 0, .slice none 0 0, .slice none 0 0, .int .i64 0, .slice none 0 0, .slice none 0 0] 37)).drewN n1) := RS8.drawn RS8.start ⟨_, rfl⟩
    generalize (w.alloc (.cells #[.int .i64 0, .slice none 0 0, .slice none 0 0, .slice none 0 0, .slice none 0 0, .int .i64 0, .slice none 0 0, .slice none 0 0] 37)).drewN n1 = W0 at *
    obtain ⟨-, x0, x1, x2, x3, x4, x5, x6, x7, f0, f1, f2, f3, f4, f5, f6, f7⟩ := B0.all
    go_wp2_with fail
    refine bodyPost_ret (results_cell_row2 rfl _ _ w.heap.size 37 #[_, _, _, _, _, _, _, _] (0, 0) _ (by rfl) (RS8.five (w := w) ?hR _ _ _ _ _ _ _ _) Try.underlying37 rfl (by kernel_rfl)) rfl ?hF
    case hR => first | exact B0.drawn (by repeat (first | exact Drawn.refl _ | refine Drawn.step ?_ _ | refine Drawn.one ?_)) | exact B0
    case hF => exact mkM_nil8 (T := 37) (by first | exact B0.drawn (by repeat (first | exact Drawn.refl _ | refine Drawn.step ?_ _ | refine Drawn.one ?_)) | exact B0) (hr2)
end Go.Proofs.Ytgjinjenijjiiaa
