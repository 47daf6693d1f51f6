/-
  CommutativeMonoidal of program and reference.
-/
import Derived.Test.YtgjinjenijjiiaaMdl
namespace Go.Proofs.Ytgjinjenijjiiaa
open Go.RowKit

def Comm (t : List (List Int)) : Prop := ∀ i j, i < t.length → j < t.length → ge t i j = ge t j i
def comM (t : List (List Int)) : Mdl := ⟨monC t, 0, [[0]], t⟩
noncomputable def comR (t : List (List Int)) : Mdl × Int := if dB (Mon t) = true then (if dB (Comm t) = true then (if t.length ≤ 40 then (comM t, 0) else (nilM, 3)) else (nilM, 5)) else (nilM, 1)
theorem comR_1 {t : List (List Int)} (h : ¬ dB (Mon t) = true) : comR t = (nilM, 1) := by unfold comR; rw [if_neg h]
theorem comR_5 {t : List (List Int)} (h : dB (Mon t) = true) (h2 : ¬ Comm t) : comR t = (nilM, 5) := by unfold comR; rw [if_pos h, if_neg (fun e => h2 (dB_s e))]
theorem comR_3 {t : List (List Int)} (h : dB (Mon t) = true) (h2 : Comm t) (h3 : ¬ t.length ≤ 40) : comR t = (nilM, 3) := by unfold comR; rw [if_pos h, if_pos (dB_t h2), if_neg h3]
theorem comR_0 {t : List (List Int)} (h : dB (Mon t) = true) (h2 : Comm t) (h3 : t.length ≤ 40) : comR t = (comM t, 0) := by unfold comR; rw [if_pos h, if_pos (dB_t h2), if_pos h3]
/-- One row of one number, made of two blocks. -/
theorem OwnSS.lit00 {w : World} {m : Nat} (hm : w.heap.size = m) : OwnSS 2 24 m (m + 2) ((w.alloc (.cells #[.int .i64 0] 2)).alloc (.cells #[.slice (some ⟨m, 0, none⟩) 1 1] 24)) (.slice (some ⟨m + 1, 0, none⟩) 1 1) [[0]] := by
  subst hm
  have h1 := OwnT.lit1 (E := 2) (w := w) (a := 0) (m := w.heap.size) (by simp [I64]) rfl
  have h2 := h1.keptB (bel_box _ (.cells #[.slice (some ⟨w.heap.size, 0, none⟩) 1 1] 24))
  have hz : (w.alloc (.cells #[.int .i64 0] 2)).heap.size = w.heap.size + 1 := by simp
  refine ⟨⟨fun _ => .slice (some ⟨w.heap.size, 0, none⟩) 1 1, ?_, ?_, ?_, ?_, ?_⟩, by simp, by simp [pS, gr]⟩
  · have := World.ownsRow_lit (base := w.heap.size) (size := 1) (e := 24) (w.alloc (.cells #[.int .i64 0] 2)) #[.slice (some ⟨w.heap.size, 0, none⟩) 1 1] 1 (by rw [hz]; omega) (by simp [maxLen]) (by simp)
    simpa [hz] using this
  · intro k hk
    simp [Value.ownBlock] at hk
    omega
  · intro i hi
    have : i = 0 := by simp at hi; omega
    subst this
    exact h2.mono (Nat.le_refl _) (by omega)
  · intro i j hi hj hne
    simp at hi hj
    omega
  · intro i hi
    exact Dj.lit (by omega)
/-- What the literal's region holds on to: the result's block b and the category's block q. -/
structure KM (w : World) (b q : Nat) (n : Int) (vf vt vi vc : Value) (w' : World) : Prop where
  r : RS8 w b 37 w'
  c0 : w'.cell? ⟨q, 0, none⟩ = some (.int .i64 n)
  c1 : w'.cell? ⟨q, 1, none⟩ = some vf
  c2 : w'.cell? ⟨q, 2, none⟩ = some vt
  c3 : w'.cell? ⟨q, 3, none⟩ = some vi
  c4 : w'.cell? ⟨q, 4, none⟩ = some vc
section
variable {w w' w'' : World} {b q : Nat} {n : Int} {vf vt vi vc : Value}
theorem KM.all (h : KM w b q n vf vt vi vc w') : KM w b q n vf vt vi vc w' ∧ w'.cell? ⟨q, 0, none⟩ = some (.int .i64 n) ∧ w'.cell? ⟨q, 1, none⟩ = some vf ∧ w'.cell? ⟨q, 2, none⟩ = some vt ∧ w'.cell? ⟨q, 3, none⟩ = some vi ∧ w'.cell? ⟨q, 4, none⟩ = some vc ∧ w'.cell? ⟨b, 0, none⟩ = some (cv w' b 0) ∧ w'.cell? ⟨b, 1, none⟩ = some (cv w' b 1) ∧ w'.cell? ⟨b, 2, none⟩ = some (cv w' b 2) ∧ w'.cell? ⟨b, 3, none⟩ = some (cv w' b 3) ∧ w'.cell? ⟨b, 4, none⟩ = some (cv w' b 4) ∧ w'.cell? ⟨b, 5, none⟩ = some (cv w' b 5) ∧ w'.cell? ⟨b, 6, none⟩ = some (cv w' b 6) ∧ w'.cell? ⟨b, 7, none⟩ = some (cv w' b 7) ∧ w'.frozen? ⟨b, 0, none⟩ = false ∧ w'.frozen? ⟨b, 1, none⟩ = false ∧ w'.frozen? ⟨b, 2, none⟩ = false ∧ w'.frozen? ⟨b, 3, none⟩ = false ∧ w'.frozen? ⟨b, 4, none⟩ = false ∧ w'.frozen? ⟨b, 5, none⟩ = false ∧ w'.frozen? ⟨b, 6, none⟩ = false ∧ w'.frozen? ⟨b, 7, none⟩ = false :=
  ⟨h, h.c0, h.c1, h.c2, h.c3, h.c4, h.r.all.2⟩
theorem KM.bel (h : KM w b q n vf vt vi vc w') : Below w.heap.size w w' := h.r.bel
theorem KM.call (h : KM w b q n vf vt vi vc w') (hb : Below w'.heap.size w' w'') : KM w b q n vf vt vi vc w'' := ⟨h.r.call hb, upc hb h.c0, upc hb h.c1, upc hb h.c2, upc hb h.c3, upc hb h.c4⟩
theorem KM.alloc (h : KM w b q n vf vt vi vc w') (o : Obj) : KM w b q n vf vt vi vc (w'.alloc o) := h.call (bel_alloc (Below.refl _ _) o)
theorem KM.drew (h : KM w b q n vf vt vi vc w') : KM w b q n vf vt vi vc w'.drew := ⟨h.r.drew, h.c0, h.c1, h.c2, h.c3, h.c4⟩
theorem KM.un (h : KM w b q n vf vt vi vc w'.drew) : KM w b q n vf vt vi vc w' := ⟨h.r.un, h.c0, h.c1, h.c2, h.c3, h.c4⟩
theorem KM.set8 (h : KM w b q n vf vt vi vc w') (a0 a1 a2 a3 a4 a5 a6 a7 : Value) (hq : q ≠ b) : KM w b q n vf vt vi vc ((((((((w'.setCell ⟨b, 0, none⟩ a0).setCell ⟨b, 1, none⟩ a1).setCell ⟨b, 2, none⟩ a2).setCell ⟨b, 3, none⟩ a3).setCell ⟨b, 4, none⟩ a4).setCell ⟨b, 5, none⟩ a5).setCell ⟨b, 6, none⟩ a6).setCell ⟨b, 7, none⟩ a7) :=
  have hc : ∀ {i : Nat} {v : Value}, w'.cell? ⟨q, i, none⟩ = some v → (Go.Proofs.Ytgjinjenijjiiaa.set8 w' b a0 a1 a2 a3 a4 a5 a6 a7).cell? ⟨q, i, none⟩ = some v := fun hv => within_cell (set8_within _ _ _ _ _ _ _ _ _ _) hv (by omega)
  ⟨(((((((h.r.set 0 a0).set 1 a1).set 2 a2).set 3 a3).set 4 a4).set 5 a5).set 6 a6).set 7 a7, hc h.c0, hc h.c1, hc h.c2, hc h.c3, hc h.c4⟩
end
set_option maxHeartbeats 8000000 in
theorem i_CommutativeMonoidal {w : World} {v : Value} {t : List (List Int)} (h : ISS w v t) : Calls Try.prog 22 #[v] w (MkM w (comR t)) := by
  have hlen := h.len
  have HI := Lib.hid h
  have HM := Lib.hid (fun W (hW : Below w.heap.size w W) => c_isMonoid (h.kept hW))
  have HMo := Lib.hid (fun W (hW : Below w.heap.size w W) => i_MonoidCategory (h.kept hW))
  have HCl := Lib.hid (fun W (hW : Below w.heap.size w W) => c_clones (h.kept hW))
  obtain ⟨ao, b, o, c, R, rfl, ha, hc, hr⟩ := h.ex
  clear h
  by_cases hM : dB (Mon t) = true
  · have hsq : Sq t.length t := (dB_s hM).sq
    go_enter Try.func22, Try.ntmps22
    go_wp2_with fail
    refine (HM.out _ (bel_alloc (Below.refl _ _) _)).mono ?_
    rintro e w' ⟨rfl, n1, rfl⟩
    have B0 : RS8 w w.heap.size 37 ((w.alloc (.cells #[.int .i64 0, .slice none 0 0, .slice none 0 0, .slice none 0 0, .slice none 0 0, .int .i64 0, .slice none 0 0, .slice none 0 0] 37)).drewN n1) := RS8.drawn RS8.start ⟨_, rfl⟩
    generalize (w.alloc (.cells #[.int .i64 0, .slice none 0 0, .slice none 0 0, .slice none 0 0, .slice none 0 0, .int .i64 0, .slice none 0 0, .slice none 0 0] 37)).drewN n1 = W0 at *
    obtain ⟨bR, oR, kR, hv⟩ := rows_view (fun i hi => (hr i hi).kept B0.bel) (fun i hi => (hsq i hi).1)
    have HV := Lib.hid hv
    have HS := Lib.hid hsq
    have hc2 : ∀ i, i < t.length → W0.cell? ⟨b, o + i, none⟩ = some (.slice (some ⟨bR i, oR i, none⟩) t.length (kR i)) := fun i hi => by rw [upc B0.bel (hc i hi), (HV.out i hi).1]
    have HC := Lib.hid hc2
    clear hv hsq hc hc2 hr
    go_wp2_with fail
    go_loopw [4, 5, 6, 7, 16] (fun _ _ _ _ i wr => ∃ k m : Nat, k ≤ t.length ∧ i = .int .i64 k ∧ wr = W0.drewN m ∧ Hid (∀ x y, x < k → y < t.length → ge t x y = ge t y x)) (fun _ _ _ _ i _ => t.length - (intOf i).toNat)
    case atStart => first | exact ⟨0, 0, Nat.zero_le _, rfl, rfl, fun j _ hj => by omega⟩ | exact ⟨0, _, Nat.zero_le _, rfl, rfl, fun j _ hj => by omega⟩
    case round =>
      obtain ⟨x, m2, hx, rfl, rfl, hp⟩ := hrel
      by_cases hltx : x < t.length
      · obtain rfl := ha (by omega)
        have cr := HC.out x hltx
        go_wp2_with fail
        go_loopw [6, 7, 23] (fun _ _ i wr => ∃ k m : Nat, k ≤ t.length ∧ i = .int .i64 k ∧ wr = W0.drewN m ∧ Hid (∀ y, y < k → ge t x y = ge t y x)) (fun _ _ i _ => t.length - (intOf i).toNat)
        case atStart => exact ⟨0, _, Nat.zero_le _, rfl, rfl, fun y hj => by omega⟩
        case round =>
          obtain ⟨y, m3, hy, rfl, rfl, hp2⟩ := hrel
          by_cases hlty : y < t.length
          · have cy := HC.out y hlty
            have cxy := (HV.out x hltx).2 y hlty
            have cyx := (HV.out y hlty).2 x hltx
            by_cases he : ge t x y = ge t y x
            · have heb : (ge t x y != ge t y x) = false := by simp [he]
              have HE := Lib.hid he
              clear he
              go_wp2_with fail
              go_roundw
              case rel => exact ⟨y + 1, _, by omega, by go_num, rfl, fun j hj => by
                by_cases e : j = y
                · subst e; exact HE.out
                · exact hp2.out j (by omega)⟩
              case measure => simp [intOf]; omega
            · have heb : (ge t x y != ge t y x) = true := by simp [he]
              have HE := Lib.hid he
              clear he
              obtain ⟨-, x0, x1, x2, x3, x4, x5, x6, x7, f0, f1, f2, f3, f4, f5, f6, f7⟩ := B0.all
              go_wp2_with fail
              refine bodyPost_ret (results_cell_row2 rfl _ _ w.heap.size 37 #[_, _, _, _, _, _, _, _] (0, 0) _ (by rfl) (RS8.five (w := w) ?hR _ _ _ _ _ _ _ _) Try.underlying37 rfl (by kernel_rfl)) rfl ?hF
              case hR => first | exact B0.drawn (by repeat (first | exact Drawn.refl _ | refine Drawn.step ?_ _ | refine Drawn.one ?_)) | exact B0
              case hF => exact mkM_nil8 (T := 37) (by first | exact B0.drawn (by repeat (first | exact Drawn.refl _ | refine Drawn.step ?_ _ | refine Drawn.one ?_)) | exact B0) (comR_5 hM fun C => HE.out (C x y hltx hlty))
          · have hk' : t.length = y := by omega
            subst hk'
            have HY := Lib.hid (show ∀ y, y < t.length → ge t x y = ge t y x from hp2.out)
            clear hp2
            go_wp2_with fail
            go_roundw
            case rel => exact ⟨x + 1, _, by omega, by go_num, rfl, fun j y hj hy => by
              by_cases e : j = x
              · subst e; exact HY.out y hy
              · exact hp.out j y (by omega) hy⟩
            case measure => simp [intOf]; omega
      · have hk' : t.length = x := by omega
        subst hk'
        have HCM := Lib.hid (show Comm t from fun i j hi hj => hp.out i j hi hj)
        clear hp
        by_cases hl : t.length ≤ 40
        · have hr := comR_0 hM HCM.out hl
          have hR : monR t = (monC t, 0) := by unfold monR; rw [if_pos hM, if_pos hl]
          go_wp2_with fail
          refine (HMo.out _ ?_).mono ?_
          case refine_1 => exact B0.bel.trans (Drawn.below (by repeat (first | exact Drawn.refl _ | refine Drawn.step ?_ _ | refine Drawn.one ?_)) _)
          rintro e w1 ⟨u, rfl, ho, b1⟩
          rw [hR] at ho ⊢
          obtain ⟨n, aF, lF, kF, aT, lT, kT, aI, lI, kI, aC, lC, kC, rfl⟩ := ho.shape5
          have R1 := RS8.call (B0.drawn (by repeat (first | exact Drawn.refl _ | refine Drawn.step ?_ _ | refine Drawn.one ?_))) b1
          have hB : w.heap.size < W0.heap.size := B0.lt
          have z1 : W0.heap.size ≤ w1.heap.size := b1.size
          have hB1 : w.heap.size < w1.heap.size := by omega
          have HL := Lib.hid (mon_len HS.out hl)
          clear HMo HV HC HM b1
          have WB := bel_box w1 (.cells #[.int .i64 n, .slice aF lF kF, .slice aT lT kT, .slice aI lI kI, .slice aC lC kC] 26)
          have R2 := R1.alloc (.cells #[.int .i64 n, .slice aF lF kF, .slice aT lT kT, .slice aI lI kI, .slice aC lC kC] 26)
          have ho2 : OwnC W0.heap.size w1.heap.size _ _ _ := ho.keptB WB
          have hz2 : w1.heap.size < (w1.alloc (.cells #[.int .i64 n, .slice aF lF kF, .slice aT lT kT, .slice aI lI kI, .slice aC lC kC] 26)).heap.size := by simp
          have c0 : (w1.alloc (.cells #[.int .i64 n, .slice aF lF kF, .slice aT lT kT, .slice aI lI kI, .slice aC lC kC] 26)).cell? ⟨w1.heap.size, 0, none⟩ = some (.int .i64 n) := by simp
          have c1 : (w1.alloc (.cells #[.int .i64 n, .slice aF lF kF, .slice aT lT kT, .slice aI lI kI, .slice aC lC kC] 26)).cell? ⟨w1.heap.size, 1, none⟩ = some (.slice aF lF kF) := by simp
          have c2 : (w1.alloc (.cells #[.int .i64 n, .slice aF lF kF, .slice aT lT kT, .slice aI lI kI, .slice aC lC kC] 26)).cell? ⟨w1.heap.size, 2, none⟩ = some (.slice aT lT kT) := by simp
          have c3 : (w1.alloc (.cells #[.int .i64 n, .slice aF lF kF, .slice aT lT kT, .slice aI lI kI, .slice aC lC kC] 26)).cell? ⟨w1.heap.size, 3, none⟩ = some (.slice aI lI kI) := by simp
          have c4 : (w1.alloc (.cells #[.int .i64 n, .slice aF lF kF, .slice aT lT kT, .slice aI lI kI, .slice aC lC kC] 26)).cell? ⟨w1.heap.size, 4, none⟩ = some (.slice aC lC kC) := by simp
          clear WB ho
          go_wp2_with fail
          generalize w1.alloc (.cells #[.int .i64 n, .slice aF lF kF, .slice aT lT kT, .slice aI lI kI, .slice aC lC kC] 26) = W2 at *
          have B1 := R2.drew.all
          obtain ⟨-, D1⟩ := B1
          have S0 : KM w w.heap.size w1.heap.size n (.slice aF lF kF) (.slice aT lT kT) (.slice aI lI kI) (.slice aC lC kC) W2 := ⟨R2, c0, c1, c2, c3, c4⟩
          have S1 := S0.drew.all
          go_region_held3 (fun w' => KM w w.heap.size w1.heap.size n (.slice aF lF kF) (.slice aT lT kT) (.slice aI lI kI) (.slice aC lC kC) w' ∧ w'.cell? ⟨w1.heap.size, 0, none⟩ = some (.int .i64 n) ∧ w'.cell? ⟨w1.heap.size, 1, none⟩ = some (.slice aF lF kF) ∧ w'.cell? ⟨w1.heap.size, 2, none⟩ = some (.slice aT lT kT) ∧ w'.cell? ⟨w1.heap.size, 3, none⟩ = some (.slice aI lI kI) ∧ w'.cell? ⟨w1.heap.size, 4, none⟩ = some (.slice aC lC kC) ∧ w'.cell? ⟨w.heap.size, 0, none⟩ = some (cv w' w.heap.size 0) ∧ w'.cell? ⟨w.heap.size, 1, none⟩ = some (cv w' w.heap.size 1) ∧ w'.cell? ⟨w.heap.size, 2, none⟩ = some (cv w' w.heap.size 2) ∧ w'.cell? ⟨w.heap.size, 3, none⟩ = some (cv w' w.heap.size 3) ∧ w'.cell? ⟨w.heap.size, 4, none⟩ = some (cv w' w.heap.size 4) ∧ w'.cell? ⟨w.heap.size, 5, none⟩ = some (cv w' w.heap.size 5) ∧ w'.cell? ⟨w.heap.size, 6, none⟩ = some (cv w' w.heap.size 6) ∧ w'.cell? ⟨w.heap.size, 7, none⟩ = some (cv w' w.heap.size 7) ∧ w'.frozen? ⟨w.heap.size, 0, none⟩ = false ∧ w'.frozen? ⟨w.heap.size, 1, none⟩ = false ∧ w'.frozen? ⟨w.heap.size, 2, none⟩ = false ∧ w'.frozen? ⟨w.heap.size, 3, none⟩ = false ∧ w'.frozen? ⟨w.heap.size, 4, none⟩ = false ∧ w'.frozen? ⟨w.heap.size, 5, none⟩ = false ∧ w'.frozen? ⟨w.heap.size, 6, none⟩ = false ∧ w'.frozen? ⟨w.heap.size, 7, none⟩ = false)
            (first | with_reducible exact S1 | (with_reducible refine (KM.alloc ?_ _).all; with_reducible exact And.left (by assumption)) | (with_reducible refine (KM.call ?_ b9).all; with_reducible exact And.left (by assumption)) | (with_reducible refine (KM.drew (KM.alloc ?_ _)).all; with_reducible exact KM.un (And.left (by assumption))) | (with_reducible refine (KM.set8 ?_ _ _ _ _ _ _ _ _ ?_).all; (· with_reducible exact And.left (by assumption)); (· omega)))
            (first | (go_at_call 34; (with_reducible refine (HCl.out _ (KM.bel (And.left (by assumption)))).mono ?_); rintro e w9 ⟨u, rfl, o9, b9⟩; obtain ⟨au, cu, rfl⟩ := o9.opened'))
          all_goals
            go_wp2_with fail
            refine bodyPost_ret (results_cell_row2 rfl _ _ w.heap.size 37 #[_, _, _, _, _, _, _, _] (0, 0) _ (by rfl) (RS8.five (w := w) ?hR _ _ _ _ _ _ _ _) Try.underlying37 rfl (by kernel_rfl)) rfl ?hF
            case hR => repeat (first | exact R2 | refine RS8.alloc ?_ _ | refine RS8.call ?_ b9 | refine RS8.drew ?_)
            case hF =>
              have z9 := b9.size
              simp only [World.size_drew, World.size_alloc] at z9
              clear S0 S1 D1 c0 c1 c2 c3 c4 HCl HI hM
              rw [hr]
              refine mkM_one (T := 37) (m := comM t) (xs := [0]) rfl ?g0 0 ho2 ?g1 ?g2 o9 ?g4 HL.out ?g5 ?g6 ?g7 (by simp [I64, comM])
              case g0 => repeat (first | exact R2 | refine RS8.alloc ?_ _ | refine RS8.call ?_ b9 | refine RS8.drew ?_)
              case g1 => repeat (first | exact Below.refl _ _ | refine bel_alloc ?_ _ | exact bel_next (bel_alloc (bel_alloc (Drawn.below (Drawn.one (Drawn.refl _)) _) _) _) b9 | exact bel_next (bel_alloc (Drawn.below (Drawn.one (Drawn.refl _)) _) _) b9 | exact bel_next (Drawn.below (Drawn.one (Drawn.refl _)) _) b9)
              case g2 =>
                first
                  | (refine ⟨W2.heap.size, ?_, ?_⟩; (· repeat (first | (refine OwnS1.new (xs := [0]) ?_ ?_ ?_; (· repeat (first | (refine OwnT.lit1 ?_ ?_; (· simp [I64]); (· simp)) | refine OwnT.up_alloc ?_ _ | refine OwnT.up_drew ?_ | refine OwnT.keptB ?_ b9)); (· simp); (· first | omega | (simp; done) | (simp; omega))) | refine OwnS1.up_alloc ?_ _ | refine OwnS1.up_drew ?_ | refine OwnS1.call ?_ b9)); (· clear R2; simp only [World.size_drew, World.size_alloc]; omega))
                  | (refine ⟨w9.heap.size, ?_, ?_⟩; (· repeat (first | (refine OwnS1.new (xs := [0]) ?_ ?_ ?_; (· repeat (first | (refine OwnT.lit1 ?_ ?_; (· simp [I64]); (· simp)) | refine OwnT.up_alloc ?_ _ | refine OwnT.up_drew ?_ | refine OwnT.keptB ?_ b9)); (· simp); (· first | omega | (simp; done) | (simp; omega))) | refine OwnS1.up_alloc ?_ _ | refine OwnS1.up_drew ?_ | refine OwnS1.call ?_ b9)); (· clear R2; simp only [World.size_drew, World.size_alloc]; omega))
              case g4 => repeat (first | exact Below.refl _ _ | refine bel_alloc ?_ _)
              case g5 =>
                clear o9 R2
                simp only [World.size_drew, World.size_alloc]
                omega
              case g6 =>
                clear o9 R2
                simp only [World.size_drew, World.size_alloc]
                omega
              case g7 =>
                clear o9 R2
                simp only [World.size_drew, World.size_alloc]
                omega
        · have hr := comR_3 hM HCM.out hl
          have hR : monR t = (nilC, 3) := by unfold monR; rw [if_pos hM, if_neg hl]
          go_wp2_with fail
          refine (HMo.out _ ?_).mono ?_
          case refine_1 => exact B0.bel.trans (Drawn.below (by repeat (first | exact Drawn.refl _ | refine Drawn.step ?_ _ | refine Drawn.one ?_)) _)
          rintro e w1 ⟨u, rfl, ho, b1⟩
          rw [hR] at ho ⊢
          obtain ⟨n, aF, lF, kF, aT, lT, kT, aI, lI, kI, aC, lC, kC, rfl⟩ := ho.shape5
          have R1 := (RS8.call (B0.drawn (by repeat (first | exact Drawn.refl _ | refine Drawn.step ?_ _ | refine Drawn.one ?_))) b1).alloc (.cells #[.int .i64 n, .slice aF lF kF, .slice aT lT kT, .slice aI lI kI, .slice aC lC kC] 26)
          clear HMo HV HC HM b1
          obtain ⟨-, x0, x1, x2, x3, x4, x5, x6, x7, f0, f1, f2, f3, f4, f5, f6, f7⟩ := R1.all
          go_wp2_with fail
          refine bodyPost_ret (results_cell_row2 rfl _ _ w.heap.size 37 #[_, _, _, _, _, _, _, _] (0, 0) _ (by rfl) (RS8.five (w := w) ?hR _ _ _ _ _ _ _ _) Try.underlying37 rfl (by kernel_rfl)) rfl ?hF
          case hR => first | exact R1 | exact R1.drawn (by repeat (first | exact Drawn.refl _ | refine Drawn.step ?_ _ | refine Drawn.one ?_))
          case hF => exact mkM_nil8 (T := 37) (by first | exact R1 | exact R1.drawn (by repeat (first | exact Drawn.refl _ | refine Drawn.step ?_ _ | refine Drawn.one ?_))) hr
  · have hr2 := comR_1 hM
    simp only [Bool.not_eq_true] at hM
    go_enter Try.func22, Try.ntmps22
    go_wp2_with fail
    refine (HM.out _ (bel_alloc (Below.refl _ _) _)).mono ?_
    rintro e w' ⟨rfl, n1, rfl⟩
    have B0 : RS8 w w.heap.size 37 ((w.alloc (.cells #[.int .i64 0, .slice none 0 0, .slice none 0 0, .slice none 0 0, .slice none 0 0, .int .i64 0, .slice none 0 0, .slice none 0 0] 37)).drewN n1) := RS8.drawn RS8.start ⟨_, rfl⟩
    generalize (w.alloc (.cells #[.int .i64 0, .slice none 0 0, .slice none 0 0, .slice none 0 0, .slice none 0 0, .int .i64 0, .slice none 0 0, .slice none 0 0] 37)).drewN n1 = W0 at *
    obtain ⟨-, x0, x1, x2, x3, x4, x5, x6, x7, f0, f1, f2, f3, f4, f5, f6, f7⟩ := B0.all
    go_wp2_with fail
    refine bodyPost_ret (results_cell_row2 rfl _ _ w.heap.size 37 #[_, _, _, _, _, _, _, _] (0, 0) _ (by rfl) (RS8.five (w := w) ?hR _ _ _ _ _ _ _ _) Try.underlying37 rfl (by kernel_rfl)) rfl ?hF
    case hR => first | exact B0.drawn (by repeat (first | exact Drawn.refl _ | refine Drawn.step ?_ _ | refine Drawn.one ?_)) | exact B0
    case hF => exact mkM_nil8 (T := 37) (by first | exact B0.drawn (by repeat (first | exact Drawn.refl _ | refine Drawn.step ?_ _ | refine Drawn.one ?_)) | exact B0) (hr2)
end Go.Proofs.Ytgjinjenijjiiaa
