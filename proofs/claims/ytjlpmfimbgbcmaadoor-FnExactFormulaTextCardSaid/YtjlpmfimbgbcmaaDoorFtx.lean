/-
  FormulaText of the program.
-/
import Derived.Test.YtjlpmfimbgbcmaaDoorFtw
import Derived.StillTailTactics
import Derived.Deep.RegionHeld3
namespace Go.Proofs.YtjlpmfimbgbcmaaDoor
open Go.RowKit

theorem ba_empty (s : ByteArray) : s ++ (⟨#[]⟩ : ByteArray) = s := by
  apply ByteArray.ext
  simp [ByteArray.data_append]
theorem Prt.size {d : List Nd} {i e : Nat} {tx : ByteArray} (h : Prt d i e tx) : tx.size ≤ 16 * (e - i) := by
  have hd : ∀ x, (dg x).size = 1 := fun _ => rfl
  have hb : ∀ c, (bt c).size = 1 := fun _ => rfl
  induction h with
  | leaf i h hn hk =>
    have : (lfTx (gn d i)).size ≤ 16 := by
      unfold lfTx
      split
      · rw [hb]; omega
      · split
        · rw [hb]; omega
        · split
          · rename_i h2
            have hl := ndB_2 hn h2
            have ha : (agTx (gn d i).ag (gn d i).ag.length).size ≤ 5 := by
              have : (gn d i).ag.length = 0 ∨ (gn d i).ag.length = 1 ∨ (gn d i).ag.length = 2 := by omega
              rcases this with e | e | e <;> rw [e]
              · exact Nat.zero_le _
              · simp [agTx, ByteArray.size_append, hd, hb]
              · simp [agTx, ByteArray.size_append, hd, hb]
            simp only [ByteArray.size_append, hd, hb]
            omega
          · simp only [ByteArray.size_append, hd, hb]
            have : (⟨#[61, 118]⟩ : ByteArray).size = 2 := rfl
            omega
    omega
  | quant i e tx h hn hk hp ih =>
    have := hp.lt
    unfold qtTx
    simp only [ByteArray.size_append, hd, hb]
    omega
  | bin i m e t1 t2 h hn hk h1 h2 ih1 ih2 =>
    have := h1.lt
    have := h2.lt
    unfold sgTx
    simp only [ByteArray.size_append, hb]
    omega
theorem below_grown {B : Nat} {a w w' : World} {v : Value} {s : ByteArray} (hb : Below B a w) (hB : B ≤ w.heap.size) (ho : OwB w B v s) (hg : w.grownBy w' v.ownBlock) : Below B a w' :=
  hb.grown hg hB (fun k hk => (ho.lt k hk).1)
/-- What the region of an equation holds on to. -/
structure FK (w0 : World) (p q0 q1 : Addr) (va : Value) (x0 x1 : Int) (w' : World) : Prop where
  bel : Below w0.heap.size w0 w'
  le : w0.heap.size ≤ w'.heap.size
  c : w0.cell? p = some va
  c0 : w0.cell? q0 = some (.int .i64 x0)
  c1 : w0.cell? q1 = some (.int .i64 x1)
theorem FK.all {w0 w' : World} {p q0 q1 : Addr} {va : Value} {x0 x1 : Int} (h : FK w0 p q0 q1 va x0 x1 w') : FK w0 p q0 q1 va x0 x1 w' ∧ w'.cell? p = some va ∧ w'.cell? q0 = some (.int .i64 x0) ∧ w'.cell? q1 = some (.int .i64 x1) :=
  ⟨h, upN h.bel h.c, upN h.bel h.c0, upN h.bel h.c1⟩
theorem FK.step {w0 w w' : World} {p q0 q1 : Addr} {va : Value} {x0 x1 : Int} (h : FK w0 p q0 q1 va x0 x1 w) (hb : Below w0.heap.size w0 w') (hl : w0.heap.size ≤ w'.heap.size) : FK w0 p q0 q1 va x0 x1 w' := ⟨hb, hl, h.c, h.c0, h.c1⟩
/-- What formulaText answers. -/
def FTx (w0 : World) (B : Nat) (s : ByteArray) (e : Nat) : Ending → World → Prop := fun e' w' => ∃ v', e' = .returned (.tuple #[v', .int .i64 (e : Int)]) ∧ OwB w' B v' s ∧ Below B w0 w' ∧ B ≤ w'.heap.size
set_option maxHeartbeats 8000000 in
set_option maxRecDepth 100000 in
theorem c_formulaText {w0 : World} {lv : Value} {d : List Nd} (hI : INS w0 lv d) (hd : d.length ≤ 40) {i e : Nat} {tx : ByteArray} (hp : Prt d i e tx) :
    ∀ (w : World) (v : Value) (s : ByteArray), Below w0.heap.size w0 w → w0.heap.size ≤ w.heap.size → OwB w w0.heap.size v s → s.size + 16 * (e - i) ≤ 100000 →
      Calls Tryd.prog 51 #[v, lv, .int .i64 (i : Int)] w (FTx w0 w0.heap.size (s ++ tx) e) := by
  obtain ⟨ao, b, o, c, A, rfl, ha, hc, hA⟩ := hI.ex
  have HC := Lib.hid hc
  have HA := Lib.hid hA
  clear hI hc hA
  induction hp with
  | leaf i h hn hk =>
    intro w v s hb hB ho hsz
    obtain rfl := ha (by omega)
    have x0 := upN hb (HC.out i h).1
    have x1 := upN hb (HC.out i h).2.1
    have x2 := upN hb (HC.out i h).2.2
    have hsy := ndB_sy hn
    have hs16 : s.size ≤ 100000 := by omega
    have HN := Lib.hid hn
    have HB := Lib.hid hb
    have HO := Lib.hid ho
    have kp : (0 : Int) ≤ (i : Int) := by omega
    have kq : (i : Int) < (d.length : Int) := by omega
    have HF := Lib.hid (fun W => c_FormatInt hsy W)
    have hl1 : (i : Int) + 1 ≤ 41 := by omega
    clear hn hsz hb ho
    rcases hk with hk | hk | hk | hk
    · rw [hk] at x0
      have HT : Hid (lfTx (gn d i) = bt 84) := (by unfold lfTx; rw [if_pos hk] : lfTx (gn d i) = bt 84)
      rw [HT.out]
      clear hk
      go_enter Tryd.func51, Tryd.ntmps51
      go_wp2_with fail
      refine (HF.out _).mono ?_
      rintro e w' ⟨rfl, rfl⟩
      go_wp2_with (at_builtin; refine hold ?_)
      refine appB (c := 84) HO.out (by omega) (by omega) (by rfl) _ _ (by rfl) (by rfl) (by rfl) ?_
      intro v1 w1 o1 g1
      have HX := Lib.hid (And.intro o1 (below_grown HB.out hB HO.out g1))
      have hsz1 := g1.size
      clear o1 g1
      go_wp2_with fail
      go_ret2
      exact ⟨_, by go_num, HX.out.1, HX.out.2, by omega⟩
    · rw [hk] at x0
      have HT : Hid (lfTx (gn d i) = bt 70) := (by unfold lfTx; rw [if_neg (by omega), if_pos hk] : lfTx (gn d i) = bt 70)
      rw [HT.out]
      clear hk
      go_enter Tryd.func51, Tryd.ntmps51
      go_wp2_with fail
      refine (HF.out _).mono ?_
      rintro e w' ⟨rfl, rfl⟩
      go_wp2_with (at_builtin; refine hold ?_)
      refine appB (c := 70) HO.out (by omega) (by omega) (by rfl) _ _ (by rfl) (by rfl) (by rfl) ?_
      intro v1 w1 o1 g1
      have HX := Lib.hid (And.intro o1 (below_grown HB.out hB HO.out g1))
      have hsz1 := g1.size
      clear o1 g1
      go_wp2_with fail
      go_ret2
      exact ⟨_, by go_num, HX.out.1, HX.out.2, by omega⟩
    · rw [hk] at x0
      have HT : Hid (lfTx (gn d i) = bt 82 ++ dg (gn d i).sy ++ bt 40 ++ agTx (gn d i).ag (gn d i).ag.length ++ bt 41) := (by unfold lfTx; rw [if_neg (by omega), if_neg (by omega), if_pos hk] : lfTx (gn d i) = bt 82 ++ dg (gn d i).sy ++ bt 40 ++ agTx (gn d i).ag (gn d i).ag.length ++ bt 41)
      have h2 := ndB_2 HN.out hk
      obtain ⟨aA, bA, oA, cA, hvA, haA, hcA⟩ := (HA.out i h).ex
      rw [hvA] at x2
      have HCA := Lib.hid hcA
      have hz3 : (bt 82 ++ dg (gn d i).sy ++ bt 40).size = 3 := rfl
      obtain ⟨T3, hT3⟩ : ∃ x, x = bt 82 ++ dg (gn d i).sy ++ bt 40 := ⟨_, rfl⟩
      have HT3 := Lib.hid hT3
      rw [← hT3] at hz3
      clear hk hvA hcA hT3
      go_enter Tryd.func51, Tryd.ntmps51
      go_wp2_with fail
      refine (HF.out _).mono ?_
      rintro e w' ⟨rfl, rfl⟩
      go_wp2_with (at_builtin; refine hold ?_)
      refine appT (t := T3) HO.out (by omega) (by omega) (by rfl) _ _ (by rfl) (by rfl) (by rw [HT3.out]; rfl) ?_
      intro v1 w1 o1 g1
      have HX1 := Lib.hid (And.intro o1 (below_grown HB.out hB HO.out g1))
      have hsz1 := g1.size
      have x2' := upN HX1.out.2 (HC.out i h).2.2
      clear o1 g1
      have x2'' : w1.cell? ⟨b, o + i * 3 + 2, none⟩ = some (.slice aA (gn d i).ag.length cA) := (by
        have e := x2
        rw [upN HB.out (HC.out i h).2.2] at e
        rw [x2']; exact e)
      clear x2' x2
      go_wp2_with fail
      go_loopw [0, 10, 11, 50] (fun vv _ _ kv wr => ∃ k : Nat, k ≤ (gn d i).ag.length ∧ kv = .int .i64 k ∧ OwB wr w0.heap.size vv (s ++ T3 ++ agTx (gn d i).ag k) ∧ Below w0.heap.size w0 wr ∧ w0.heap.size ≤ wr.heap.size) (fun _ _ _ kv _ => (gn d i).ag.length - (intOf kv).toNat)
      case atStart => exact ⟨0, Nat.zero_le _, rfl, (by have := HX1.out.1; rw [show agTx (gn d i).ag 0 = ⟨#[]⟩ from rfl, ba_empty ]; exact this), HX1.out.2, by omega⟩
      case round =>
        obtain ⟨k, hk, rfl, ho, hb2, hB2⟩ := hrel
        by_cases hlk : k < (gn d i).ag.length
        · obtain rfl := haA (by omega)
          have cx := upN hb2 (HCA.out k hlk)
          have hax := ndB_ag HN.out hlk
          have HV := Lib.hid (fun W => c_variable hax W)
          obtain ⟨S, hS⟩ : ∃ x, x = s ++ T3 ++ agTx (gn d i).ag k := ⟨_, rfl⟩
          rw [← hS] at ho
          have hSz : S.size ≤ 100009 := (by
            rw [hS, ByteArray.size_append, ByteArray.size_append, hz3]
            have : k = 0 ∨ k = 1 := (by omega)
            rcases this with rfl | rfl
            · have : (agTx (gn d i).ag 0).size = 0 := rfl
              omega
            · have : (agTx (gn d i).ag 1).size = 2 := rfl
              omega)
          have HS := Lib.hid hS
          have HO2 := Lib.hid ho
          have HB2 := Lib.hid hb2
          have hv2 : (bt 118 ++ dg (gi (gn d i).ag k)).size = 2 := rfl
          obtain ⟨T2, hT2⟩ : ∃ x, x = bt 118 ++ dg (gi (gn d i).ag k) := ⟨_, rfl⟩
          rw [← hT2] at hv2 HV
          have HT2 := Lib.hid hT2
          clear hS ho hb2 hT2
          by_cases hk0 : k = 0
          · subst hk0
            simp only [Nat.add_zero] at cx
            have p0 : (0 : Int) < ((gn d i).ag.length : Int) := by omega
            go_wp2_with fail
            refine (HV.out _).mono ?_
            rintro e w' ⟨rfl, rfl⟩
            go_wp2_with (at_builtin; refine hold ?_)
            refine appT (t := T2) HO2.out (by omega) (by omega) (by rfl) _ _ (by rfl) (by rfl) (by rfl) ?_
            intro v2 w2 o2 g2
            have HX2 := Lib.hid (And.intro o2 (below_grown HB2.out hB2 HO2.out g2))
            have hsz2 := g2.size
            clear o2 g2
            go_wp2_with fail
            go_roundw
            case rel => exact ⟨1, by omega, by go_num, by
              have e := HX2.out.1
              rw [HS.out, HT2.out] at e
              rw [show agTx (gn d i).ag 0 = ⟨#[]⟩ from rfl, ba_empty] at e
              exact e, HX2.out.2, by omega⟩
            case measure => simp [intOf]; omega
          · have hk1 : decide ((0 : Int) < (k : Int)) = true := decide_eq_true (by omega)
            have hk2 : 0 < k := by omega
            have hk3 : decide (0 < k) = true := decide_eq_true hk2
            go_wp2_with (at_builtin; refine hold ?_)
            refine appB (c := 44) HO2.out (by omega) (by omega) (by rfl) _ _ (by rfl) (by rfl) (by rfl) ?_
            intro v2 w2 o2 g2
            have HX2 := Lib.hid (And.intro o2 (below_grown HB2.out hB2 HO2.out g2))
            have hsz2 := g2.size
            have hS2 : (S ++ bt 44).size ≤ 100010 := (by rw [ByteArray.size_append, show (bt 44).size = 1 from rfl]; omega)
            clear o2 g2
            obtain ⟨S2, hS2e⟩ : ∃ x, x = S ++ bt 44 := ⟨_, rfl⟩
            rw [← hS2e] at hS2 HX2
            have HS2 := Lib.hid hS2e
            clear hS2e
            go_wp2_with fail
            refine (HV.out _).mono ?_
            rintro e w' ⟨rfl, rfl⟩
            go_wp2_with (at_builtin; refine hold ?_)
            refine appT (t := T2) HX2.out.1 (by omega) (by omega) (by rfl) _ _ (by rfl) (by rfl) (by rfl) ?_
            intro v3 w3 o3 g3
            have HX3 := Lib.hid (And.intro o3 (below_grown HX2.out.2 (by omega) HX2.out.1 g3))
            have hsz3 := g3.size
            clear o3 g3
            go_wp2_with fail
            go_roundw
            case rel => exact ⟨k + 1, by omega, by go_num, by
              have e := HX3.out.1
              rw [HS2.out, HS.out, HT2.out] at e
              rw [agTx, if_neg hk0]
              simp only [ba_assoc] at e ⊢
              exact e, HX3.out.2, by omega⟩
            case measure => simp [intOf]; omega
        · have hke : (gn d i).ag.length = k := by omega
          obtain ⟨S, hS⟩ : ∃ x, x = s ++ T3 ++ agTx (gn d i).ag k := ⟨_, rfl⟩
          rw [← hS] at ho
          have hSz : S.size ≤ 100020 := (by
            rw [hS, ByteArray.size_append, ByteArray.size_append, hz3]
            have : k = 0 ∨ k = 1 ∨ k = 2 := (by omega)
            rcases this with rfl | rfl | rfl
            · have : (agTx (gn d i).ag 0).size = 0 := rfl
              omega
            · have : (agTx (gn d i).ag 1).size = 2 := rfl
              omega
            · have : (agTx (gn d i).ag 2).size = 5 := rfl
              omega)
          have HS := Lib.hid hS
          have HO2 := Lib.hid ho
          have HB2 := Lib.hid hb2
          have hnl : decide ((k : Int) < ((gn d i).ag.length : Int)) = false := by simp; omega
          have hnl2 : ¬ k < (gn d i).ag.length := by omega
          have HKE := Lib.hid hke
          clear hS ho hb2 hke
          go_wp2_with (at_builtin; refine hold ?_)
          refine appB (c := 41) HO2.out (by omega) (by omega) (by rfl) _ _ (by rfl) (by rfl) (by rfl) ?_
          intro v2 w2 o2 g2
          have HX2 := Lib.hid (And.intro o2 (below_grown HB2.out hB2 HO2.out g2))
          have hsz2 := g2.size
          clear o2 g2
          go_wp2_with fail
          go_ret2
          exact ⟨_, by go_num, by
            have e := HX2.out.1
            rw [HS.out, HT3.out] at e
            rw [HT.out, HKE.out]
            simp only [ba_assoc] at e ⊢
            exact e, HX2.out.2, by omega⟩
    · rw [hk] at x0
      have HT : Hid (lfTx (gn d i) = bt 118 ++ dg (gi (gn d i).ag 0) ++ ⟨#[61, 118]⟩ ++ dg (gi (gn d i).ag 1)) := (by unfold lfTx; rw [if_neg (by omega), if_neg (by omega), if_neg (by omega)] : lfTx (gn d i) = bt 118 ++ dg (gi (gn d i).ag 0) ++ ⟨#[61, 118]⟩ ++ dg (gi (gn d i).ag 1))
      have h3 := ndB_3 HN.out hk
      obtain ⟨aA, bA, oA, cA, hvA, haA, hcA⟩ := (HA.out i h).ex
      rw [h3] at hvA haA hcA
      have ex2 := (HC.out i h).2.2
      rw [hvA] at x2 ex2
      have y0 := hcA 0 (by omega)
      have y1 := hcA 1 (by omega)
      have g0 := ndB_ag HN.out (l := 0) (by omega)
      have g1 := ndB_ag HN.out (l := 1) (by omega)
      obtain rfl := haA (by omega)
      simp only [Nat.add_zero] at y0
      generalize gi (gn d i).ag 0 = z0 at *
      generalize gi (gn d i).ag 1 = z1 at *
      have HV0 := Lib.hid (fun W => c_variable g0 W)
      have HV1 := Lib.hid (fun W => c_variable g1 W)
      have HOD := Lib.hid (HO.out.bel (Drawn.below (Drawn.one (Drawn.refl w)) _))
      have hBD : w0.heap.size ≤ w.drew.heap.size := hB
      have fk : FK w0 ⟨b, o + i * 3 + 2, none⟩ ⟨bA, oA, none⟩ ⟨bA, oA + 1, none⟩ (.slice (some ⟨bA, oA, none⟩) 2 cA) z0 z1 w.drew := ⟨HB.out.trans (Drawn.below (Drawn.one (Drawn.refl _)) _), hB, ex2, y0, y1⟩
      have fka := fk.all
      have HL5 : Hid (s.size + (bt 118 ++ dg z0 ++ bt 61 ++ (bt 118 ++ dg z1)).size < 1000000) := (by have : (bt 118 ++ dg z0 ++ bt 61 ++ (bt 118 ++ dg z1)).size = 5 := rfl; omega : s.size + (bt 118 ++ dg z0 ++ bt 61 ++ (bt 118 ++ dg z1)).size < 1000000)
      clear hk hvA hcA h3 y0 y1 haA g0 g1 ex2
      go_enter Tryd.func51, Tryd.ntmps51
      go_wp2_with fail
      refine (HF.out _).mono ?_
      rintro e w' ⟨rfl, rfl⟩
      go_wp2_with fail
      have sz0 : (dg z0).size = 1 := rfl
      have sz1 : (dg z1).size = 1 := rfl
      have sz2 : (bt 118).size = 1 := rfl
      go_region_held3 (fun w' => FK w0 ⟨b, o + i * 3 + 2, none⟩ ⟨bA, oA, none⟩ ⟨bA, oA + 1, none⟩ (.slice (some ⟨bA, oA, none⟩) 2 cA) z0 z1 w' ∧ w'.cell? ⟨b, o + i * 3 + 2, none⟩ = some (.slice (some ⟨bA, oA, none⟩) 2 cA) ∧ w'.cell? ⟨bA, oA, none⟩ = some (.int .i64 z0) ∧ w'.cell? ⟨bA, oA + 1, none⟩ = some (.int .i64 z1))
        (first | with_reducible exact fka | (with_reducible refine (FK.step fk hbx (by omega)).all))
        (first | (go_at_call 72; (with_reducible refine (HV0.out _).mono ?_); rintro e w' ⟨rfl, rfl⟩) | (go_at_call 72; (with_reducible refine (HV1.out _).mono ?_); rintro e w' ⟨rfl, rfl⟩) | (refine stepAppT (t := bt 118 ++ dg z0 ++ bt 61 ++ (bt 118 ++ dg z1)) HOD.out HL5.out hBD ?_ (.tmp 71) (.tmp 87) ?_ ?_ ?_ ?_; exact rfl; exact rfl; exact rfl; exact rfl; intro v1 w1 o1 g1; have hbx := below_grown fk.bel fk.le HOD.out g1; have hsz1 := g1.size))
      all_goals
        have HX := Lib.hid (And.intro o1 hbx)
        clear o1 g1 hbx fk fka sz0 sz1 sz2
        go_wp2_with fail
        go_ret2
        exact ⟨_, by go_num, by
          have e := HX.out.1
          rw [HT.out]
          have e2 : (⟨#[61, 118]⟩ : ByteArray) = bt 61 ++ bt 118 := rfl
          rw [e2]
          simp only [ba_assoc] at e ⊢
          exact e, HX.out.2, by omega⟩
  | quant i e tx h hn hk hp ih =>
    intro w v s hb hB ho hsz
    obtain rfl := ha (by omega)
    have hlt := hp.lt
    have x0 := upN hb (HC.out i h).1
    have x1 := upN hb (HC.out i h).2.1
    have hsy := ndB_sy hn
    have hs16 : s.size ≤ 100000 := by omega
    have HB := Lib.hid hb
    have HO := Lib.hid ho
    have kp : (0 : Int) ≤ (i : Int) := by omega
    have kq : (i : Int) < (d.length : Int) := by omega
    have HF := Lib.hid (fun W => c_FormatInt hsy W)
    have hl1 : (i : Int) + 1 ≤ 41 := by omega
    clear hn hb ho hp
    rcases hk with hk | hk
    · rw [hk] at x0
      have HT : Hid (qtTx (gn d i) = bt 69 ++ dg (gn d i).sy ++ bt 46) := (by unfold qtTx; rw [hk]; rfl : qtTx (gn d i) = bt 69 ++ dg (gn d i).sy ++ bt 46)
      have hz3 : (bt 69 ++ dg (gn d i).sy ++ bt 46).size = 3 := rfl
      have hEA : (({ data := #[69, 65] } : ByteArray).extract 0 2).extract 0 1 = bt 69 := by first | rfl | decide
      obtain ⟨T3, hT3⟩ : ∃ x, x = (({ data := #[69, 65] } : ByteArray).extract 0 2).extract 0 1 ++ dg (gn d i).sy ++ { data := #[46] } := ⟨_, rfl⟩
      have HT3r := Lib.hid hT3
      have HT3 : Hid (T3 = bt 69 ++ dg (gn d i).sy ++ bt 46) := (by rw [hT3, hEA]; rfl : T3 = bt 69 ++ dg (gn d i).sy ++ bt 46)
      rw [← HT3.out] at hz3
      clear hEA
      have HSZ := Lib.hid hsz
      clear hk hT3 hsz
      go_enter Tryd.func51, Tryd.ntmps51
      go_wp2_with fail
      refine (HF.out _).mono ?_
      rintro e w' ⟨rfl, rfl⟩
      go_wp2_with (at_builtin; refine hold ?_)
      refine appT (t := T3) HO.out (by omega) (by omega) (by rfl) _ _ (by rfl) (by rfl) (by rw [HT3r.out]; rfl) ?_
      intro v1 w1 o1 g1
      have hsz1 := g1.size
      have hb1 := below_grown HB.out hB HO.out g1
      have hih := ih w1 v1 (s ++ T3) hb1 (by omega) o1 (by rw [ByteArray.size_append, hz3]; have := HSZ.out; omega)
      rw [show ((i + 1 : Nat) : Int) = (i : Int) + 1 by omega] at hih
      have HIH := Lib.hid hih
      clear hih o1 g1 hb1
      go_wp2_with fail
      refine HIH.out.mono ?_
      rintro e' w2 ⟨v2, rfl, o2, b2, l2⟩
      have HX := Lib.hid (And.intro o2 b2)
      clear o2 b2
      go_wp2_with fail
      go_ret2
      exact ⟨_, by go_num, by
        have e := HX.out.1
        rw [HT3.out] at e
        rw [HT.out]
        simp only [ba_assoc] at e ⊢
        exact e, HX.out.2, by omega⟩
    · rw [hk] at x0
      have HT : Hid (qtTx (gn d i) = bt 65 ++ dg (gn d i).sy ++ bt 46) := (by unfold qtTx; rw [hk]; rfl : qtTx (gn d i) = bt 65 ++ dg (gn d i).sy ++ bt 46)
      have hz3 : (bt 65 ++ dg (gn d i).sy ++ bt 46).size = 3 := rfl
      have hEA : (({ data := #[69, 65] } : ByteArray).extract 1 2).extract 0 1 = bt 65 := by first | rfl | decide
      obtain ⟨T3, hT3⟩ : ∃ x, x = (({ data := #[69, 65] } : ByteArray).extract 1 2).extract 0 1 ++ dg (gn d i).sy ++ { data := #[46] } := ⟨_, rfl⟩
      have HT3r := Lib.hid hT3
      have HT3 : Hid (T3 = bt 65 ++ dg (gn d i).sy ++ bt 46) := (by rw [hT3, hEA]; rfl : T3 = bt 65 ++ dg (gn d i).sy ++ bt 46)
      rw [← HT3.out] at hz3
      clear hEA
      have HSZ := Lib.hid hsz
      clear hk hT3 hsz
      go_enter Tryd.func51, Tryd.ntmps51
      go_wp2_with fail
      refine (HF.out _).mono ?_
      rintro e w' ⟨rfl, rfl⟩
      go_wp2_with (at_builtin; refine hold ?_)
      refine appT (t := T3) HO.out (by omega) (by omega) (by rfl) _ _ (by rfl) (by rfl) (by rw [HT3r.out]; rfl) ?_
      intro v1 w1 o1 g1
      have hsz1 := g1.size
      have hb1 := below_grown HB.out hB HO.out g1
      have hih := ih w1 v1 (s ++ T3) hb1 (by omega) o1 (by rw [ByteArray.size_append, hz3]; have := HSZ.out; omega)
      rw [show ((i + 1 : Nat) : Int) = (i : Int) + 1 by omega] at hih
      have HIH := Lib.hid hih
      clear hih o1 g1 hb1
      go_wp2_with fail
      refine HIH.out.mono ?_
      rintro e' w2 ⟨v2, rfl, o2, b2, l2⟩
      have HX := Lib.hid (And.intro o2 b2)
      clear o2 b2
      go_wp2_with fail
      go_ret2
      exact ⟨_, by go_num, by
        have e := HX.out.1
        rw [HT3.out] at e
        rw [HT.out]
        simp only [ba_assoc] at e ⊢
        exact e, HX.out.2, by omega⟩
  | bin i m e t1 t2 h hn hk h1 h2 ih1 ih2 =>
    intro w v s hb hB ho hsz
    obtain rfl := ha (by omega)
    have hl1' := h1.lt
    have hl2' := h2.lt
    have hz1 := h1.size
    have HT2Z := Lib.hid h2.size
    have x0 := upN hb (HC.out i h).1
    have x1 := upN hb (HC.out i h).2.1
    have hsy := ndB_sy hn
    have hs16 : s.size ≤ 100000 := by omega
    have HB := Lib.hid hb
    have HO := Lib.hid ho
    have kp : (0 : Int) ≤ (i : Int) := by omega
    have kq : (i : Int) < (d.length : Int) := by omega
    have HF := Lib.hid (fun W => c_FormatInt hsy W)
    have hl1 : (i : Int) + 1 ≤ 41 := by omega
    have HC0 := Lib.hid (HC.out i h).1
    clear hn hb ho h1 h2
    rcases hk with hk | hk | hk
    · rw [hk] at x0
      have HT : Hid (sgTx (gn d i) = bt 38) := (by unfold sgTx; rw [hk]; rfl : sgTx (gn d i) = bt 38)
      have HK := Lib.hid hk
      have HSZ := Lib.hid hsz
      clear hk hsz
      go_enter Tryd.func51, Tryd.ntmps51
      go_wp2_with fail
      refine (HF.out _).mono ?_
      rintro e w' ⟨rfl, rfl⟩
      go_wp2_with (at_builtin; refine hold ?_)
      refine appB (c := 40) HO.out (by omega) (by omega) (by rfl) _ _ (by rfl) (by rfl) (by rfl) ?_
      intro v1 w1 o1 g1
      have hsz1 := g1.size
      have hb1 := below_grown HB.out hB HO.out g1
      have hih := ih1 w1 v1 (s ++ bt 40) hb1 (by omega) o1 (by rw [ByteArray.size_append, show (bt 40).size = 1 from rfl]; have := HSZ.out; omega)
      rw [show ((i + 1 : Nat) : Int) = (i : Int) + 1 by omega] at hih
      have HIH := Lib.hid hih
      clear hih o1 g1 hb1
      go_wp2_with fail
      refine HIH.out.mono ?_
      rintro e' w2 ⟨v2, rfl, o2, b2, l2⟩
      have y0 := upN b2 HC0.out
      rw [HK.out] at y0
      have HO2 := Lib.hid o2
      have HB2 := Lib.hid b2
      have hs2 : (s ++ bt 40 ++ t1).size = s.size + 1 + t1.size := by rw [ByteArray.size_append, ByteArray.size_append]; rfl
      obtain ⟨S2, hS2⟩ : ∃ x, x = s ++ bt 40 ++ t1 := ⟨_, rfl⟩
      rw [← hS2] at hs2 HO2
      have HS2 := Lib.hid hS2
      have hs2b : S2.size ≤ 200000 := by have := HSZ.out; omega
      have HS2Z := Lib.hid hs2
      clear o2 b2 hS2 x0 x1 hs2
      go_wp2_with (at_builtin; refine hold ?_)
      refine appB (c := 38) HO2.out (by omega) (by omega) (by rfl) _ _ (by rfl) (by rfl) (by rfl) ?_
      intro v3 w3 o3 g3
      have hsz3 := g3.size
      have hb3 := below_grown HB2.out l2 HO2.out g3
      have hih := ih2 w3 v3 (S2 ++ bt 38) hb3 (by omega) o3 (by rw [ByteArray.size_append, show (bt 38).size = 1 from rfl]; have := HSZ.out; have := HS2Z.out; omega)
      have HIH3 := Lib.hid hih
      clear hih o3 g3 hb3
      go_wp2_with fail
      refine HIH3.out.mono ?_
      rintro e' w4 ⟨v4, rfl, o4, b4, l4⟩
      have hz2 := (by have := HSZ.out; have := HS2Z.out; rw [ByteArray.size_append, ByteArray.size_append, show (bt 38).size = 1 from rfl]; have := HT2Z.out; omega : (S2 ++ bt 38 ++ t2).size ≤ 900000)
      have HO4 := Lib.hid o4
      have HB4 := Lib.hid b4
      obtain ⟨S4, hS4⟩ : ∃ x, x = S2 ++ bt 38 ++ t2 := ⟨_, rfl⟩
      rw [← hS4] at hz2 HO4
      have HS4 := Lib.hid hS4
      clear o4 b4 hS4 y0
      go_wp2_with (at_builtin; refine hold ?_)
      refine appB (c := 41) HO4.out (by omega) (by omega) (by rfl) _ _ (by rfl) (by rfl) (by rfl) ?_
      intro v5 w5 o5 g5
      have HX := Lib.hid (And.intro o5 (below_grown HB4.out l4 HO4.out g5))
      have hsz5 := g5.size
      clear o5 g5
      go_wp2_with fail
      go_ret2
      exact ⟨_, by go_num, by
        have e := HX.out.1
        rw [HS4.out, HS2.out] at e
        rw [HT.out]
        simp only [ba_assoc] at e ⊢
        exact e, HX.out.2, by omega⟩
    · rw [hk] at x0
      have HT : Hid (sgTx (gn d i) = bt 124) := (by unfold sgTx; rw [hk]; rfl : sgTx (gn d i) = bt 124)
      have HK := Lib.hid hk
      have HSZ := Lib.hid hsz
      clear hk hsz
      go_enter Tryd.func51, Tryd.ntmps51
      go_wp2_with fail
      refine (HF.out _).mono ?_
      rintro e w' ⟨rfl, rfl⟩
      go_wp2_with (at_builtin; refine hold ?_)
      refine appB (c := 40) HO.out (by omega) (by omega) (by rfl) _ _ (by rfl) (by rfl) (by rfl) ?_
      intro v1 w1 o1 g1
      have hsz1 := g1.size
      have hb1 := below_grown HB.out hB HO.out g1
      have hih := ih1 w1 v1 (s ++ bt 40) hb1 (by omega) o1 (by rw [ByteArray.size_append, show (bt 40).size = 1 from rfl]; have := HSZ.out; omega)
      rw [show ((i + 1 : Nat) : Int) = (i : Int) + 1 by omega] at hih
      have HIH := Lib.hid hih
      clear hih o1 g1 hb1
      go_wp2_with fail
      refine HIH.out.mono ?_
      rintro e' w2 ⟨v2, rfl, o2, b2, l2⟩
      have y0 := upN b2 HC0.out
      rw [HK.out] at y0
      have HO2 := Lib.hid o2
      have HB2 := Lib.hid b2
      have hs2 : (s ++ bt 40 ++ t1).size = s.size + 1 + t1.size := by rw [ByteArray.size_append, ByteArray.size_append]; rfl
      obtain ⟨S2, hS2⟩ : ∃ x, x = s ++ bt 40 ++ t1 := ⟨_, rfl⟩
      rw [← hS2] at hs2 HO2
      have HS2 := Lib.hid hS2
      have hs2b : S2.size ≤ 200000 := by have := HSZ.out; omega
      have HS2Z := Lib.hid hs2
      clear o2 b2 hS2 x0 x1 hs2
      go_wp2_with (at_builtin; refine hold ?_)
      refine appB (c := 124) HO2.out (by omega) (by omega) (by rfl) _ _ (by rfl) (by rfl) (by rfl) ?_
      intro v3 w3 o3 g3
      have hsz3 := g3.size
      have hb3 := below_grown HB2.out l2 HO2.out g3
      have hih := ih2 w3 v3 (S2 ++ bt 124) hb3 (by omega) o3 (by rw [ByteArray.size_append, show (bt 124).size = 1 from rfl]; have := HSZ.out; have := HS2Z.out; omega)
      have HIH3 := Lib.hid hih
      clear hih o3 g3 hb3
      go_wp2_with fail
      refine HIH3.out.mono ?_
      rintro e' w4 ⟨v4, rfl, o4, b4, l4⟩
      have hz2 := (by have := HSZ.out; have := HS2Z.out; rw [ByteArray.size_append, ByteArray.size_append, show (bt 124).size = 1 from rfl]; have := HT2Z.out; omega : (S2 ++ bt 124 ++ t2).size ≤ 900000)
      have HO4 := Lib.hid o4
      have HB4 := Lib.hid b4
      obtain ⟨S4, hS4⟩ : ∃ x, x = S2 ++ bt 124 ++ t2 := ⟨_, rfl⟩
      rw [← hS4] at hz2 HO4
      have HS4 := Lib.hid hS4
      clear o4 b4 hS4 y0
      go_wp2_with (at_builtin; refine hold ?_)
      refine appB (c := 41) HO4.out (by omega) (by omega) (by rfl) _ _ (by rfl) (by rfl) (by rfl) ?_
      intro v5 w5 o5 g5
      have HX := Lib.hid (And.intro o5 (below_grown HB4.out l4 HO4.out g5))
      have hsz5 := g5.size
      clear o5 g5
      go_wp2_with fail
      go_ret2
      exact ⟨_, by go_num, by
        have e := HX.out.1
        rw [HS4.out, HS2.out] at e
        rw [HT.out]
        simp only [ba_assoc] at e ⊢
        exact e, HX.out.2, by omega⟩
    · rw [hk] at x0
      have HT : Hid (sgTx (gn d i) = bt 62) := (by unfold sgTx; rw [hk]; rfl : sgTx (gn d i) = bt 62)
      have HK := Lib.hid hk
      have HSZ := Lib.hid hsz
      clear hk hsz
      go_enter Tryd.func51, Tryd.ntmps51
      go_wp2_with fail
      refine (HF.out _).mono ?_
      rintro e w' ⟨rfl, rfl⟩
      go_wp2_with (at_builtin; refine hold ?_)
      refine appB (c := 40) HO.out (by omega) (by omega) (by rfl) _ _ (by rfl) (by rfl) (by rfl) ?_
      intro v1 w1 o1 g1
      have hsz1 := g1.size
      have hb1 := below_grown HB.out hB HO.out g1
      have hih := ih1 w1 v1 (s ++ bt 40) hb1 (by omega) o1 (by rw [ByteArray.size_append, show (bt 40).size = 1 from rfl]; have := HSZ.out; omega)
      rw [show ((i + 1 : Nat) : Int) = (i : Int) + 1 by omega] at hih
      have HIH := Lib.hid hih
      clear hih o1 g1 hb1
      go_wp2_with fail
      refine HIH.out.mono ?_
      rintro e' w2 ⟨v2, rfl, o2, b2, l2⟩
      have y0 := upN b2 HC0.out
      rw [HK.out] at y0
      have HO2 := Lib.hid o2
      have HB2 := Lib.hid b2
      have hs2 : (s ++ bt 40 ++ t1).size = s.size + 1 + t1.size := by rw [ByteArray.size_append, ByteArray.size_append]; rfl
      obtain ⟨S2, hS2⟩ : ∃ x, x = s ++ bt 40 ++ t1 := ⟨_, rfl⟩
      rw [← hS2] at hs2 HO2
      have HS2 := Lib.hid hS2
      have hs2b : S2.size ≤ 200000 := by have := HSZ.out; omega
      have HS2Z := Lib.hid hs2
      clear o2 b2 hS2 x0 x1 hs2
      go_wp2_with (at_builtin; refine hold ?_)
      refine appB (c := 62) HO2.out (by omega) (by omega) (by rfl) _ _ (by rfl) (by rfl) (by rfl) ?_
      intro v3 w3 o3 g3
      have hsz3 := g3.size
      have hb3 := below_grown HB2.out l2 HO2.out g3
      have hih := ih2 w3 v3 (S2 ++ bt 62) hb3 (by omega) o3 (by rw [ByteArray.size_append, show (bt 62).size = 1 from rfl]; have := HSZ.out; have := HS2Z.out; omega)
      have HIH3 := Lib.hid hih
      clear hih o3 g3 hb3
      go_wp2_with fail
      refine HIH3.out.mono ?_
      rintro e' w4 ⟨v4, rfl, o4, b4, l4⟩
      have hz2 := (by have := HSZ.out; have := HS2Z.out; rw [ByteArray.size_append, ByteArray.size_append, show (bt 62).size = 1 from rfl]; have := HT2Z.out; omega : (S2 ++ bt 62 ++ t2).size ≤ 900000)
      have HO4 := Lib.hid o4
      have HB4 := Lib.hid b4
      obtain ⟨S4, hS4⟩ : ∃ x, x = S2 ++ bt 62 ++ t2 := ⟨_, rfl⟩
      rw [← hS4] at hz2 HO4
      have HS4 := Lib.hid hS4
      clear o4 b4 hS4 y0
      go_wp2_with (at_builtin; refine hold ?_)
      refine appB (c := 41) HO4.out (by omega) (by omega) (by rfl) _ _ (by rfl) (by rfl) (by rfl) ?_
      intro v5 w5 o5 g5
      have HX := Lib.hid (And.intro o5 (below_grown HB4.out l4 HO4.out g5))
      have hsz5 := g5.size
      clear o5 g5
      go_wp2_with fail
      go_ret2
      exact ⟨_, by go_num, by
        have e := HX.out.1
        rw [HS4.out, HS2.out] at e
        rw [HT.out]
        simp only [ba_assoc] at e ⊢
        exact e, HX.out.2, by omega⟩
theorem ba_empty_l (s : ByteArray) : (⟨#[]⟩ : ByteArray) ++ s = s := by
  apply ByteArray.ext
  simp [ByteArray.data_append]
theorem c_textOf {w : World} {lv : Value} {d : List Nd} (hI : INS w lv d) (hf : fmB d = true) : Calls Tryd.prog 26 #[lv] w (Ret w (.string (txOf d))) := by
  have hl := fmB_len hf
  have hp := txOf_prt hf
  have hz := hp.size
  have h := c_formulaText hI hl hp w (.slice none 0 0) ⟨#[]⟩ (Below.refl _ _) (Nat.le_refl _) (OwB.nil _ _) (by show 0 + _ ≤ _; omega)
  rw [ba_empty_l, show ((0 : Nat) : Int) = 0 from rfl] at h
  have HH := Lib.hid h
  obtain ⟨ao, b, o, c, A, rfl, -⟩ := hI.ex
  clear h hp hz hI hf
  go_enter Tryd.func26, Tryd.ntmps26
  go_wp2_with fail
  refine HH.out.mono ?_
  rintro e w2 ⟨v2, rfl, o2, b2, l2⟩
  have hcv := conv_own o2
  have HB2 := Lib.hid b2
  clear o2 b2
  go_wp2_with fail
  go_ret
  exact ⟨rfl, HB2.out⟩
theorem ftR_t {d : List Nd} (h : fmB d = true) : ftR d = (txOf d, 0) := by unfold ftR; rw [if_pos h]
theorem ftR_f {d : List Nd} (h : fmB d = false) : ftR d = (⟨#[]⟩, 1) := by unfold ftR; rw [h]; rfl
theorem i_FormulaText {w : World} {v : Value} {d : List Nd} (h : INS w v d) : Calls Tryd.prog 9 #[v] w (Ret w (.tuple #[.string (ftR d).1, .int .i64 (ftR d).2])) := by
  have HF := Lib.hid (c_isFormula h)
  have HI := Lib.hid h
  obtain ⟨ao, b, o, c, A, rfl, -⟩ := h.ex
  clear h
  cases hf : fmB d with
  | true =>
    rw [ftR_t hf]
    have HT := Lib.hid (fun W (hW : Below w.heap.size w W) => c_textOf (HI.out.kept hW) hf)
    go_enter Tryd.func9, Tryd.ntmps9
    go_wp2_with fail
    refine HF.out.mono ?_
    rintro e w1 ⟨rfl, b1⟩
    rw [hf]
    go_wp2_with fail
    refine (HT.out _ b1).mono ?_
    rintro e w2 ⟨rfl, b2⟩
    go_wp2_with fail
    go_ret2
    exact ⟨rfl, belN b1 b2 b1.size⟩
  | false =>
    rw [ftR_f hf]
    go_enter Tryd.func9, Tryd.ntmps9
    go_wp2_with fail
    refine HF.out.mono ?_
    rintro e w1 ⟨rfl, b1⟩
    rw [hf]
    go_wp2_with fail
    go_ret2
    exact ⟨rfl, b1⟩
end Go.Proofs.YtjlpmfimbgbcmaaDoor
