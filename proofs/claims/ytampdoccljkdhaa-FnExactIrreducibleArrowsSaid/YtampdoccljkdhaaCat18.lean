/-
  Chapter 2: IrreducibleArrows: program and reference.
-/
import Derived.Test.YtampdoccljkdhaaCat7
namespace Go.Proofs.Ytampdoccljkdhaa
open Go.RowKit

theorem infoBool : (Try.prog.info? 4).map (fun i => (i.zero, i.size, i.bytes)) = some (some (.bool false), 1, 1) := by kernel_rfl
def idB (c : Cat) (f : Nat) : Bool := c.I (c.F f) == (f : Int)
/-- j is a composite of two arrows that are no identities, of the pairs ahead of (k, l). -/
def SplitP (c : Cat) (k l j : Nat) : Prop := ∃ f g : Nat, (f < k ∨ (f = k ∧ g < l)) ∧ f < c.fr.length ∧ g < c.fr.length ∧ c.T f = c.F g ∧ idB c f = false ∧ idB c g = false ∧ c.M f g = (j : Int)
noncomputable def spB (c : Cat) (k l j : Nat) : Bool := @decide (SplitP c k l j) (Classical.propDecidable _)
theorem spB_iff {c : Cat} {k l j : Nat} : spB c k l j = true ↔ SplitP c k l j := by
  unfold spB
  exact @decide_eq_true_iff _ (Classical.propDecidable _)
theorem bool_ext {a b : Bool} (h : a = true ↔ b = true) : a = b := by cases a <;> cases b <;> simp_all
theorem spB_zero (c : Cat) (j : Nat) : spB c 0 0 j = false := by
  rw [Bool.eq_false_iff]
  intro h
  obtain ⟨f, g, h1, -⟩ := spB_iff.1 h
  omega
theorem spB_row (c : Cat) (k j : Nat) : spB c k c.fr.length j = spB c (k + 1) 0 j := by
  apply bool_ext
  rw [spB_iff, spB_iff]
  constructor
  · rintro ⟨f, g, h1, h2, h3, h4⟩
    exact ⟨f, g, by omega, h2, h3, h4⟩
  · rintro ⟨f, g, h1, h2, h3, h4⟩
    exact ⟨f, g, by omega, h2, h3, h4⟩
theorem spB_no {c : Cat} {k l : Nat} (h : ¬ (c.T k = c.F l ∧ idB c k = false ∧ idB c l = false)) (j : Nat) : spB c k (l + 1) j = spB c k l j := by
  apply bool_ext
  rw [spB_iff, spB_iff]
  constructor
  · rintro ⟨f, g, h1, h2, h3, h4, h5, h6, h7⟩
    refine ⟨f, g, ?_, h2, h3, h4, h5, h6, h7⟩
    rcases h1 with h1 | ⟨rfl, h1⟩
    · exact .inl h1
    · by_cases e : g = l
      · subst e; exact absurd ⟨h4, h5, h6⟩ h
      · exact .inr ⟨rfl, by omega⟩
  · rintro ⟨f, g, h1, h4⟩
    exact ⟨f, g, by omega, h4⟩
theorem spB_yes {c : Cat} {k l x : Nat} (hk : k < c.fr.length) (hl : l < c.fr.length) (h1 : c.T k = c.F l) (h2 : idB c k = false) (h3 : idB c l = false) (hx : c.M k l = (x : Int)) (j : Nat) : spB c k (l + 1) j = if j = x then true else spB c k l j := by
  apply bool_ext
  by_cases e : j = x
  · subst e
    rw [if_pos rfl, spB_iff]
    exact ⟨fun _ => rfl, fun _ => ⟨k, l, .inr ⟨rfl, by omega⟩, hk, hl, h1, h2, h3, hx⟩⟩
  · rw [if_neg e, spB_iff, spB_iff]
    constructor
    · rintro ⟨f, g, a1, a2, a3, a4, a5, a6, a7⟩
      refine ⟨f, g, ?_, a2, a3, a4, a5, a6, a7⟩
      rcases a1 with a1 | ⟨rfl, a1⟩
      · exact .inl a1
      · by_cases e2 : g = l
        · subst e2; rw [hx] at a7; omega
        · exact .inr ⟨rfl, by omega⟩
    · rintro ⟨f, g, a1, a4⟩
      exact ⟨f, g, by omega, a4⟩
noncomputable def irrP (c : Cat) (j : Nat) : Bool := !spB c c.fr.length 0 j && !idB c j
noncomputable def irrL (c : Cat) : List Int := sel (irrP c) c.fr.length
noncomputable def irrR (c : Cat) : List Int × Int := if catB c then (irrL c, 0) else ([], 1)
theorem c_marked {w : World} {g m : Nat} {p : Nat → Bool} (hr : w.rowIs g 4 m (fun j => .bool (p j))) (hm : m ≤ 40) : Calls Try.prog 84 #[.slice (some ⟨g, 0, none⟩) m m] w (Mk w fun w' u => OwnT 2 w.heap.size w'.heap.size w' u (sel p m)) := by
  have hg := hr.lt
  go_enter Try.func84, Try.ntmps84
  go_wp2_with fail
  go_loopw [3, 4, 5, 9] (fun out _ _ i wr => ∃ (k : Nat) (os : List Int), k ≤ m ∧ i = .int .i64 k ∧ Below w.heap.size w wr ∧ Own 2 wr w.heap.size out os ∧ os.length ≤ k ∧ Hid (os = sel p k)) (fun _ _ _ i _ => m - (intOf i).toNat)
  case atStart => exact ⟨0, [], Nat.zero_le _, rfl, bel_alloc (Below.refl _ _) _, Own.empty _ _ _ (Nat.le_refl _), Nat.le_refl _, rfl⟩
  case round =>
    obtain ⟨k, os, hk, rfl, hb, ho, hol, hp⟩ := hrel
    by_cases hlt : k < m
    · have hw0 := hb.size
      have cx := up_cell hb (hr.cell hlt)
      cases hpk : p k with
      | true =>
        rw [hpk] at cx
        have HE := Lib.hid hpk
        clear hpk
        go_wp2_with (at_builtin; refine hold ?_)
        refine app1 ho (by constructor <;> omega) (by omega) (by first | omega | (simp; omega)) Try.underlying22 infoInt64 (by rfl) _ _ (by rfl) (by rfl) (by rfl) ?_
        intro v' w2 ho2 g2
        have hb2 := g2.below hb (by first | omega | (simp; omega)) (fun k hk => (ho.lt k hk).1)
        clear ho g2 hb cx
        go_wp2_with fail
        go_roundw
        case rel => exact ⟨k + 1, _, by omega, by go_num, hb2, ho2, by simp; omega, by unfold Hid; rw [sel_yes HE.out, ← hp.out]⟩
        case measure => simp [intOf]; omega
      | false =>
        rw [hpk] at cx
        have HE := Lib.hid hpk
        have HB := Lib.hid hb
        have HO := Lib.hid ho
        clear hpk hb ho
        go_wp2_with fail
        go_roundw
        case rel => exact ⟨k + 1, _, by omega, by go_num, HB.out, HO.out, by omega, by unfold Hid; rw [sel_no HE.out, ← hp.out]⟩
        case measure => simp [intOf]; omega
    · have hke : m = k := by omega
      have hkb : decide ((k : Int) < (m : Int)) = false := by simp; omega
      go_wp2_with fail
      go_ret
      exact ⟨_, rfl, by rw [hke, ← hp.out]; exact ho.top, hb⟩
set_option maxHeartbeats 3200000 in
theorem c_irreducible {w : World} {b : Nat} {c : Cat} (P : PC w b c) (S : Shape c) : Calls Try.prog 78 #[.pointer (some ⟨b, 0, none⟩)] w (Mk w fun w' u => OwnT 2 w.heap.size w'.heap.size w' u (irrL c)) := by
  have P0 := P
  obtain ⟨aF, aT, aI, aC, bF, oF, kF, bT, oT, kT, bI, oI, kI, bC, oC, kC, bR, oR, kR, V⟩ := P.opens
  have m40 : c.fr.length ≤ 40 := by have := S.m40; unfold Cat.m at this; omega
  have hmk := run_make_row' (P := Try.prog) 77 4 (.bool false) 1 Try.underlying77 infoBool rfl .i64 .i64 c.fr.length (by omega) (by omega)
  have HMK := Lib.hid hmk
  have SH := Lib.hid S
  clear S P hmk
  go_enter Try.func78, Try.ntmps78
  go_wp2_with fail
  refine (c_arrows P0).mono ?_
  rintro e w2 ⟨rfl, n2, rfl⟩
  have d2 : Drawn w (w.drewN n2) := ⟨n2, rfl⟩
  generalize w.drewN n2 = w2 at *
  have hcm : c.m = (c.fr.length : Int) := rfl
  rw [hcm]
  clear hcm
  have hmk := HMK.out
  have hb0 := bel_next d2.bel0 (bel_box w2 (.cells (madeCells #[.bool false] c.fr.length) 4))
  have hr0 := World.rowIs_made w2 (.bool false) c.fr.length 4
  have hgw : w.heap.size ≤ w2.heap.size := d2.bel0.size
  go_wp2_with fail
  clear hmk
  generalize w2.alloc (.cells (madeCells #[.bool false] c.fr.length) 4) = w3 at *
  generalize w2.heap.size = g at *
  go_loopw [4, 14] (fun _ i wr => ∃ k : Nat, k ≤ c.fr.length ∧ i = .int .i64 k ∧ Below w.heap.size w wr ∧ wr.rowIs g 4 c.fr.length (fun j => .bool (decide (j < k) && !idB c j))) (fun _ i _ => c.fr.length - (intOf i).toNat)
  case atStart => exact ⟨0, Nat.zero_le _, rfl, hb0, hr0.congr (fun j _ => by simp)⟩
  case round =>
    clear hb0 hr0
    obtain ⟨k, hk, rfl, hb, hr⟩ := hrel
    by_cases hlt : k < c.fr.length
    · have hA : c.Arr k := ⟨by omega, by unfold Cat.m; omega⟩
      go_wp2_with fail
      refine (c_isIdentity (P0.kept hb) SH.out hA).mono ?_
      rintro e w4 ⟨rfl, n4, rfl⟩
      have d4 : Drawn wr (wr.drewN n4) := ⟨n4, rfl⟩
      generalize wr.drewN n4 = w4 at *
      replace hb := bel_next hb d4.bel0
      replace hr := hr.of_block (d4.bel0.block _ hr.lt)
      have hst := hr.cell hlt
      have hfz := hr.frozen k
      have HR := Lib.hid hr
      have hid : (c.I (c.F k) == (k : Int)) = idB c k := rfl
      rw [hid]
      clear hid d4 hr
      go_wp2_with fail
      go_roundw
      case rel => exact ⟨k + 1, by omega, by go_num, hb.setCell hgw _, (HR.out.set k _).congr (fun j _ => by
        by_cases e : j = k
        · subst e; simp
        · have e2 : decide (j < k + 1) = decide (j < k) := by apply bool_ext; simp; omega
          simp only [e, if_false, e2])⟩
      case measure => simp [intOf]; omega
    · have hke : k = c.fr.length := by omega
      have hkb : decide ((k : Int) < (c.fr.length : Int)) = false := by simp; omega
      have hr1 : wr.rowIs g 4 c.fr.length (fun j => .bool (!idB c j && !spB c 0 0 j)) := hr.congr (fun j hj => by rw [spB_zero]; simp; omega)
      clear hr
      have V2 := V.kept hb
      have c4 := V2.c4
      go_wp2_with fail
      clear c4 V2 hkb
      go_loopw [5, 6, 7, 8, 30] (fun _ _ _ _ i wr => ∃ k : Nat, k ≤ c.cm.length ∧ i = .int .i64 k ∧ Below w.heap.size w wr ∧ wr.rowIs g 4 c.fr.length (fun j => .bool (!idB c j && !spB c k 0 j))) (fun _ _ _ _ i _ => c.cm.length - (intOf i).toNat)
      case atStart => exact ⟨0, Nat.zero_le _, rfl, hb, hr1⟩
      case round =>
        clear hb hr1 hke hlt hk
        obtain ⟨k, hk, rfl, hb, hr⟩ := hrel
        have CL := Lib.hid SH.out.cl
        have cl41 : c.cm.length ≤ 40 := by have := CL.out; omega
        by_cases hlt : k < c.cm.length
        · have hkm : k < c.fr.length := by have := CL.out; omega
          have hA : c.Arr k := ⟨by omega, by unfold Cat.m; omega⟩
          obtain ⟨rfl, rfl, rfl, rfl⟩ := V.som SH.out (by omega)
          have V2 := V.kept hb
          have cR := V2.row SH.out hA
          simp only [Int.toNat_natCast] at cR
          go_wp2_with fail
          clear cR V2
          go_loopw [7, 8, 37] (fun _ _ i wr => ∃ l : Nat, l ≤ c.fr.length ∧ i = .int .i64 l ∧ Below w.heap.size w wr ∧ wr.rowIs g 4 c.fr.length (fun j => .bool (!idB c j && !spB c k l j))) (fun _ _ i _ => c.fr.length - (intOf i).toNat)
          case atStart => exact ⟨0, Nat.zero_le _, rfl, hb, hr⟩
          case round =>
            clear hb hr
            obtain ⟨l, hl, rfl, hb, hr⟩ := hrel
            by_cases hll : l < c.fr.length
            · have hB : c.Arr l := ⟨by omega, by unfold Cat.m; omega⟩
              have V2 := V.kept hb
              have cM := V2.cM SH.out hA hB
              simp only [Int.toNat_natCast] at cM
              have HCK := Lib.hid (fun W (hW : Below w.heap.size w W) => c_isIdentity (P0.kept hW) SH.out hA)
              have HCL := Lib.hid (fun W (hW : Below w.heap.size w W) => c_isIdentity (P0.kept hW) SH.out hB)
              have hidk : (c.I (c.F k) == (k : Int)) = idB c k := rfl
              have hidl : (c.I (c.F l) == (l : Int)) = idB c l := rfl
              rw [hidk] at HCK
              rw [hidl] at HCL
              clear hidk hidl V2
              by_cases ht : c.T k = c.F l
              · have hm := (SH.out.mA _ _ hA hB ht).1
                obtain ⟨x, hx⟩ := Int.eq_ofNat_of_zero_le hm.1
                have hxm : x < c.fr.length := by have := hm.2; unfold Cat.m at this; omega
                rw [hx] at cM
                cases hik : idB c k with
                | true =>
                  have HN := Lib.hid (spB_no (c := c) (k := k) (l := l) (fun q => by rw [hik] at q; cases q.2.1))
                  rw [hik] at HCK
                  go_wp2_with fail
                  refine (HCK.out _ hb).mono ?_
                  rintro e w4 ⟨rfl, n4, rfl⟩
                  have d4 : Drawn wr (wr.drewN n4) := ⟨n4, rfl⟩
                  generalize wr.drewN n4 = w4 at *
                  replace hb := bel_next hb d4.bel0
                  replace hr := hr.of_block (d4.bel0.block _ hr.lt)
                  clear d4
                  have HR := Lib.hid hr
                  have HB := Lib.hid hb
                  clear hr hb cM
                  go_wp2_with fail
                  go_roundw
                  case rel => exact ⟨l + 1, by omega, by go_num, HB.out, HR.out.congr (fun j _ => by rw [HN.out])⟩
                  case measure => simp [intOf]; omega
                | false =>
                  cases hil : idB c l with
                  | true =>
                    have HN := Lib.hid (spB_no (c := c) (k := k) (l := l) (fun q => by rw [hil] at q; cases q.2.2))
                    rw [hik] at HCK
                    rw [hil] at HCL
                    go_wp2_with fail
                    refine (HCK.out _ hb).mono ?_
                    rintro e w4 ⟨rfl, n4, rfl⟩
                    have d4 : Drawn wr (wr.drewN n4) := ⟨n4, rfl⟩
                    generalize wr.drewN n4 = w4 at *
                    replace hb := bel_next hb d4.bel0
                    replace hr := hr.of_block (d4.bel0.block _ hr.lt)
                    clear d4
                    go_wp2_with fail
                    refine (HCL.out _ hb).mono ?_
                    rintro e w6 ⟨rfl, n6, rfl⟩
                    have d6 : Drawn w4 (w4.drewN n6) := ⟨n6, rfl⟩
                    generalize w4.drewN n6 = w6 at *
                    replace hb := bel_next hb d6.bel0
                    replace hr := hr.of_block (d6.bel0.block _ hr.lt)
                    clear d6
                    have HR := Lib.hid hr
                    have HB := Lib.hid hb
                    clear hr hb cM
                    go_wp2_with fail
                    go_roundw
                    case rel => exact ⟨l + 1, by omega, by go_num, HB.out, HR.out.congr (fun j _ => by rw [HN.out])⟩
                    case measure => simp [intOf]; omega
                  | false =>
                    have HY := Lib.hid (spB_yes (by omega) hll ht hik hil hx)
                    rw [hik] at HCK
                    rw [hil] at HCL
                    go_wp2_with fail
                    refine (HCK.out _ hb).mono ?_
                    rintro e w4 ⟨rfl, n4, rfl⟩
                    have d4 : Drawn wr (wr.drewN n4) := ⟨n4, rfl⟩
                    generalize wr.drewN n4 = w4 at *
                    replace hb := bel_next hb d4.bel0
                    replace hr := hr.of_block (d4.bel0.block _ hr.lt)
                    clear d4
                    go_wp2_with fail
                    refine (HCL.out _ hb).mono ?_
                    rintro e w6 ⟨rfl, n6, rfl⟩
                    have d6 : Drawn w4 (w4.drewN n6) := ⟨n6, rfl⟩
                    generalize w4.drewN n6 = w6 at *
                    replace hb := bel_next hb d6.bel0
                    replace hr := hr.of_block (d6.bel0.block _ hr.lt)
                    clear d6
                    have hst := hr.cell hxm
                    have hfz := hr.frozen x
                    have HR := Lib.hid hr
                    have HB := Lib.hid hb
                    clear hr hb cM hik hil ht hx hm
                    go_wp2_with fail
                    go_roundw
                    case rel => exact ⟨l + 1, by omega, by go_num, HB.out.setCell hgw _, (HR.out.set x _).congr (fun j _ => by
                      rw [HY.out]
                      by_cases e : j = x
                      · subst e; simp
                      · simp [e])⟩
                    case measure => simp [intOf]; omega
              · have hm := SH.out.mN _ _ hA hB ht
                rw [hm] at cM
                have HN := Lib.hid (spB_no (c := c) (k := k) (l := l) (fun q => ht q.1))
                have HR := Lib.hid hr
                have HB := Lib.hid hb
                clear hr hb hm ht
                go_wp2_with fail
                go_roundw
                case rel => exact ⟨l + 1, by omega, by go_num, HB.out, HR.out.congr (fun j _ => by rw [HN.out])⟩
                case measure => simp [intOf]; omega
            · obtain rfl : l = c.fr.length := by omega
              have HR := Lib.hid hr
              have HB := Lib.hid hb
              have hlb : decide ((c.fr.length : Int) < (c.fr.length : Int)) = false := by simp
              clear hr hb
              go_wp2_with fail
              go_roundw
              case rel => exact ⟨k + 1, by omega, by go_num, HB.out, HR.out.congr (fun j _ => by rw [spB_row])⟩
              case measure => simp [intOf]; omega
        · obtain rfl : k = c.cm.length := by omega
          rw [CL.out] at hr
          have hr2 : wr.rowIs g 4 c.fr.length (fun j => .bool (irrP c j)) := hr.congr (fun j _ => by unfold irrP; rw [Bool.and_comm])
          have hlb : decide ((c.cm.length : Int) < (c.cm.length : Int)) = false := by simp
          clear hr
          go_wp2_with fail
          refine (c_marked hr2 m40).mono ?_
          rintro e w5 ⟨u, rfl, o5, b5⟩
          go_wp2_with fail
          go_ret
          exact ⟨_, rfl, (o5.own.base hb.size).top, bel_next hb b5⟩
theorem i_IrreducibleArrows {w : World} {v : Value} {c : Cat} (h : IC w v c) : Calls Try.prog 46 #[v] w (Mk2 2 w (irrR c)) := by
  obtain ⟨aF, aT, aI, aC, bF, oF, kF, bT, oT, kT, bI, oI, kI, bC, oC, kC, bR, oR, kR, rfl, V⟩ := h.boxed 28
  have B : Bel w (w.alloc (.cells #[.int .i64 c.n, .slice aF c.fr.length kF, .slice aT c.to.length kT, .slice aI c.id.length kI, .slice aC c.cm.length kC] 28)) := bel_box w _
  have ZB := Lib.hid (show (w.alloc (.cells #[.int .i64 c.n, .slice aF c.fr.length kF, .slice aT c.to.length kT, .slice aI c.id.length kI, .slice aC c.cm.length kC] 28)).heap.size = w.heap.size + 1 from by simp)
  clear h
  go_enter Try.func46, Try.ntmps46
  go_wp2_with fail
  generalize w.alloc (.cells #[.int .i64 c.n, .slice aF c.fr.length kF, .slice aT c.to.length kT, .slice aI c.id.length kI, .slice aC c.cm.length kC] 28) = w1 at *
  generalize w.heap.size = b at *
  have c0 := V.c0
  have c1 := V.c1
  have c2 := V.c2
  have c3 := V.c3
  have c4 := V.c4
  clear c0 c1 c2 c3 c4
  refine (c_isCategory V.pc).mono ?_
  rintro e w2 ⟨rfl, b2⟩
  by_cases hc : catB c = true
  · have HC := Lib.hid hc
    have S := (catB_s hc).s
    go_wp2_with fail
    refine (c_irreducible (V.kept b2).pc S).mono ?_
    rintro e w3 ⟨u, rfl, o3, b3⟩
    have HB : Hid (w.heap.size ≤ w2.heap.size) := (B.next b2).size
    clear S
    go_wp2_with fail
    go_ret2
    exact mk2_own (by rw [irrR, if_pos HC.out]) (o3.own.base HB.out) (B.next (bel_next b2 b3))
  · have HC := Lib.hid hc
    have hn : catB c = false := by simpa using hc
    clear hc
    go_wp2_with fail
    go_ret2
    exact mk2_nil (by rw [irrR, if_neg HC.out]) (B.next b2)
set_option maxHeartbeats 3200000 in
set_option maxRecDepth 100000 in
theorem s_IrreducibleArrows {w : World} {v : Value} {c : Cat} (h : IC w v c) : Calls Try.prog 45 #[v] w (Mk2 2 w (irrR c)) := by
  obtain ⟨aF, aT, aI, aC, bF, oF, kF, bT, oT, kT, bI, oI, kI, bC, oC, kC, bR, oR, kR, rfl, V⟩ := h.boxed 28
  have B : Bel w (w.alloc (.cells #[.int .i64 c.n, .slice aF c.fr.length kF, .slice aT c.to.length kT, .slice aI c.id.length kI, .slice aC c.cm.length kC] 28)) := bel_box w _
  have ZB := Lib.hid (show (w.alloc (.cells #[.int .i64 c.n, .slice aF c.fr.length kF, .slice aT c.to.length kT, .slice aI c.id.length kI, .slice aC c.cm.length kC] 28)).heap.size = w.heap.size + 1 from by simp)
  clear h
  go_enter Try.func45, Try.ntmps45
  go_wp2_with fail
  generalize w.alloc (.cells #[.int .i64 c.n, .slice aF c.fr.length kF, .slice aT c.to.length kT, .slice aI c.id.length kI, .slice aC c.cm.length kC] 28) = w1 at *
  generalize w.heap.size = b at *
  have c0 := V.c0
  have c1 := V.c1
  have c2 := V.c2
  have c3 := V.c3
  have c4 := V.c4
  refine (c_l02Is V.ic).mono ?_
  rintro e w2 ⟨rfl, b2⟩
  have V2 := V.kept b2
  have BB := B.next b2
  clear c0 c1 c2 c3 c4
  by_cases hc : catB c = true
  · have HC := Lib.hid hc
    have SH := Lib.hid (catB_s hc).s
    have m40 : c.fr.length ≤ 40 := by have := SH.out.m40; unfold Cat.m at this; omega
    have hmk := run_make_row' (P := Try.prog) 77 4 (.bool false) 1 Try.underlying77 infoBool rfl .i64 .i64 c.fr.length (by omega) (by omega)
    have c1 := V2.c1
    have hb0 := bel_box w2 (.cells (madeCells #[.bool false] c.fr.length) 4)
    have hr0 := World.rowIs_made w2 (.bool false) c.fr.length 4
    have lb : b < w2.heap.size := World.block_lt_of_cell? _ _ c1
    have HV := Lib.hid V2
    have HBB := Lib.hid BB
    have HWS : Hid (w.heap.size ≤ w2.heap.size) := BB.size
    clear V V2 BB B b2
    go_wp2_with fail
    clear hmk c1 hc
    generalize w2.alloc (.cells (madeCells #[.bool false] c.fr.length) 4) = w3 at *
    obtain ⟨g, hg⟩ : ∃ g, g = w2.heap.size := ⟨_, rfl⟩
    rw [← hg] at hr0 lb ⊢
    have HGG := Lib.hid hg
    have hgw : w2.heap.size ≤ g := by omega
    clear hg
    go_loopw [5, 6] (fun i _ wr => ∃ k : Nat, k ≤ c.fr.length ∧ i = .int .i64 k ∧ Below w2.heap.size w2 wr ∧ wr.rowIs g 4 c.fr.length (fun j => .bool (spB c k 0 j))) (fun i _ _ => c.fr.length - (intOf i).toNat)
    case atStart => exact ⟨0, Nat.zero_le _, rfl, hb0, hr0.congr (fun j _ => by rw [spB_zero])⟩
    case round =>
      clear hb0 hr0
      obtain ⟨k, hk, rfl, hb, hr⟩ := hrel
      by_cases hlt : k < c.fr.length
      · have hA : c.Arr k := ⟨by omega, by unfold Cat.m; omega⟩
        go_wp2_with fail
        go_loopw [6] (fun i wr => ∃ l : Nat, l ≤ c.fr.length ∧ i = .int .i64 l ∧ Below w2.heap.size w2 wr ∧ wr.rowIs g 4 c.fr.length (fun j => .bool (spB c k l j))) (fun i _ => c.fr.length - (intOf i).toNat)
        case atStart => exact ⟨0, Nat.zero_le _, rfl, hb, hr⟩
        case round =>
          clear hb hr
          obtain ⟨l, hl, rfl, hb, hr⟩ := hrel
          by_cases hll : l < c.fr.length
          · have hB : c.Arr l := ⟨by omega, by unfold Cat.m; omega⟩
            have V3 := HV.out.kept hb
            obtain ⟨rfl, rfl, rfl, rfl⟩ := V3.som SH.out (by omega)
            have c0 := V3.c0
            have c1 := V3.c1
            have c2 := V3.c2
            have c3 := V3.c3
            have c4 := V3.c4
            have cTk := V3.cT SH.out hA
            have cFl := V3.cF hB
            simp only [Int.toNat_natCast] at cTk cFl
            have l2 : k < c.to.length := by rw [SH.out.tl]; exact hlt
            have VI := V3.ic
            have HUK := Lib.hid (fun W (hW : Below wr.heap.size wr W) => c_l02Unit (VI.kept hW) SH.out hA)
            have HUL := Lib.hid (fun W (hW : Below wr.heap.size wr W) => c_l02Unit (VI.kept hW) SH.out hB)
            have hidk : (c.I (c.F k) == (k : Int)) = idB c k := rfl
            have hidl : (c.I (c.F l) == (l : Int)) = idB c l := rfl
            rw [hidk] at HUK
            rw [hidl] at HUL
            clear hidk hidl
            by_cases ht : c.T k = c.F l
            · have htb : (c.T k == c.F l) = true := by simp [ht]
              cases hik : idB c k with
              | true =>
                have HN := Lib.hid (spB_no (c := c) (k := k) (l := l) (fun q => by rw [hik] at q; cases q.2.1))
                rw [hik] at HUK
                clear ht
                go_wp2_with fail
                refine wp_region_qb (by kernel_rfl) (by kernel_rfl) ?_
                repeat (refine qw_step (fun K hK => ?_); first | (refine qb_no rfl ?_; (try simp only [Act.put, List.setIfInBounds_toArray, List.set_cons_zero, List.set_cons_succ]); refine hK _ ?_; clear hK K) | (refine qb_yes rfl ?_; apply Exists.intro; refine ⟨fun w' hC => ?_, ?_⟩; (· (have x0 := up_cell hC c0; have x1 := up_cell hC c1; have x2 := up_cell hC c2; have x3 := up_cell hC c3; have x4 := up_cell hC c4; have x5 := up_cell hC cTk; have x6 := up_cell hC cFl; (try go_simp); (first | done | (go_at_call 77; with_reducible exact calls_qb hC (HUK.out _ hC)) | (go_at_call 77; with_reducible exact calls_qb hC (HUL.out _ hC)) | with_reducible rfl | exact rfl))); (try simp only [Act.put, List.setIfInBounds_toArray, List.set_cons_zero, List.set_cons_succ]); refine hK _ ?_; clear hK K))
                refine qw_nil ?_
                intro wq hbq
                have HB := Lib.hid (bel_next hb hbq)
                have HR := Lib.hid (hr.of_block (hbq.block _ hr.lt))
                clear c0 c1 c2 c3 c4 cTk cFl VI V3 hb hr hbq
                go_wp2_with fail
                go_roundw
                case rel => exact ⟨l + 1, by omega, by go_num, HB.out, HR.out.congr (fun j _ => by rw [HN.out])⟩
                case measure => simp [intOf]; omega
              | false =>
                cases hil : idB c l with
                | true =>
                  have HN := Lib.hid (spB_no (c := c) (k := k) (l := l) (fun q => by rw [hil] at q; cases q.2.2))
                  rw [hik] at HUK
                  rw [hil] at HUL
                  clear ht
                  go_wp2_with fail
                  refine wp_region_qb (by kernel_rfl) (by kernel_rfl) ?_
                  repeat (refine qw_step (fun K hK => ?_); first | (refine qb_no rfl ?_; (try simp only [Act.put, List.setIfInBounds_toArray, List.set_cons_zero, List.set_cons_succ]); refine hK _ ?_; clear hK K) | (refine qb_yes rfl ?_; apply Exists.intro; refine ⟨fun w' hC => ?_, ?_⟩; (· (have x0 := up_cell hC c0; have x1 := up_cell hC c1; have x2 := up_cell hC c2; have x3 := up_cell hC c3; have x4 := up_cell hC c4; have x5 := up_cell hC cTk; have x6 := up_cell hC cFl; (try go_simp); (first | done | (go_at_call 77; with_reducible exact calls_qb hC (HUK.out _ hC)) | (go_at_call 77; with_reducible exact calls_qb hC (HUL.out _ hC)) | with_reducible rfl | exact rfl))); (try simp only [Act.put, List.setIfInBounds_toArray, List.set_cons_zero, List.set_cons_succ]); refine hK _ ?_; clear hK K))
                  refine qw_nil ?_
                  intro wq hbq
                  have HB := Lib.hid (bel_next hb hbq)
                  have HR := Lib.hid (hr.of_block (hbq.block _ hr.lt))
                  clear c0 c1 c2 c3 c4 cTk cFl VI V3 hb hr hbq
                  go_wp2_with fail
                  go_roundw
                  case rel => exact ⟨l + 1, by omega, by go_num, HB.out, HR.out.congr (fun j _ => by rw [HN.out])⟩
                  case measure => simp [intOf]; omega
                | false =>
                  have hm := (SH.out.mA _ _ hA hB ht).1
                  obtain ⟨x, hx⟩ := Int.eq_ofNat_of_zero_le hm.1
                  have hxm : x < c.fr.length := by have := hm.2; unfold Cat.m at this; omega
                  have HX := Lib.hid hx
                  have HY := Lib.hid (spB_yes (by omega) hll ht hik hil hx)
                  rw [hik] at HUK
                  rw [hil] at HUL
                  clear ht hx hm
                  go_wp2_with fail
                  refine wp_region_qb (by kernel_rfl) (by kernel_rfl) ?_
                  repeat (refine qw_step (fun K hK => ?_); first | (refine qb_no rfl ?_; (try simp only [Act.put, List.setIfInBounds_toArray, List.set_cons_zero, List.set_cons_succ]); refine hK _ ?_; clear hK K) | (refine qb_yes rfl ?_; apply Exists.intro; refine ⟨fun w' hC => ?_, ?_⟩; (· (have x0 := up_cell hC c0; have x1 := up_cell hC c1; have x2 := up_cell hC c2; have x3 := up_cell hC c3; have x4 := up_cell hC c4; have x5 := up_cell hC cTk; have x6 := up_cell hC cFl; (try go_simp); (first | done | (go_at_call 77; with_reducible exact calls_qb hC (HUK.out _ hC)) | (go_at_call 77; with_reducible exact calls_qb hC (HUL.out _ hC)) | with_reducible rfl | exact rfl))); (try simp only [Act.put, List.setIfInBounds_toArray, List.set_cons_zero, List.set_cons_succ]); refine hK _ ?_; clear hK K))
                  refine qw_nil ?_
                  intro wq hbq
                  replace hb := bel_next hb hbq
                  replace hr := hr.of_block (hbq.block _ hr.lt)
                  clear c0 c1 c2 c3 c4 cTk cFl VI V3 htb
                  have V4 := HV.out.kept hb
                  have c0 := V4.c0
                  have c1 := V4.c1
                  have c2 := V4.c2
                  have c3 := V4.c3
                  have c4 := V4.c4
                  go_wp2_with fail
                  refine (c_l02Then V4.ic SH.out hA hB).mono ?_
                  rintro e w6 ⟨rfl, b6⟩
                  rw [HX.out]
                  replace hb := bel_next hb b6
                  replace hr := hr.of_block (b6.block _ hr.lt)
                  have hst := hr.cell hxm
                  have hfz := hr.frozen x
                  have HR := Lib.hid hr
                  have HB := Lib.hid hb
                  clear hr hb c0 c1 c2 c3 c4 V4 hik hil b6 hbq
                  go_wp2_with fail
                  go_roundw
                  case rel => exact ⟨l + 1, by omega, by go_num, HB.out.setCell hgw _, (HR.out.set x _).congr (fun j _ => by
                    rw [HY.out]
                    by_cases e : j = x
                    · subst e; simp
                    · simp [e])⟩
                  case measure => simp [intOf]; omega
            · have htb : (c.T k == c.F l) = false := by simp [ht]
              have HN := Lib.hid (spB_no (c := c) (k := k) (l := l) (fun q => ht q.1))
              clear ht
              go_wp2_with fail
              refine wp_region_qb (by kernel_rfl) (by kernel_rfl) ?_
              repeat (refine qw_step (fun K hK => ?_); first | (refine qb_no rfl ?_; (try simp only [Act.put, List.setIfInBounds_toArray, List.set_cons_zero, List.set_cons_succ]); refine hK _ ?_; clear hK K) | (refine qb_yes rfl ?_; apply Exists.intro; refine ⟨fun w' hC => ?_, ?_⟩; (· (have x0 := up_cell hC c0; have x1 := up_cell hC c1; have x2 := up_cell hC c2; have x3 := up_cell hC c3; have x4 := up_cell hC c4; have x5 := up_cell hC cTk; have x6 := up_cell hC cFl; (try go_simp); (first | done | (go_at_call 77; with_reducible exact calls_qb hC (HUK.out _ hC)) | (go_at_call 77; with_reducible exact calls_qb hC (HUL.out _ hC)) | with_reducible rfl | exact rfl))); (try simp only [Act.put, List.setIfInBounds_toArray, List.set_cons_zero, List.set_cons_succ]); refine hK _ ?_; clear hK K))
              refine qw_nil ?_
              intro wq hbq
              have HB := Lib.hid (bel_next hb hbq)
              have HR := Lib.hid (hr.of_block (hbq.block _ hr.lt))
              clear c0 c1 c2 c3 c4 cTk cFl VI V3 hb hr hbq
              go_wp2_with fail
              go_roundw
              case rel => exact ⟨l + 1, by omega, by go_num, HB.out, HR.out.congr (fun j _ => by rw [HN.out])⟩
              case measure => simp [intOf]; omega
          · obtain rfl : l = c.fr.length := by omega
            have HR := Lib.hid hr
            have HB := Lib.hid hb
            have hlb : decide ((c.fr.length : Int) < (c.fr.length : Int)) = false := by simp
            clear hr hb
            go_wp2_with fail
            go_roundw
            case rel => exact ⟨k + 1, by omega, by go_num, HB.out, HR.out.congr (fun j _ => by rw [spB_row])⟩
            case measure => simp [intOf]; omega
      · obtain rfl : k = c.fr.length := by omega
        have hlb : decide ((c.fr.length : Int) < (c.fr.length : Int)) = false := by simp
        go_wp2_with fail
        clear hlb
        go_loopw [7, 8] (fun out i wr2 => ∃ (k : Nat) (os : List Int), k ≤ c.fr.length ∧ i = .int .i64 k ∧ Below wr.heap.size wr wr2 ∧ Own 2 wr2 wr.heap.size out os ∧ os.length ≤ k ∧ Hid (os = sel (irrP c) k)) (fun _ i _ => c.fr.length - (intOf i).toNat)
        case atStart => exact ⟨0, [], Nat.zero_le _, rfl, bel_alloc (Below.refl _ _) _, Own.empty _ _ _ (Nat.le_refl _), Nat.le_refl _, rfl⟩
        case round =>
          clear hk hlt
          obtain ⟨k, os, hk, rfl, hb2, ho, hol, hp⟩ := hrel
          by_cases hlt : k < c.fr.length
          · have hA : c.Arr k := ⟨by omega, by unfold Cat.m; omega⟩
            have cx := up_cell hb2 (hr.cell hlt)
            have V3 := HV.out.kept (bel_next hb hb2)
            obtain ⟨rfl, rfl, rfl, rfl⟩ := V3.som SH.out (by omega)
            have c0 := V3.c0
            have c1 := V3.c1
            have c2 := V3.c2
            have c3 := V3.c3
            have c4 := V3.c4
            have HU := Lib.hid (c_l02Unit V3.ic SH.out hA)
            have hidk : (c.I (c.F k) == (k : Int)) = idB c k := rfl
            rw [hidk] at HU
            clear hidk V3
            cases hsp : spB c c.fr.length 0 k with
            | true =>
              have HE : Hid (irrP c k = false) := by unfold Hid irrP; rw [hsp]; rfl
              rw [hsp] at cx
              have HB := Lib.hid hb2
              have HO := Lib.hid ho
              clear hb2 ho hsp
              go_wp2_with fail
              go_roundw
              case rel => exact ⟨k + 1, _, by omega, by go_num, HB.out, HO.out, by omega, by unfold Hid; rw [sel_no HE.out, ← hp.out]⟩
              case measure => simp [intOf]; omega
            | false =>
              rw [hsp] at cx
              cases hik : idB c k with
              | true =>
                have HE : Hid (irrP c k = false) := by unfold Hid irrP; rw [hsp, hik]; rfl
                rw [hik] at HU
                clear hsp hik
                go_wp2_with fail
                refine HU.out.mono ?_
                rintro e w6 ⟨rfl, b6⟩
                have HB := Lib.hid (bel_next hb2 b6)
                have HO := Lib.hid (ho.kept b6)
                clear hb2 ho c0 c1 c2 c3 c4 cx b6
                go_wp2_with fail
                go_roundw
                case rel => exact ⟨k + 1, _, by omega, by go_num, HB.out, HO.out, by omega, by unfold Hid; rw [sel_no HE.out, ← hp.out]⟩
                case measure => simp [intOf]; omega
              | false =>
                have HE : Hid (irrP c k = true) := by unfold Hid irrP; rw [hsp, hik]; rfl
                rw [hik] at HU
                clear hsp hik
                go_wp2_with fail
                refine HU.out.mono ?_
                rintro e w6 ⟨rfl, b6⟩
                replace hb2 := bel_next hb2 b6
                replace ho := ho.kept b6
                have hw0 := hb2.size
                clear c0 c1 c2 c3 c4 cx b6
                go_wp2_with (at_builtin; refine hold ?_)
                refine app1 ho (by constructor <;> omega) (by omega) (by first | omega | (simp; omega)) Try.underlying22 infoInt64 (by rfl) _ _ (by rfl) (by rfl) (by rfl) ?_
                intro v' w7 ho2 g2
                have hb3 := g2.below hb2 (by first | omega | (simp; omega)) (fun k hk => (ho.lt k hk).1)
                clear ho g2 hb2
                go_wp2_with fail
                go_roundw
                case rel => exact ⟨k + 1, _, by omega, by go_num, hb3, ho2, by simp; omega, by unfold Hid; rw [sel_yes HE.out, ← hp.out]⟩
                case measure => simp [intOf]; omega
          · have hke : k = c.fr.length := by omega
            have HE : Hid (os = irrL c) := by unfold Hid irrL; rw [hp.out, hke]
            have hlb : decide ((k : Int) < (c.fr.length : Int)) = false := by simp; omega
            clear hke
            go_wp2_with fail
            go_ret2
            have hws := Nat.le_trans HWS.out hb.size
            exact mk2_own (by rw [irrR, if_pos HC.out, HE.out]) (ho.base hws) (bel_next HBB.out (bel_next hb hb2))
  · have HC := Lib.hid hc
    have hn : catB c = false := by simpa using hc
    clear hc
    go_wp2_with fail
    go_ret2
    exact mk2_nil (by rw [irrR, if_neg HC.out]) BB
end Go.Proofs.Ytampdoccljkdhaa
