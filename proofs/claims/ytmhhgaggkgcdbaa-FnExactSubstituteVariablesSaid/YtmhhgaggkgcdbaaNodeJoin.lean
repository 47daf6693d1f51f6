/-
  JoinFormulas, NegateFormula of program and reference.
-/
import Derived.Test.YtmhhgaggkgcdbaaNodeFn
namespace Go.Proofs.Ytmhhgaggkgcdbaa
open Go.RowKit

def jn (k : Int) (a b : List Nd) : List Nd := [⟨k, 0, []⟩] ++ a ++ b
theorem jn_length (k : Int) (a b : List Nd) : (jn k a b).length = 1 + a.length + b.length := by simp [jn]; omega
def joinR (k : Int) (a b : List Nd) : List Nd × Int := if fmB a = true ∧ fmB b = true then (if inR k 4 6 = true then (if a.length + b.length + 1 ≤ 40 then (jn k a b, 0) else ([], 3)) else ([], 2)) else ([], 1)
def negR (d : List Nd) : List Nd × Int := joinR 6 d [⟨1, 0, []⟩]
theorem ONF.lit1 {w : World} {m : Nat} {a b : Int} (ha : I64 a) (hb : I64 b) (hm : w.heap.size = m) : ONF m (m + 1) (w.alloc (.cells #[.int .i64 a, .int .i64 b, .slice none 0 0] 45)) (.slice (some ⟨m, 0, none⟩) 1 1) 1 (gn [⟨a, b, []⟩]) := by
  subst hm
  refine ⟨fun _ => .slice none 0 0, ?_, fun k hk => ?_, fun i hi => ?_, fun i j hi hj hne => by omega, fun i hi => .inl rfl, fun i hi => ?_⟩
  · exact World.ownsRow_lit (base := w.heap.size) (size := 3) (e := 45) w #[.int .i64 a, .int .i64 b, .slice none 0 0] 1 (Nat.le_refl _) (by simp [maxLen]) (by simp)
  · have hk' : some w.heap.size = some k := hk
    injection hk' with hk'
    omega
  · obtain rfl : i = 0 := by omega
    exact ⟨Own.nil _ _ _, fun k hk => by simp [Value.ownBlock] at hk⟩
  · obtain rfl : i = 0 := by omega
    exact ⟨ha, hb⟩
/-- The end of a call with a slice of nodes and a code for results. -/
def MkN (w : World) (r : List Nd × Int) : Ending → World → Prop := fun e w' => ∃ u, e = .returned (.tuple #[u, .int .i64 r.2]) ∧ ONL w.heap.size w'.heap.size w' u r.1 ∧ Below w.heap.size w w'
theorem mkN_nil {w w' : World} {r : List Nd × Int} {c : Int} (hr : r = ([], c)) (hb : Below w.heap.size w w') : MkN w r (.returned (.tuple #[.slice none 0 0, .int .i64 c])) w' := by
  subst hr
  exact ⟨_, rfl, ⟨ONF.nil, by simp, Nat.le_refl _⟩, hb⟩
theorem c_l29Join {w : World} {u v : Value} {k : Int} (hk : I64 k) {a b : List Nd} (ha : INS w u a) (hb : INS w v b) (hl : a.length + b.length < 1048576) : Calls Try.prog 23 #[.int .i64 k, u, v] w (Mk w fun w' r => ONF w.heap.size w'.heap.size w' r (jn k a b).length (gn (jn k a b))) := by
  have HA := Lib.hid (fun W (hW : Below w.heap.size w W) => c_l29Own (ha.kept hW))
  have HB := Lib.hid (fun W (hW : Below w.heap.size w W) => c_l29Own (hb.kept hW))
  obtain ⟨au, cu, rfl⟩ := ha.shape
  obtain ⟨av, cv, rfl⟩ := hb.shape
  have h0 := ONF.lit1 (w := w) (m := w.heap.size) (a := k) (b := 0) hk (by simp [I64]) rfl
  have B0 := bel_alloc (Below.refl w.heap.size w) (.cells #[.int .i64 k, .int .i64 0, .slice none 0 0] 45)
  have hz0 : (w.alloc (.cells #[.int .i64 k, .int .i64 0, .slice none 0 0] 45)).heap.size = w.heap.size + 1 := by simp
  clear ha hb
  go_enter Try.func23, Try.ntmps23
  go_wp2_with fail
  refine (HA.out _ B0).mono ?_
  rintro e w1 ⟨y, rfl, oy, b1⟩
  obtain ⟨ay, cy, rfl⟩ := oy.opened
  have B1 := bel_next B0 b1
  have h1 := h0.keptB b1
  have z1 := b1.size
  rw [hz0] at z1 oy
  have HOY := Lib.hid oy
  have HO := Lib.hid h1
  clear h0 h1 oy b1 HA hz0
  go_wp2_with (at_builtin; refine hold ?_)
  refine appNs (N := w.heap.size + 1) (T := w1.heap.size) HO.out HOY.out (by omega) (by omega) (Nat.le_refl _) (by omega) (by rfl) _ _ (by rfl) (by rfl) (by rfl) ?_
  intro v' w2 ho2 g2
  have hb2 : Below w.heap.size w w2 := g2.below B1 B1.size (fun q hq => (HO.out.lt q hq).1)
  have ho3 : ONF w.heap.size w2.heap.size w2 v' ([(⟨k, 0, []⟩ : Nd)] ++ a).length (gn ([⟨k, 0, []⟩] ++ a)) := by
    have e : ([(⟨k, 0, []⟩ : Nd)] ++ a).length = 1 + a.length := by simp; omega
    rw [e]
    exact ho2.congr (fun i hi => gn_app [⟨k, 0, []⟩] a i (by simpa using hi))
  obtain ⟨a2, c2, rfl⟩ := ho3.opened
  have HO3 := Lib.hid ho3
  clear ho2 g2 ho3
  go_wp2_with fail
  refine (HB.out _ hb2).mono ?_
  rintro e w3 ⟨y, rfl, oy, b3⟩
  obtain ⟨ay, cy, rfl⟩ := oy.opened
  have B3 := bel_next hb2 b3
  have HO4 := Lib.hid (HO3.out.keptB b3)
  have z3 := b3.size
  have z2 := hb2.size
  have HOY2 := Lib.hid oy
  clear oy b3 HB
  go_wp2_with (at_builtin; refine hold ?_)
  refine appNs (N := w2.heap.size) (T := w3.heap.size) HO4.out HOY2.out (by omega) (by omega) (Nat.le_refl _) (by simp; omega) (by rfl) _ _ (by rfl) (by rfl) (by rfl) ?_
  intro v' w4 ho4 g4
  have hb4 : Below w.heap.size w w4 := g4.below B3 B3.size (fun q hq => (HO4.out.lt q hq).1)
  have ho5 : ONF w.heap.size w4.heap.size w4 v' (jn k a b).length (gn (jn k a b)) := by
    have e : (jn k a b).length = ([(⟨k, 0, []⟩ : Nd)] ++ a).length + b.length := by simp [jn]; omega
    rw [e]
    exact ho4.congr (fun i hi => gn_app ([⟨k, 0, []⟩] ++ a) b i hi)
  obtain ⟨a5, c5, rfl⟩ := ho5.opened
  clear ho4 g4
  go_wp2_with fail
  go_ret
  exact ⟨_, rfl, ho5, hb4⟩
theorem lit3_flat (k : Int) (a b : List Nd) : [[(⟨k, 0, []⟩ : Nd)], a, b].flatten = jn k a b := by simp [jn]
theorem INS.lit1 {w : World} {k s : Int} (hk : I64 k) (hs : I64 s) (c : Nat) : INS (w.alloc (.cells #[.int .i64 k, .int .i64 s, .slice none 0 0] 45)) (.slice (some ⟨w.heap.size, 0, none⟩) 1 c) [⟨k, s, []⟩] := by
  refine ⟨⟨_, w.heap.size, 0, c, fun _ => .slice none 0 0, rfl, fun _ => rfl, fun i hi => ?_, fun i hi => ?_⟩, fun i hi => ?_, by simp⟩
  · obtain rfl : i = 0 := by simp at hi; omega
    refine ⟨?_, ?_, ?_⟩ <;> simp [gn]
  · obtain rfl : i = 0 := by simp at hi; omega
    exact (Own.nil 2 _ 0).is
  · obtain rfl : i = 0 := by simp at hi; omega
    exact ⟨hk, hs⟩
theorem lit3 {w W : World} {ua ub : Value} {k : Int} {a b : List Nd} (hW : Below w.heap.size w W) (ha : INS w ua a) (hb : INS w ub b) (hk : I64 k) :
    INSS ((W.alloc (.cells #[.int .i64 k, .int .i64 0, .slice none 0 0] 45)).alloc (.cells #[.slice (some ⟨W.heap.size, 0, none⟩) 1 1, ua, ub] 24)) (.slice (some ⟨W.heap.size + 1, 0, none⟩) 3 3) [[⟨k, 0, []⟩], a, b] := by
  have h0 : INS (W.alloc (.cells #[.int .i64 k, .int .i64 0, .slice none 0 0] 45)) (.slice (some ⟨W.heap.size, 0, none⟩) 1 1) [⟨k, 0, []⟩] := INS.lit1 hk (by simp [I64]) 1
  have b1 := bel_alloc (Below.refl (W.alloc (.cells #[.int .i64 k, .int .i64 0, .slice none 0 0] 45)).heap.size (W.alloc (.cells #[.int .i64 k, .int .i64 0, .slice none 0 0] 45))) (.cells #[.slice (some ⟨W.heap.size, 0, none⟩) 1 1, ua, ub] 24)
  have b2 := bel_alloc (bel_alloc hW (.cells #[.int .i64 k, .int .i64 0, .slice none 0 0] 45)) (.cells #[.slice (some ⟨W.heap.size, 0, none⟩) 1 1, ua, ub] 24)
  refine ⟨⟨_, W.heap.size + 1, 0, 3, fun i => if i = 0 then .slice (some ⟨W.heap.size, 0, none⟩) 1 1 else if i = 1 then ua else ub, rfl, fun _ => rfl, fun i hi => ?_, fun i hi => ?_⟩, by simp⟩
  · have : i = 0 ∨ i = 1 ∨ i = 2 := by simp at hi; omega
    rw [show W.heap.size + 1 = (W.alloc (.cells #[.int .i64 k, .int .i64 0, .slice none 0 0] 45)).heap.size from by simp]
    rcases this with rfl | rfl | rfl <;> simp
  · have : i = 0 ∨ i = 1 ∨ i = 2 := by simp at hi; omega
    rcases this with rfl | rfl | rfl
    · exact h0.kept b1
    · exact ha.kept b2
    · exact hb.kept b2
set_option maxHeartbeats 1600000 in
theorem i_JoinFormulas (k : Int) (hk : I64 k) {w : World} {u v : Value} {a b : List Nd} (ha : INS w u a) (hb : INS w v b) : Calls Try.prog 9 #[.int .i64 k, u, v] w (MkN w (joinR k a b)) := by
  have HA := Lib.hid (fun W (hW : Below w.heap.size w W) => c_isFormula (ha.kept hW))
  have HB := Lib.hid (fun W (hW : Below w.heap.size w W) => c_isFormula (hb.kept hW))
  have hla := ha.len
  have hlb := hb.len
  have hha := ha
  have hhb := hb
  obtain ⟨au, cu, rfl⟩ := ha.shape
  obtain ⟨av, cv, rfl⟩ := hb.shape
  clear ha hb
  by_cases hA : fmB a = true
  · by_cases hB : fmB b = true
    · by_cases hK : inR k 4 6 = true
      · by_cases hL : a.length + b.length + 1 ≤ 40
        · have hr : joinR k a b = (jn k a b, 0) := by unfold joinR; rw [if_pos ⟨hA, hB⟩, if_pos hK, if_pos hL]
          have hlx : decide ((40 : Int) < (a.length : Int) + (b.length : Int) + 1) = false := decide_eq_false (by omega)
          go_enter Try.func9, Try.ntmps9
          go_wp2_with fail
          refine (HA.out _ (Below.refl _ _)).mono ?_
          rintro e w1 ⟨rfl, b1⟩
          go_wp2_with fail
          refine (HB.out _ b1).mono ?_
          rintro e w2 ⟨rfl, b2⟩
          replace b2 := bel_next b1 b2
          go_wp2_with fail
          refine (c_inRange _ _ _ _).mono ?_
          rintro e w3 ⟨rfl, n3, rfl⟩
          have b3 := b2.trans (Drawn.below (w' := w2.drewN n3) ⟨_, rfl⟩ _)
          generalize w2.drewN n3 = w3 at *
          have hn := fun (W : World) (hW : Below w.heap.size w W) => c_nodes (lit3 hW hha hhb hk) (by rw [lit3_flat, jn_length]; omega)
          have HN := Lib.hid hn
          clear hn
          go_wp2_with fail
          refine (HN.out _ b3).mono ?_
          rintro e w4 ⟨u, rfl, o4, b4⟩
          rw [lit3_flat] at o4
          obtain ⟨a4, c4, rfl⟩ := o4.opened
          go_wp2_with fail
          go_ret2
          rw [hr]
          exact ⟨_, rfl, ⟨o4.mono (by have := b3.size; simp; omega) (Nat.le_refl _), by rw [jn_length]; omega, Nat.le_refl _⟩, bel_next (bel_alloc (bel_alloc b3 _) _) b4⟩
        · have hr : joinR k a b = ([], 3) := by unfold joinR; rw [if_pos ⟨hA, hB⟩, if_pos hK, if_neg hL]
          have hlx : decide ((40 : Int) < (a.length : Int) + (b.length : Int) + 1) = true := decide_eq_true (by omega)
          go_enter Try.func9, Try.ntmps9
          go_wp2_with fail
          refine (HA.out _ (Below.refl _ _)).mono ?_
          rintro e w1 ⟨rfl, b1⟩
          go_wp2_with fail
          refine (HB.out _ b1).mono ?_
          rintro e w2 ⟨rfl, b2⟩
          replace b2 := bel_next b1 b2
          go_wp2_with fail
          refine (c_inRange _ _ _ _).mono ?_
          rintro e w3 ⟨rfl, n3, rfl⟩
          have b3 := b2.trans (Drawn.below (w' := w2.drewN n3) ⟨_, rfl⟩ _)
          generalize w2.drewN n3 = w3 at *
          go_wp2_with fail
          go_ret2
          exact mkN_nil hr b3
      · have hr : joinR k a b = ([], 2) := by unfold joinR; rw [if_pos ⟨hA, hB⟩, if_neg hK]
        simp only [Bool.not_eq_true] at hK
        go_enter Try.func9, Try.ntmps9
        go_wp2_with fail
        refine (HA.out _ (Below.refl _ _)).mono ?_
        rintro e w1 ⟨rfl, b1⟩
        go_wp2_with fail
        refine (HB.out _ b1).mono ?_
        rintro e w2 ⟨rfl, b2⟩
        replace b2 := bel_next b1 b2
        go_wp2_with fail
        refine (c_inRange _ _ _ _).mono ?_
        rintro e w3 ⟨rfl, n3, rfl⟩
        have b3 := b2.trans (Drawn.below (w' := w2.drewN n3) ⟨_, rfl⟩ _)
        generalize w2.drewN n3 = w3 at *
        go_wp2_with fail
        go_ret2
        exact mkN_nil hr b3
    · have hr : joinR k a b = ([], 1) := by unfold joinR; rw [if_neg (fun h => hB h.2)]
      simp only [Bool.not_eq_true] at hB
      go_enter Try.func9, Try.ntmps9
      go_wp2_with fail
      refine (HA.out _ (Below.refl _ _)).mono ?_
      rintro e w1 ⟨rfl, b1⟩
      go_wp2_with fail
      refine (HB.out _ b1).mono ?_
      rintro e w2 ⟨rfl, b2⟩
      replace b2 := bel_next b1 b2
      go_wp2_with fail
      go_ret2
      exact mkN_nil hr b2
  · have hr : joinR k a b = ([], 1) := by unfold joinR; rw [if_neg (fun h => hA h.1)]
    simp only [Bool.not_eq_true] at hA
    go_enter Try.func9, Try.ntmps9
    go_wp2_with fail
    refine (HA.out _ (Below.refl _ _)).mono ?_
    rintro e w1 ⟨rfl, b1⟩
    go_wp2_with fail
    go_ret2
    exact mkN_nil hr b1
set_option maxHeartbeats 1600000 in
theorem s_JoinFormulas (k : Int) (hk : I64 k) {w : World} {u v : Value} {a b : List Nd} (ha : INS w u a) (hb : INS w v b) : Calls Try.prog 7 #[.int .i64 k, u, v] w (MkN w (joinR k a b)) := by
  have HA := Lib.hid (fun W (hW : Below w.heap.size w W) => s_IsFormula (ha.kept hW))
  have HB := Lib.hid (fun W (hW : Below w.heap.size w W) => s_IsFormula (hb.kept hW))
  have hla := ha.len
  have hlb := hb.len
  have hha := ha
  have hhb := hb
  have HJ := Lib.hid (fun (hl : a.length + b.length < 1048576) (W : World) (hW : Below w.heap.size w W) => c_l29Join hk (ha.kept hW) (hb.kept hW) hl)
  obtain ⟨au, cu, rfl⟩ := ha.shape
  obtain ⟨av, cv, rfl⟩ := hb.shape
  clear ha hb
  by_cases hA : fmB a = true
  · by_cases hB : fmB b = true
    · by_cases hK : inR k 4 6 = true
      · by_cases hL : a.length + b.length + 1 ≤ 40
        · have hr : joinR k a b = (jn k a b, 0) := by unfold joinR; rw [if_pos ⟨hA, hB⟩, if_pos hK, if_pos hL]
          have hlx : decide ((40 : Int) < (a.length : Int) + (b.length : Int) + 1) = false := decide_eq_false (by omega)
          have HJ2 := Lib.hid (HJ.out (by omega))
          clear HJ
          go_enter Try.func7, Try.ntmps7
          go_wp2_with fail
          refine (HA.out _ (Below.refl _ _)).mono ?_
          rintro e w1 ⟨rfl, b1⟩
          go_wp2_with fail
          refine (HB.out _ b1).mono ?_
          rintro e w2 ⟨rfl, b2⟩
          replace b2 := bel_next b1 b2
          go_wp2_with fail
          refine (c_l01In _ _ _ _).mono ?_
          rintro e w3 ⟨rfl, n3, rfl⟩
          have b3 := b2.trans (Drawn.below (w' := w2.drewN n3) ⟨_, rfl⟩ _)
          generalize w2.drewN n3 = w3 at *
          go_wp2_with fail
          refine (HJ2.out _ b3).mono ?_
          rintro e w4 ⟨u, rfl, o4, b4⟩
          obtain ⟨a4, c4, rfl⟩ := o4.opened
          go_wp2_with fail
          go_ret2
          rw [hr]
          exact ⟨_, rfl, ⟨o4.mono b3.size (Nat.le_refl _), by rw [jn_length]; omega, Nat.le_refl _⟩, bel_next b3 b4⟩
        · have hr : joinR k a b = ([], 3) := by unfold joinR; rw [if_pos ⟨hA, hB⟩, if_pos hK, if_neg hL]
          have hlx : decide ((40 : Int) < (a.length : Int) + (b.length : Int) + 1) = true := decide_eq_true (by omega)
          go_enter Try.func7, Try.ntmps7
          go_wp2_with fail
          refine (HA.out _ (Below.refl _ _)).mono ?_
          rintro e w1 ⟨rfl, b1⟩
          go_wp2_with fail
          refine (HB.out _ b1).mono ?_
          rintro e w2 ⟨rfl, b2⟩
          replace b2 := bel_next b1 b2
          go_wp2_with fail
          refine (c_l01In _ _ _ _).mono ?_
          rintro e w3 ⟨rfl, n3, rfl⟩
          have b3 := b2.trans (Drawn.below (w' := w2.drewN n3) ⟨_, rfl⟩ _)
          generalize w2.drewN n3 = w3 at *
          go_wp2_with fail
          go_ret2
          exact mkN_nil hr b3
      · have hr : joinR k a b = ([], 2) := by unfold joinR; rw [if_pos ⟨hA, hB⟩, if_neg hK]
        simp only [Bool.not_eq_true] at hK
        go_enter Try.func7, Try.ntmps7
        go_wp2_with fail
        refine (HA.out _ (Below.refl _ _)).mono ?_
        rintro e w1 ⟨rfl, b1⟩
        go_wp2_with fail
        refine (HB.out _ b1).mono ?_
        rintro e w2 ⟨rfl, b2⟩
        replace b2 := bel_next b1 b2
        go_wp2_with fail
        refine (c_l01In _ _ _ _).mono ?_
        rintro e w3 ⟨rfl, n3, rfl⟩
        have b3 := b2.trans (Drawn.below (w' := w2.drewN n3) ⟨_, rfl⟩ _)
        generalize w2.drewN n3 = w3 at *
        go_wp2_with fail
        go_ret2
        exact mkN_nil hr b3
    · have hr : joinR k a b = ([], 1) := by unfold joinR; rw [if_neg (fun h => hB h.2)]
      simp only [Bool.not_eq_true] at hB
      go_enter Try.func7, Try.ntmps7
      go_wp2_with fail
      refine (HA.out _ (Below.refl _ _)).mono ?_
      rintro e w1 ⟨rfl, b1⟩
      go_wp2_with fail
      refine (HB.out _ b1).mono ?_
      rintro e w2 ⟨rfl, b2⟩
      replace b2 := bel_next b1 b2
      go_wp2_with fail
      go_ret2
      exact mkN_nil hr b2
  · have hr : joinR k a b = ([], 1) := by unfold joinR; rw [if_neg (fun h => hA h.1)]
    simp only [Bool.not_eq_true] at hA
    go_enter Try.func7, Try.ntmps7
    go_wp2_with fail
    refine (HA.out _ (Below.refl _ _)).mono ?_
    rintro e w1 ⟨rfl, b1⟩
    go_wp2_with fail
    go_ret2
    exact mkN_nil hr b1
theorem i_NegateFormula {w : World} {v : Value} {d : List Nd} (h : INS w v d) : Calls Try.prog 14 #[v] w (MkN w (negR d)) := by
  have HJ := Lib.hid (i_JoinFormulas 6 (by simp [I64]) (h.kept (bel_alloc (Below.refl _ _) (.cells #[.int .i64 1, .int .i64 0, .slice none 0 0] 45))) (INS.lit1 (w := w) (k := 1) (s := 0) (by simp [I64]) (by simp [I64]) 1))
  obtain ⟨au, cu, rfl⟩ := h.shape
  clear h
  go_enter Try.func14, Try.ntmps14
  go_wp2_with fail
  refine HJ.out.mono ?_
  rintro e w1 ⟨u, rfl, o1, b1⟩
  obtain ⟨a1, c1, rfl⟩ := o1.of.opened
  have hz := b1.size
  simp only [World.size_alloc] at hz
  have HO := Lib.hid o1
  clear o1
  go_wp2_with fail
  go_ret2
  exact ⟨_, rfl, ⟨HO.out.of.mono (by simp) (Nat.le_refl _), HO.out.len, Nat.le_refl _⟩, bel_next (bel_alloc (Below.refl _ _) _) b1⟩
theorem neg_len {d : List Nd} (h : fmB d = true) (h2 : d.length + 2 ≤ 40) : negR d = (jn 6 d [⟨1, 0, []⟩], 0) := by
  unfold negR joinR
  rw [if_pos ⟨h, by decide⟩, if_pos (by decide), if_pos (by simp; omega)]
theorem neg_long {d : List Nd} (h : fmB d = true) (h2 : ¬ d.length + 2 ≤ 40) : negR d = ([], 3) := by
  unfold negR joinR
  rw [if_pos ⟨h, by decide⟩, if_pos (by decide), if_neg (by simp; omega)]
theorem neg_bad {d : List Nd} (h : ¬ fmB d = true) : negR d = ([], 1) := by
  unfold negR joinR
  rw [if_neg (fun e => h e.1)]
theorem s_NegateFormula {w : World} {v : Value} {d : List Nd} (h : INS w v d) : Calls Try.prog 13 #[v] w (MkN w (negR d)) := by
  have HA := Lib.hid (fun W (hW : Below w.heap.size w W) => s_IsFormula (h.kept hW))
  have hld := h.len
  have HJ := Lib.hid (fun (W : World) (hW : Below w.heap.size w W) (hl : d.length + 1 < 1048576) => c_l29Join (k := 6) (by simp [I64]) (h.kept (bel_alloc hW (.cells #[.int .i64 1, .int .i64 0, .slice none 0 0] 45))) (INS.lit1 (w := W) (k := 1) (s := 0) (by simp [I64]) (by simp [I64]) 1) hl)
  obtain ⟨au, cu, rfl⟩ := h.shape
  clear h
  by_cases hA : fmB d = true
  · by_cases hL : d.length + 2 ≤ 40
    · have hr := neg_len hA hL
      have hlx : decide ((40 : Int) < (d.length : Int) + 2) = false := decide_eq_false (by omega)
      have HJ2 := Lib.hid (fun W hW => HJ.out W hW (by omega))
      clear HJ
      go_enter Try.func13, Try.ntmps13
      go_wp2_with fail
      refine (HA.out _ (Below.refl _ _)).mono ?_
      rintro e w1 ⟨rfl, b1⟩
      go_wp2_with fail
      refine (HJ2.out _ b1).mono ?_
      rintro e w4 ⟨u, rfl, o4, b4⟩
      obtain ⟨a4, c4, rfl⟩ := o4.opened
      go_wp2_with fail
      go_ret2
      rw [hr]
      exact ⟨_, rfl, ⟨o4.mono (by have := b1.size; simp; omega) (Nat.le_refl _), by rw [jn_length]; simp; omega, Nat.le_refl _⟩, bel_next (bel_alloc b1 _) b4⟩
    · have hr := neg_long hA hL
      have hlx : decide ((40 : Int) < (d.length : Int) + 2) = true := decide_eq_true (by omega)
      go_enter Try.func13, Try.ntmps13
      go_wp2_with fail
      refine (HA.out _ (Below.refl _ _)).mono ?_
      rintro e w1 ⟨rfl, b1⟩
      go_wp2_with fail
      go_ret2
      exact mkN_nil hr b1
  · have hr := neg_bad hA
    simp only [Bool.not_eq_true] at hA
    go_enter Try.func13, Try.ntmps13
    go_wp2_with fail
    refine (HA.out _ (Below.refl _ _)).mono ?_
    rintro e w1 ⟨rfl, b1⟩
    go_wp2_with fail
    go_ret2
    exact mkN_nil hr b1
end Go.Proofs.Ytmhhgaggkgcdbaa
