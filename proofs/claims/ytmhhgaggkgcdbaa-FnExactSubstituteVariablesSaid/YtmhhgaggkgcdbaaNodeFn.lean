/-
  Copies of formulas, and JoinFormulas, NegateFormula of program and reference.
-/
import Derived.Test.YtmhhgaggkgcdbaaNodeMark
import Derived.Test.YtmhhgaggkgcdbaaNode2
import Derived.Deep.RegionHeld3
namespace Go.Proofs.Ytmhhgaggkgcdbaa
open Go.RowKit

theorem Grew.cell {w w' : World} {v v' : Value} (h : Grew w w' v v') {p : Addr} {x : Value} (hc : w.cell? p = some x) (hp : ∀ k, v.ownBlock = some k → k ≠ p.block) : w'.cell? p = some x := by
  have hlt := World.block_lt_of_cell? w p hc
  have e := h.grown.block p.block hlt (fun e => hp p.block e.symm rfl)
  rw [← hc]
  simp only [World.cell?, e]
/-- What a region that copies a node holds on to. -/
structure KN (w : World) (p0 p1 p2 : Addr) (a b c : Value) (w' : World) : Prop where
  bel : Below w.heap.size w w'
  c0 : w'.cell? p0 = some a
  c1 : w'.cell? p1 = some b
  c2 : w'.cell? p2 = some c
section
variable {w w' w'' : World} {p0 p1 p2 : Addr} {a b c : Value}
theorem KN.all (h : KN w p0 p1 p2 a b c w') : KN w p0 p1 p2 a b c w' ∧ w'.cell? p0 = some a ∧ w'.cell? p1 = some b ∧ w'.cell? p2 = some c := ⟨h, h.c0, h.c1, h.c2⟩
theorem KN.call (h : KN w p0 p1 p2 a b c w') (hb : Below w'.heap.size w' w'') : KN w p0 p1 p2 a b c w'' := ⟨bel_next h.bel hb, upc hb h.c0, upc hb h.c1, upc hb h.c2⟩
theorem KN.alloc (h : KN w p0 p1 p2 a b c w') (o : Obj) : KN w p0 p1 p2 a b c (w'.alloc o) := h.call (bel_alloc (Below.refl _ _) o)
theorem KN.drew (h : KN w p0 p1 p2 a b c w') : KN w p0 p1 p2 a b c w'.drew := h.call (Drawn.below (Drawn.one (Drawn.refl w')) _)
theorem KN.grew (h : KN w p0 p1 p2 a b c w') {v v' : Value} (hg : Grew w' w'' v v') (hv : ∀ k, v.ownBlock = some k → w.heap.size ≤ k) (hq : ∀ k, v.ownBlock = some k → k ≠ p0.block ∧ k ≠ p1.block ∧ k ≠ p2.block) : KN w p0 p1 p2 a b c w'' :=
  ⟨hg.below h.bel h.bel.size hv, hg.cell h.c0 (fun k hk => (hq k hk).1), hg.cell h.c1 (fun k hk => (hq k hk).2.1), hg.cell h.c2 (fun k hk => (hq k hk).2.2)⟩
end
theorem gn_snoc (L : List Nd) (x : Nd) (i : Nat) (hi : i < L.length + 1) : (if i < L.length then gn L i else x) = gn (L ++ [x]) i := by
  by_cases e : i < L.length
  · rw [if_pos e, gn_lt e, gn_lt (by simp; omega), List.getElem_append_left e]
  · have : i = L.length := by omega
    subst this
    rw [if_neg e, gn_lt (by simp)]; simp
theorem gn_app (L M : List Nd) (i : Nat) (hi : i < L.length + M.length) : (if i < L.length then gn L i else gn M (i - L.length)) = gn (L ++ M) i := by
  by_cases e : i < L.length
  · rw [if_pos e, gn_lt e, gn_lt (by simp; omega), List.getElem_append_left e]
  · rw [if_neg e, gn_lt (by omega), gn_lt (by simp; omega), List.getElem_append_right (by omega)]
theorem take_gn {d : List Nd} {k : Nat} (h : k < d.length) : d.take (k + 1) = d.take k ++ [gn d k] := by
  rw [gn_lt h]; exact List.take_succ_eq_append_getElem h
set_option maxHeartbeats 1600000 in
theorem c_l29Own {w : World} {v : Value} {d : List Nd} (h : INS w v d) : Calls Try.prog 37 #[v] w (Mk w fun w' u => ONF w.heap.size w'.heap.size w' u d.length (gn d)) := by
  obtain ⟨ao, b, o, c, A, rfl, ha, hc, hA⟩ := h.ex
  have hlen := h.len
  have HWF := Lib.hid h.wf
  have HC := Lib.hid hc
  have HA := Lib.hid hA
  clear h hc hA
  go_enter Try.func37, Try.ntmps37
  go_wp2_with fail
  go_loopw [3, 4] (fun ov iv wr => ∃ (k : Nat) (L : List Nd), k ≤ d.length ∧ iv = .int .i64 k ∧ Below w.heap.size w wr ∧ w.heap.size < wr.heap.size ∧ ONF w.heap.size wr.heap.size wr ov L.length (gn L) ∧ Hid (L = d.take k)) (fun _ i _ => d.length - (intOf i).toNat)
  case atStart => exact ⟨0, [], Nat.zero_le _, rfl, bel_alloc (Below.refl _ _) _, by simp, by have h0 := ONF.empty (D := gn []) (Nat.le_refl w.heap.size) rfl; simpa using h0, rfl⟩
  case round =>
    obtain ⟨k, L, hk, rfl, hb, hsz, hof, HL⟩ := hrel
    obtain ⟨aou, cou, rfl⟩ := hof.opened
    by_cases hlt : k < d.length
    · obtain rfl := ha (by omega)
      have hLl : L.length < 1048576 := by rw [HL.out]; simp; omega
      obtain ⟨x0, x1, x2⟩ := HC.out k hlt
      have hbl : b < w.heap.size := World.block_lt_of_cell? _ _ x0
      have c0 := upc hb x0
      have c1 := upc hb x1
      have c2 := upc hb x2
      have hwfk := HWF.out k hlt
      obtain ⟨ai, bi, oi, ki, hv, -⟩ := (HA.out k hlt).ex
      have hcl := fun W (hW : Below w.heap.size w W) => c_l01Own ((HA.out k hlt).kept hW)
      rw [hv] at c2 hcl
      have HCL := Lib.hid hcl
      have HOF := Lib.hid hof
      have hwB := hb.size
      have hvb := fun q hq => (hof.lt q hq).1
      have hq : ∀ q, (Value.slice aou L.length cou).ownBlock = some q → q ≠ (⟨b, o + k * 3, none⟩ : Addr).block ∧ q ≠ (⟨b, o + k * 3 + 1, none⟩ : Addr).block ∧ q ≠ (⟨b, o + k * 3 + 2, none⟩ : Addr).block := fun q hq => by
        have := (hof.lt q hq).1
        refine ⟨?_, ?_, ?_⟩ <;> (show q ≠ b; omega)
      have K0 : KN w ⟨b, o + k * 3, none⟩ ⟨b, o + k * 3 + 1, none⟩ ⟨b, o + k * 3 + 2, none⟩ (.int .i64 (gn d k).kd) (.int .i64 (gn d k).sy) (.slice ai (gn d k).ag.length ki) wr := ⟨hb, c0, c1, c2⟩
      have K1 := K0.drew.all
      clear x0 x1 x2 hv hcl hof
      go_wp2_with fail
      go_region_held3 (fun w' => KN w ⟨b, o + k * 3, none⟩ ⟨b, o + k * 3 + 1, none⟩ ⟨b, o + k * 3 + 2, none⟩ (.int .i64 (gn d k).kd) (.int .i64 (gn d k).sy) (.slice ai (gn d k).ag.length ki) w' ∧ w'.cell? ⟨b, o + k * 3, none⟩ = some (.int .i64 (gn d k).kd) ∧ w'.cell? ⟨b, o + k * 3 + 1, none⟩ = some (.int .i64 (gn d k).sy) ∧ w'.cell? ⟨b, o + k * 3 + 2, none⟩ = some (.slice ai (gn d k).ag.length ki))
        (first | with_reducible exact K1 | (with_reducible refine (KN.call ?_ b9).all; with_reducible exact And.left (by assumption)) | (with_reducible refine (KN.alloc ?_ _).all; with_reducible exact And.left (by assumption)) | (with_reducible refine (KN.grew ?_ g4 hvb hq).all; with_reducible exact And.left (by assumption)))
        (first | (go_at_call 42; (with_reducible refine (HCL.out _ (KN.bel (And.left (by assumption)))).mono ?_); rintro e w9 ⟨u, rfl, o9, b9⟩; obtain ⟨au, cu, rfl⟩ := o9.own.shape) | (refine stepAppN (B := w.heap.size) (N := wr.heap.size) (T := w9.heap.size) (m := w9.heap.size) (D := gn L) (kd := (gn d k).kd) (sy := (gn d k).sy) (ag := (gn d k).ag) (((HOF.out.keptB (Drawn.below (Drawn.one (Drawn.refl wr)) _)).keptB b9).keptB (bel_alloc (Below.refl _ _) _)) (o9.keptB (bel_alloc (Below.refl _ _) _)) ?_ ?_ ?_ hwfk.1 hwfk.2 hwB ?_ ?_ ?_ ?_ (.tmp 12) (.tmp 30) ?_ ?_ ?_ ?_; (· simp); (· simp); (· simp); (· have := b9.size; simp at this ⊢; omega); (· simp); (· omega); (· rfl); (· rfl); (· rfl); (· rfl); intro v' w4 ho4 g4))
      have KE := ‹KN _ _ _ _ _ _ _ w4 ∧ _›.1
      have hs4 := g4.grown.size
      have hs9 := b9.size
      simp only [World.size_alloc, World.size_drew] at hs4 hs9
      have HO := Lib.hid ho4
      obtain ⟨av, cv, rfl⟩ := ho4.opened
      have HB := Lib.hid KE.bel
      clear ho4 g4 hvb hq K0 K1 c0 c1 c2 o9 b9 KE
      go_wp2_with fail
      go_roundw
      case rel => exact ⟨k + 1, L ++ [gn d k], by omega, by go_num, HB.out, by omega, by
        rw [List.length_append, List.length_singleton]
        exact HO.out.congr (fun i hi => gn_snoc _ _ i hi), by unfold Hid; rw [take_gn hlt, HL.out]⟩
      case measure => simp [intOf]; omega
    · have hk' : d.length = k := by omega
      subst hk'
      have e : L = d := by rw [HL.out]; exact List.take_length
      subst e
      go_wp2_with fail
      go_ret
      exact ⟨_, rfl, hof, hb⟩

def gl (dd : List (List Nd)) (i : Nat) : List Nd := dd.getD i []
theorem gl_lt {dd : List (List Nd)} {i : Nat} (h : i < dd.length) : gl dd i = dd[i] := by
  unfold gl; rw [List.getD_eq_getElem?_getD, List.getElem?_eq_getElem h]; rfl
theorem take_gl {dd : List (List Nd)} {k : Nat} (h : k < dd.length) : (dd.take (k + 1)).flatten = (dd.take k).flatten ++ gl dd k := by
  rw [gl_lt h, List.take_succ_eq_append_getElem h, List.flatten_append]; simp
theorem flat_le (dd : List (List Nd)) (k : Nat) : (dd.take k).flatten.length ≤ dd.flatten.length := by
  have e : dd.flatten = (dd.take k).flatten ++ (dd.drop k).flatten := by rw [← List.flatten_append, List.take_append_drop]
  rw [e, List.length_append]; omega
/-- A slice of slices of nodes. -/
structure INSS (w : World) (v : Value) (dd : List (List Nd)) : Prop where
  ex : ∃ (ao : Option Addr) (b o c : Nat) (R : Nat → Value), v = .slice ao dd.length c ∧ (0 < dd.length → ao = some ⟨b, o, none⟩) ∧ (∀ i, i < dd.length → w.cell? ⟨b, o + i, none⟩ = some (R i)) ∧ ∀ i, i < dd.length → INS w (R i) (gl dd i)
  len : dd.length ≤ 1048576
theorem INS.shape {w : World} {v : Value} {d : List Nd} (h : INS w v d) : ∃ ao c, v = .slice ao d.length c := by
  obtain ⟨ao, b, o, c, A, rfl, -⟩ := h.ex
  exact ⟨ao, c, rfl⟩
set_option maxHeartbeats 1600000 in
theorem c_nodes {w : World} {v : Value} {dd : List (List Nd)} (h : INSS w v dd) (hl : dd.flatten.length < 1048576) : Calls Try.prog 27 #[v] w (Mk w fun w' u => ONF w.heap.size w'.heap.size w' u dd.flatten.length (gn dd.flatten)) := by
  obtain ⟨ao, b, o, c, R, rfl, ha, hc, hR⟩ := h.ex
  have hlen := h.len
  have HC := Lib.hid hc
  have HR := Lib.hid hR
  have HFL := Lib.hid (fun i => flat_le dd i)
  clear h hc hR
  go_enter Try.func27, Try.ntmps27
  go_wp2_with fail
  go_loopw [3, 5, 7, 11] (fun ov _ _ iv wr => ∃ (i : Nat) (L : List Nd), i ≤ dd.length ∧ iv = .int .i64 i ∧ Below w.heap.size w wr ∧ w.heap.size < wr.heap.size ∧ ONF w.heap.size wr.heap.size wr ov L.length (gn L) ∧ Hid (L = (dd.take i).flatten)) (fun _ _ _ i _ => dd.length - (intOf i).toNat)
  case atStart => exact ⟨0, [], Nat.zero_le _, rfl, bel_alloc (Below.refl _ _) _, by simp, by have h0 := ONF.empty (D := gn []) (Nat.le_refl w.heap.size) rfl; simpa using h0, rfl⟩
  case round =>
    obtain ⟨i, L, hi, rfl, hb, hsz, hof, HL⟩ := hrel
    obtain ⟨aou, cou, rfl⟩ := hof.opened
    by_cases hlt : i < dd.length
    · obtain rfl := ha (by omega)
      have cr := upc hb (HC.out i hlt)
      have hI := HR.out i hlt
      obtain ⟨ad, bd, od, cd, A, hv, had, hcd, hAd⟩ := hI.ex
      have hdl := hI.len
      have HWF := Lib.hid hI.wf
      rw [hv] at cr
      have HCD := Lib.hid hcd
      have HAD := Lib.hid hAd
      have hE : (dd.take (i + 1)).flatten = (dd.take i).flatten ++ gl dd i := take_gl hlt
      have HE := Lib.hid hE
      have hF := HFL.out (i + 1)
      rw [hE, List.length_append, ← HL.out] at hF
      generalize gl dd i = d at *
      clear hv hcd hAd hI hE
      go_wp2_with fail
      go_loopw [3, 7, 17] (fun ov _ iv wr => ∃ (k : Nat) (M : List Nd), k ≤ d.length ∧ iv = .int .i64 k ∧ Below w.heap.size w wr ∧ w.heap.size < wr.heap.size ∧ ONF w.heap.size wr.heap.size wr ov M.length (gn M) ∧ Hid (M = L ++ d.take k)) (fun _ _ iv _ => d.length - (intOf iv).toNat)
      case atStart => exact ⟨0, L, Nat.zero_le _, rfl, hb, hsz, hof, by simp [Hid]⟩
      case round =>
        clear hb hsz hof cr
        obtain ⟨k, M, hk, rfl, hb, hsz, hof, HM⟩ := hrel
        obtain ⟨aou, cou, rfl⟩ := hof.opened
        by_cases hltk : k < d.length
        · obtain rfl := had (by omega)
          have hLl : M.length < 1048576 := by rw [HM.out]; simp; omega
          obtain ⟨x0, x1, x2⟩ := HCD.out k hltk
          have y0 := upc hb x0
          have y1 := upc hb x1
          have y2 := upc hb x2
          have hwfk := HWF.out k hltk
          obtain ⟨ai, bi, oi, ki, hv, -⟩ := (HAD.out k hltk).ex
          have hcl := fun W (hW : Below w.heap.size w W) => c_clone ((HAD.out k hltk).kept hW)
          rw [hv] at y2 hcl
          have HCL := Lib.hid hcl
          clear x0 x1 x2 hv hcl
          have hb1 := bel_next hb (bel_alloc (Below.refl _ _) (.cells #[.int .i64 (gn d k).kd, .int .i64 (gn d k).sy, .slice ai (gn d k).ag.length ki] 45))
          have hof1 := hof.keptB (bel_alloc (Below.refl _ _) (.cells #[.int .i64 (gn d k).kd, .int .i64 (gn d k).sy, .slice ai (gn d k).ag.length ki] 45))
          have hqw : wr.heap.size < (wr.alloc (.cells #[.int .i64 (gn d k).kd, .int .i64 (gn d k).sy, .slice ai (gn d k).ag.length ki] 45)).heap.size := by simp
          have z0 : (wr.alloc (.cells #[.int .i64 (gn d k).kd, .int .i64 (gn d k).sy, .slice ai (gn d k).ag.length ki] 45)).cell? ⟨wr.heap.size, 0, none⟩ = some (.int .i64 (gn d k).kd) := by simp
          have z1 : (wr.alloc (.cells #[.int .i64 (gn d k).kd, .int .i64 (gn d k).sy, .slice ai (gn d k).ag.length ki] 45)).cell? ⟨wr.heap.size, 1, none⟩ = some (.int .i64 (gn d k).sy) := by simp
          have z2 : (wr.alloc (.cells #[.int .i64 (gn d k).kd, .int .i64 (gn d k).sy, .slice ai (gn d k).ag.length ki] 45)).cell? ⟨wr.heap.size, 2, none⟩ = some (.slice ai (gn d k).ag.length ki) := by simp
          clear hof
          go_wp2_with fail
          clear y0 y1 y2
          generalize wr.alloc (.cells #[.int .i64 (gn d k).kd, .int .i64 (gn d k).sy, .slice ai (gn d k).ag.length ki] 45) = W1 at *
          generalize wr.heap.size = q at *
          have HOF := Lib.hid (hof1.mono (Nat.le_refl _) (Nat.le_of_lt hqw))
          have hwB := hb1.size
          have hvb := fun q hq => (hof1.lt q hq).1
          have hq : ∀ j, (Value.slice aou M.length cou).ownBlock = some j → j ≠ (⟨q, 0, none⟩ : Addr).block ∧ j ≠ (⟨q, 1, none⟩ : Addr).block ∧ j ≠ (⟨q, 2, none⟩ : Addr).block := fun j hj => by
            have := (hof1.lt j hj).2
            refine ⟨?_, ?_, ?_⟩ <;> (show j ≠ q; omega)
          have K0 : KN w ⟨q, 0, none⟩ ⟨q, 1, none⟩ ⟨q, 2, none⟩ (.int .i64 (gn d k).kd) (.int .i64 (gn d k).sy) (.slice ai (gn d k).ag.length ki) W1 := ⟨hb1, z0, z1, z2⟩
          have K1 := K0.drew.all
          clear hof1
          go_region_held3 (fun w' => KN w ⟨q, 0, none⟩ ⟨q, 1, none⟩ ⟨q, 2, none⟩ (.int .i64 (gn d k).kd) (.int .i64 (gn d k).sy) (.slice ai (gn d k).ag.length ki) w' ∧ w'.cell? ⟨q, 0, none⟩ = some (.int .i64 (gn d k).kd) ∧ w'.cell? ⟨q, 1, none⟩ = some (.int .i64 (gn d k).sy) ∧ w'.cell? ⟨q, 2, none⟩ = some (.slice ai (gn d k).ag.length ki))
            (first | with_reducible exact K1 | (with_reducible refine (KN.call ?_ b9).all; with_reducible exact And.left (by assumption)) | (with_reducible refine (KN.alloc ?_ _).all; with_reducible exact And.left (by assumption)) | (with_reducible refine (KN.grew ?_ g4 hvb hq).all; with_reducible exact And.left (by assumption)))
            (first | (go_at_call 40; (with_reducible refine (HCL.out _ (KN.bel (And.left (by assumption)))).mono ?_); rintro e w9 ⟨u, rfl, o9, b9⟩; obtain ⟨au, cu, rfl⟩ := o9.own.shape) | (refine stepAppN (B := w.heap.size) (N := W1.heap.size) (T := w9.heap.size) (m := w9.heap.size) (D := gn M) (kd := (gn d k).kd) (sy := (gn d k).sy) (ag := (gn d k).ag) (((HOF.out.keptB (Drawn.below (Drawn.one (Drawn.refl W1)) _)).keptB b9).keptB (bel_alloc (Below.refl _ _) _)) (o9.keptB (bel_alloc (Below.refl _ _) _)) ?_ ?_ ?_ hwfk.1 hwfk.2 hwB ?_ ?_ ?_ ?_ (.tmp 21) (.tmp 30) ?_ ?_ ?_ ?_; (· simp); (· simp); (· simp); (· have := b9.size; simp at this ⊢; omega); (· simp); (· omega); (· rfl); (· rfl); (· rfl); (· rfl); intro v' w4 ho4 g4))
          have KE := ‹KN _ _ _ _ _ _ _ w4 ∧ _›.1
          have hs4 := g4.grown.size
          have hs9 := b9.size
          simp only [World.size_alloc, World.size_drew] at hs4 hs9
          have HO := Lib.hid ho4
          obtain ⟨av, cv, rfl⟩ := ho4.opened
          have HB := Lib.hid KE.bel
          clear ho4 g4 hvb hq K0 K1 z0 z1 z2 o9 b9 KE hb hb1
          go_wp2_with fail
          go_roundw
          case rel => exact ⟨k + 1, M ++ [gn d k], by omega, by go_num, HB.out, by omega, by
            rw [List.length_append, List.length_singleton]
            exact HO.out.congr (fun i hi => gn_snoc _ _ i hi), by unfold Hid; rw [take_gn hltk, HM.out, List.append_assoc]⟩
          case measure => simp [intOf]; omega
        · have hk' : d.length = k := by omega
          have e : M = L ++ d := by rw [HM.out, ← hk', List.take_length]
          have HEE := Lib.hid e
          clear hk' e
          go_wp2_with fail
          go_roundw
          case rel => exact ⟨i + 1, M, by omega, by go_num, hb, hsz, hof, by unfold Hid; rw [HEE.out, HL.out, HE.out]⟩
          case measure => simp [intOf]; omega
    · have hk' : dd.length = i := by omega
      have e : L = dd.flatten := by rw [HL.out, ← hk', List.take_length]
      subst e
      clear hk'
      go_wp2_with fail
      go_ret
      exact ⟨_, rfl, hof, hb⟩
end Go.Proofs.Ytmhhgaggkgcdbaa
