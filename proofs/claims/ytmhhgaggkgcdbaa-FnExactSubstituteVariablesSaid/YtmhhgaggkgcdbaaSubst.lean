/-
  SubstituteVariables of program and reference.
-/
import Derived.Test.YtmhhgaggkgcdbaaNodeJoin
import Derived.StillTailTactics
namespace Go.Proofs.Ytmhhgaggkgcdbaa
open Go.RowKit

/-- The image of a variable. -/
def sb (im : List Int) (n v : Int) : Int := if v < (im.length : Int) then gi im v.toNat else v - im.length + n
def sbN (im : List Int) (n : Int) (x : Nd) : Nd := ⟨x.kd, x.sy, x.ag.map (sb im n)⟩
def sbOk (im : List Int) (n : Int) (d : List Nd) : Prop := ∀ i, i < d.length → ∀ k, k < (gn d i).ag.length → sb im n (gi (gn d i).ag k) < 4
/-- The first k variables of a list replaced. -/
def sbP (im : List Int) (n : Int) (xs : List Int) (k : Nat) : List Int := (xs.take k).map (sb im n) ++ xs.drop k
theorem sbP_length (im : List Int) (n : Int) (xs : List Int) (k : Nat) : (sbP im n xs k).length = xs.length := by
  simp [sbP]; omega
theorem sbP_zero (im : List Int) (n : Int) (xs : List Int) : sbP im n xs 0 = xs := by simp [sbP]
theorem sbP_all (im : List Int) (n : Int) (xs : List Int) : sbP im n xs xs.length = xs.map (sb im n) := by simp [sbP]
theorem gi_sbP {im : List Int} {n : Int} {xs : List Int} {k : Nat} (h : k < xs.length) : gi (sbP im n xs k) k = gi xs k := by
  rw [gi_lt (by rw [sbP_length]; exact h), gi_lt h]
  have e : ((xs.take k).map (sb im n)).length = k := by simp; omega
  simp only [sbP]
  rw [List.getElem_append_right (by omega), List.getElem_drop]
  congr 1
  omega
theorem sbP_succ {im : List Int} {n : Int} {xs : List Int} {k : Nat} (h : k < xs.length) : (sbP im n xs k).set k (sb im n (gi xs k)) = sbP im n xs (k + 1) := by
  have e : ((xs.take k).map (sb im n)).length = k := by simp; omega
  simp only [sbP]
  rw [List.set_append_right _ _ (by omega), e, Nat.sub_self, drop_gi h, List.set_cons_zero, take_gi h, List.map_append, List.append_assoc]
  rfl
/-- .. with the slices' values told. -/
def ONV (V : Nat → Value) (B T : Nat) (w : World) (v : Value) (n : Nat) (D : Nat → Nd) : Prop :=
  w.ownsRow B 45 3 v n (cN D V n) ∧ (∀ k, v.ownBlock = some k → k < T) ∧ (∀ i, i < n → OwnT 2 B T w (V i) (D i).ag) ∧ (∀ i j, i < n → j < n → i ≠ j → Dj (V i) (V j)) ∧ (∀ i, i < n → Dj (V i) v) ∧ ∀ i, i < n → I64 (D i).kd ∧ I64 (D i).sy
theorem ONV.f {V : Nat → Value} {B T : Nat} {w : World} {v : Value} {n : Nat} {D : Nat → Nd} (h : ONV V B T w v n D) : ONF B T w v n D := ⟨V, h⟩
theorem ONV.congr {V : Nat → Value} {B T : Nat} {w : World} {v : Value} {n : Nat} {D D' : Nat → Nd} (h : ONV V B T w v n D) (e : ∀ i, i < n → D i = D' i) : ONV V B T w v n D' := by
  obtain ⟨h1, h2, h3, h4, h5, h6⟩ := h
  exact ⟨by rw [← cN_congr (D := D) (D' := D') (V := V) (V' := V) (fun i hi => by rw [e i hi]; exact ⟨rfl, rfl, rfl⟩)]; exact h1, h2, fun i hi => by rw [← e i hi]; exact h3 i hi, h4, h5, fun i hi => by rw [← e i hi]; exact h6 i hi⟩
theorem ONV.keptB {V : Nat → Value} {B T : Nat} {w w' : World} {v : Value} {n : Nat} {D : Nat → Nd} (h : ONV V B T w v n D) (hb : Below w.heap.size w w') : ONV V B T w' v n D := by
  obtain ⟨h1, h2, h3, h4, h5, h6⟩ := h
  exact ⟨ownsRow_within h1 (below_within hb w.heap.size) (fun k hk => .inl (h1.lt k hk).2), h2, fun i hi => (h3 i hi).keptB hb, h4, h5, h6⟩
theorem ONV.mono {V : Nat → Value} {B T T' : Nat} {w : World} {v : Value} {n : Nat} {D : Nat → Nd} (h : ONV V B T w v n D) (hT : T ≤ T') : ONV V B T' w v n D := by
  obtain ⟨h1, h2, h3, h4, h5, h6⟩ := h
  exact ⟨h1, fun k hk => Nat.lt_of_lt_of_le (h2 k hk) hT, fun i hi => (h3 i hi).mono (Nat.le_refl _) hT, h4, h5, h6⟩
theorem Own.setS {E : TypeId} {w : World} {B g n c : Nat} {xs : List Int} (h : Own E w B (.slice (some ⟨g, 0, none⟩) n c) xs) (hn : n = xs.length) (i : Nat) {x : Int} (hx : I64 x) :
    Own E (w.setCell ⟨g, i, none⟩ (.int .i64 x)) B (.slice (some ⟨g, 0, none⟩) n c) (xs.set i x) := by
  subst hn
  have := (h.row.stored i (.int .i64 x)).1
  refine ⟨?_, ?_, by simpa using h.len⟩
  · rw [List.length_set, List.map_set]; exact this
  · intro z hz
    rcases List.mem_or_eq_of_mem_set hz with hz | rfl
    · exact h.wf z hz
    · exact hx
/-- One variable of node i is written. -/
theorem ONV.putA {V : Nat → Value} {B T : Nat} {w : World} {v : Value} {n : Nat} {D : Nat → Nd} (h : ONV V B T w v n D) {i g m c : Nat} (hi : i < n) (hV : V i = .slice (some ⟨g, 0, none⟩) m c) (hm : m = (D i).ag.length) (j : Nat) {x : Int} (hx : I64 x) :
    ONV V B T (w.setCell ⟨g, j, none⟩ (.int .i64 x)) v n (fun q => if q = i then ⟨(D i).kd, (D i).sy, (D i).ag.set j x⟩ else D q) := by
  obtain ⟨h1, h2, h3, h4, h5, h6⟩ := h
  have hw : Within g (g + 1) w (w.setCell ⟨g, j, none⟩ (.int .i64 x)) := (Within.refl g (g + 1) w).setCell (p := ⟨g, j, none⟩) (Nat.le_refl _) (Nat.lt_succ_self _) _
  have hob : (V i).ownBlock = some g := by rw [hV]; rfl
  have key : ∀ u : Value, Dj (V i) u → ∀ k, u.ownBlock = some k → k < g ∨ g + 1 ≤ k := by
    intro u hd k hk
    rcases hd with hd | hd
    · rw [hob] at hd; cases hd
    · rw [hob, hk] at hd
      have : k ≠ g := fun e => hd (by rw [e])
      omega
  refine ⟨?_, h2, fun q hq => ?_, h4, h5, fun q hq => ?_⟩
  · rw [cN_congr (D' := D) (V' := V) (fun q _ => by by_cases e : q = i <;> simp [e])]
    exact ownsRow_within h1 hw (key v (h5 i hi))
  · dsimp only
    by_cases e : q = i
    · rw [if_pos e, e]
      have ho := h3 i hi
      have h7 := ho.own
      rw [hV] at h7
      rw [hV]
      exact ⟨h7.setS hm j hx, by rw [← hV]; exact ho.top⟩
    · rw [if_neg e]
      exact (h3 q hq).apart hw (key (V q) (h4 i q hi hq (Ne.symm e)))
  · dsimp only
    by_cases e : q = i
    · rw [if_pos e]; exact h6 i hi
    · rw [if_neg e]; exact h6 q hq
/-- Node i's cells, its slice's too. -/
theorem ONV.node {V : Nat → Value} {B T : Nat} {w : World} {n c0 : Nat} {ao : Option Addr} {D : Nat → Nd} (h : ONV V B T w (.slice ao n c0) n D) {i : Nat} (hi : i < n) :
    ∃ g0, ao = some ⟨g0, 0, none⟩ ∧ B ≤ g0 ∧ w.cell? ⟨g0, i * 3, none⟩ = some (.int .i64 (D i).kd) ∧ w.cell? ⟨g0, i * 3 + 1, none⟩ = some (.int .i64 (D i).sy) ∧ w.cell? ⟨g0, i * 3 + 2, none⟩ = some (V i) := by
  obtain ⟨h1, h2, -⟩ := h
  rcases h1.2 with ⟨hh, hn⟩ | ⟨g, cap, cur, hh, hB, _⟩
  · omega
  · injection hh with e1 e2 e3
    subst e1
    have hl := cN_length D V n
    obtain ⟨c1, c2, c3⟩ := cN_get D V hi
    refine ⟨g, rfl, hB, ?_, ?_, ?_⟩
    · rw [h1.cellAt (i * 3) (by omega)]; exact c1
    · rw [h1.cellAt (i * 3 + 1) (by omega)]; exact c2
    · rw [h1.cellAt (i * 3 + 2) (by omega)]; exact c3
theorem OwnT.nodeS {E : TypeId} {B T : Nat} {w : World} {v : Value} {xs : List Int} (h : OwnT E B T w v xs) : ∃ ao g c, v = .slice ao xs.length c ∧ (0 < xs.length → ao = some ⟨g, 0, none⟩ ∧ B ≤ g) ∧ (∀ i, i < xs.length → w.cell? ⟨g, i, none⟩ = some (.int .i64 (gi xs i))) ∧ ∀ i, 0 < xs.length → w.frozen? ⟨g, i, none⟩ = false := by
  have h0 := h.own.row
  rcases h0.2 with ⟨rfl, hn⟩ | ⟨g, cap, cur, rfl, hB, _⟩
  · exact ⟨none, 0, 0, by rw [hn], fun h0 => by omega, fun i hi => by omega, fun i hi => by omega⟩
  · refine ⟨some ⟨g, 0, none⟩, g, cap, rfl, fun _ => ⟨rfl, hB⟩, fun i hi => ?_, fun i _ => h0.frozenAt i⟩
    rw [h0.cellAt i (by omega), gi_lt hi]
    simp [hi]
theorem sb_lo {im : List Int} {n v : Int} (hn : inR n 0 4 = true) (hi : allIn n im = true) (hv : 0 ≤ v ∧ v < 4) : 0 ≤ sb im n v ∧ sb im n v < 9 := by
  unfold sb
  have hnn : 0 ≤ n ∧ n ≤ 4 := by simpa [inR] using hn
  by_cases h : v < (im.length : Int)
  · rw [if_pos h]
    have hl : v.toNat < im.length := by omega
    have := List.all_eq_true.1 hi _ (gi_mem hl)
    have h2 : 0 ≤ gi im v.toNat ∧ gi im v.toNat < n := by simpa using this
    omega
  · rw [if_neg h]; omega
theorem fm_arg {d : List Nd} (h : fmB d = true) {i k : Nat} (hi : i < d.length) (hk : k < (gn d i).ag.length) : 0 ≤ gi (gn d i).ag k ∧ gi (gn d i).ag k < 4 := by
  unfold fmB at h
  simp only [Bool.and_eq_true] at h
  have h1 := List.all_eq_true.1 h.2.1 (gn d i) (by rw [gn_lt hi]; exact List.getElem_mem hi)
  unfold ndB at h1
  simp only [Bool.and_eq_true] at h1
  have h2 := List.all_eq_true.1 h1.1 _ (gi_mem hk)
  simpa using h2
theorem dm_length (im : List Int) (n : Int) (d : List Nd) : (d.map (sbN im n)).length = d.length := by simp
theorem gn_map {im : List Int} {n : Int} {d : List Nd} {i : Nat} (h : i < d.length) : gn (d.map (sbN im n)) i = sbN im n (gn d i) := by
  rw [gn_lt (by simpa using h), gn_lt h]; simp
theorem within_cellN {B T : Nat} {w w' : World} (h : Within B T w w') {b i : Nat} {v : Value} (hc : w.cell? ⟨b, i, none⟩ = some v) (hd : b < B ∨ T ≤ b) : w'.cell? ⟨b, i, none⟩ = some v := by
  have e := h.block b hd (World.block_lt_of_cell? w ⟨b, i, none⟩ hc)
  have ec : w'.cell? ⟨b, i, none⟩ = w.cell? ⟨b, i, none⟩ := by simp only [World.cell?, e]
  rw [ec]; exact hc
/-- The end of substitute. -/
def MkB (w : World) (im : List Int) (n : Int) (d : List Nd) : Ending → World → Prop := fun e w' => Below w.heap.size w w' ∧
  ((∃ u, e = .returned (.tuple #[u, .bool true]) ∧ sbOk im n d ∧ ONF w.heap.size w'.heap.size w' u d.length (gn (d.map (sbN im n)))) ∨ (e = .returned (.tuple #[.slice none 0 0, .bool false]) ∧ ¬ sbOk im n d))
set_option maxHeartbeats 3200000 in
theorem c_substitute {w : World} {v vi : Value} {d : List Nd} {im : List Int} {n : Int} (h : INS w v d) (hI : IS w vi im) (hf : fmB d = true) (hn : inR n 0 4 = true) (hi : allIn n im = true) :
    Calls Try.prog 33 #[v, vi, .int .i64 n] w (MkB w im n d) := by
  have hnn : 0 ≤ n ∧ n ≤ 4 := by simpa [inR] using hn
  obtain ⟨hn0, hn4⟩ := hnn
  have hlen := h.len
  have hil := hI.len
  have HV := Lib.hid (fun (i k : Nat) (hi' : i < d.length) (hk : k < (gn d i).ag.length) => fm_arg hf hi' hk)
  have HS := Lib.hid (fun (x : Int) (hx : 0 ≤ x ∧ x < 4) => sb_lo hn hi hx)
  have h40 := fmB_len hf
  have HN := Lib.hid (c_nodes (w := w.alloc (.cells #[v] 24)) (v := .slice (some ⟨w.heap.size, 0, none⟩) 1 1) (dd := [d]) ⟨⟨_, w.heap.size, 0, 1, fun _ => v, rfl, fun _ => rfl, fun i hi => by
      obtain rfl : i = 0 := by simp at hi; omega
      simp, fun i hi => by
      obtain rfl : i = 0 := by simp at hi; omega
      exact h.kept (bel_alloc (Below.refl _ _) _)⟩, by simp⟩ (by simp; omega))
  rw [show [d].flatten = d by simp] at HN
  obtain ⟨au, cu, rfl⟩ := h.shape
  obtain ⟨ai, bi, oi, ci, rfl, hai, hci⟩ := hI.ex
  have HCI := Lib.hid hci
  clear h hI hf hn hi hci
  go_enter Try.func33, Try.ntmps33
  go_wp2_with fail
  refine HN.out.mono ?_
  rintro e w1 ⟨u, rfl, o1, b1⟩
  obtain ⟨a1, c1, rfl⟩ := o1.opened
  obtain ⟨V, hV⟩ := o1
  have z1 := b1.size
  have hB1 := bel_next (bel_alloc (Below.refl w.heap.size w) (.cells #[.slice au d.length cu] 24)) b1
  simp only [World.size_alloc] at z1
  have HO : Hid (ONV V (w.heap.size + 1) w1.heap.size w1 (.slice a1 d.length c1) d.length (gn d)) := by
    have := hV
    simp only [World.size_alloc] at this
    exact this
  clear hV b1 HN
  go_wp2_with fail
  go_loopw [11, 12, 13, 21] (fun _ _ _ iv wr => ∃ (i : Nat), i ≤ d.length ∧ iv = .int .i64 i ∧ Below w.heap.size w wr ∧ w1.heap.size ≤ wr.heap.size ∧ ONV V (w.heap.size + 1) wr.heap.size wr (.slice a1 d.length c1) d.length (fun j => if j < i then sbN im n (gn d j) else gn d j) ∧ Hid (∀ j, j < i → ∀ k, k < (gn d j).ag.length → sb im n (gi (gn d j).ag k) < 4)) (fun _ _ _ iv _ => d.length - (intOf iv).toNat)
  case atStart => exact ⟨0, Nat.zero_le _, rfl, hB1, Nat.le_refl _, HO.out.congr (fun j _ => by simp), fun j hj => by omega⟩
  case round =>
    obtain ⟨i, hi, rfl, hb, hs1, hov, HK⟩ := hrel
    by_cases hlt : i < d.length
    · obtain ⟨g0, hg0, hBg0, x0, x1, x2⟩ := hov.node hlt
      simp only [Nat.lt_irrefl, if_false] at x0 x1 x2
      have hos := hov.2.2.1 i hlt
      simp only [Nat.lt_irrefl, if_false] at hos
      obtain ⟨av, g, cv, hVi, hga, -, -⟩ := hos.nodeS
      have hxl := hos.own.len
      subst hg0
      rw [hVi] at x2
      have HVI := Lib.hid hVi
      have WA : Below wr.heap.size wr (wr.alloc (.cells #[.int .i64 (gn d i).kd, .int .i64 (gn d i).sy, .slice av (gn d i).ag.length cv] 45)) := bel_alloc (Below.refl _ _) _
      have hov2 := hov.keptB WA
      have hb2 := bel_next hb WA
      have hq : wr.heap.size < (wr.alloc (.cells #[.int .i64 (gn d i).kd, .int .i64 (gn d i).sy, .slice av (gn d i).ag.length cv] 45)).heap.size := by simp
      have z2 : (wr.alloc (.cells #[.int .i64 (gn d i).kd, .int .i64 (gn d i).sy, .slice av (gn d i).ag.length cv] 45)).cell? ⟨wr.heap.size, 2, none⟩ = some (.slice av (gn d i).ag.length cv) := by simp
      clear hov WA hVi hos
      go_wp2_with fail
      clear x0 x1 x2
      generalize wr.alloc (.cells #[.int .i64 (gn d i).kd, .int .i64 (gn d i).sy, .slice av (gn d i).ag.length cv] 45) = W1 at *
      have hgq : 0 < (gn d i).ag.length → g < wr.heap.size := fun h0 => by
        have ho := hov2.2.2.1 i hlt
        exact ho.top g (by rw [HVI.out, (hga h0).1]; rfl)
      have HGQ := Lib.hid hgq
      have HQS := Lib.hid (show ∀ q, q = wr.heap.size → w1.heap.size ≤ q from fun q hq => by omega)
      generalize wr.heap.size = q at *
      go_loopw [12, 13, 28] (fun _ _ kv W => ∃ (k : Nat), k ≤ (gn d i).ag.length ∧ kv = .int .i64 k ∧ Below w.heap.size w W ∧ W1.heap.size ≤ W.heap.size ∧ W.cell? ⟨q, 2, none⟩ = some (.slice av (gn d i).ag.length cv) ∧ ONV V (w.heap.size + 1) W.heap.size W (.slice (some ⟨g0, 0, none⟩) d.length c1) d.length (fun j => if j < i then sbN im n (gn d j) else if j = i then ⟨(gn d i).kd, (gn d i).sy, sbP im n (gn d i).ag k⟩ else gn d j) ∧ Hid (∀ j, j < k → sb im n (gi (gn d i).ag j) < 4)) (fun _ _ kv _ => (gn d i).ag.length - (intOf kv).toNat)
      case atStart => exact ⟨0, Nat.zero_le _, rfl, hb2, Nat.le_refl _, z2, (hov2.mono (Nat.le_of_lt hq)).congr (fun j _ => by
          by_cases e : j < i
          · simp only [if_pos e]
          · simp only [if_neg e]
            by_cases e2 : j = i
            · subst e2; simp only [if_true, sbP_zero]
            · simp only [if_neg e2]), fun j hj => by omega⟩
      case round =>
        clear hov2 hb2 z2 hb
        obtain ⟨k, hk, rfl, hb, hs2, z2, hov, HK2⟩ := hrel
        by_cases hltk : k < (gn d i).ag.length
        · obtain ⟨rfl, hBg⟩ := hga (by omega)
          have hgq2 := HGQ.out (by omega)
          have hos := hov.2.2.1 i hlt
          simp only [Nat.lt_irrefl, if_false, if_true] at hos
          obtain ⟨av', g', cv', hVi', hga', hcc, hfz⟩ := hos.nodeS
          rw [sbP_length] at hVi' hga' hcc hfz
          obtain ⟨rfl, -⟩ := hga' (by omega)
          have hV2 := HVI.out
          rw [hVi'] at hV2
          injection hV2 with e1 e2 e3
          injection e1 with e1
          injection e1 with e1
          obtain rfl := e1.symm
          obtain rfl := e3.symm
          have cx := hcc k hltk
          have cf := hfz k (by omega)
          rw [gi_sbP hltk] at cx
          have hv4 := HV.out i k hlt hltk
          obtain ⟨p, hp⟩ : ∃ p : Nat, gi (gn d i).ag k = (p : Int) := ⟨(gi (gn d i).ag k).toNat, by omega⟩
          have hsb := HS.out _ hv4
          rw [hp] at cx hsb
          have HP := Lib.hid hp
          have hp4 : (p : Int) < 4 := by omega
          have hgqk : g < q := hgq2
          clear hcc hfz hVi' hga' hv4 hp hos
          by_cases hpi : (p : Int) < (im.length : Int)
          · have hX : sb im n (p : Int) = gi im p := by unfold sb; rw [if_pos hpi]; rfl
            have hpl : p < im.length := by omega
            obtain rfl := hai (by omega)
            have ci' := upc hb (HCI.out p hpl)
            rw [hX] at hsb
            have HX := Lib.hid hX
            go_wp2_with fail
            go_still_tail 8, (by kernel_rfl)
            change wpList _ _ _ _ _ wr.drew
            have DD := Drawn.below (Drawn.one (Drawn.refl wr)) wr.heap.size
            have cf' : wr.drew.frozen? ⟨g, k, none⟩ = false := cf
            have cx' : wr.drew.cell? ⟨g, k, none⟩ = some (.int .i64 (p : Int)) := cx
            have z2' : wr.drew.cell? ⟨q, 2, none⟩ = some (.slice (some ⟨g, 0, none⟩) (gn d i).ag.length cv) := z2
            have hovd : ONV V (w.heap.size + 1) wr.drew.heap.size wr.drew _ _ _ := hov.keptB DD
            have hbd := bel_next hb DD
            have hsd : W1.heap.size ≤ wr.drew.heap.size := hs2
            clear cf cx z2 hov hb hs2 DD ci'
            generalize wr.drew = wq at *
            have hput2 := hovd.putA hlt HVI.out (by simp [sbP_length]) k (x := gi im p) (by constructor <;> omega)
            have HPUT2 := Lib.hid hput2
            have y2 := within_cellN (Within.setCell (Within.refl g (g + 1) wq) (p := ⟨g, k, none⟩) (Nat.le_refl _) (Nat.lt_succ_self _) (.int .i64 (gi im p))) z2' (.inr hgqk)
            have y3 : (wq.setCell ⟨g, k, none⟩ (.int .i64 (gi im p))).cell? ⟨g, k, none⟩ = some (.int .i64 (gi im p)) := World.cell?_setCell_same _ _ _ cx'
            have HBD := Lib.hid (hbd.setCell (p := ⟨g, k, none⟩) (show w.heap.size ≤ g by omega) (.int .i64 (gi im p)))
            have hsz : (wq.setCell ⟨g, k, none⟩ (.int .i64 (gi im p))).heap.size = wq.heap.size := by simp [World.setCell]
            have HSZ := Lib.hid hsz
            clear hovd hput2 hsz hbd
            by_cases hx4 : gi im p < 4
            · have hxb : decide (4 ≤ gi im p) = false := by simp; omega
              go_wp2_with fail
              go_roundw
              case rel =>
                refine ⟨k + 1, by omega, by go_num, HBD.out, by rw [HSZ.out]; omega, y2, ?_, fun j hj => ?_⟩
                · rw [HSZ.out]
                  refine HPUT2.out.congr (fun j _ => ?_)
                  by_cases e2 : j = i
                  · subst e2
                    rw [if_pos rfl, if_neg (by omega), if_pos rfl]
                    simp only [Nat.lt_irrefl, if_false, if_true]
                    rw [← sbP_succ hltk, HP.out, HX.out]
                  · rw [if_neg e2]
                    by_cases e : j < i
                    · rw [if_pos e, if_pos e]
                    · rw [if_neg e, if_neg e, if_neg e2, if_neg e2]
                · by_cases e : j = k
                  · subst e; rw [HP.out, HX.out]; exact hx4
                  · exact HK2.out j (by omega)
              case measure => simp [intOf]; omega
            · have hxb : decide (4 ≤ gi im p) = true := by simp; omega
              go_wp2_with fail
              go_ret2
              exact ⟨HBD.out, .inr ⟨rfl, fun hok => by
                have := hok i hlt k hltk
                rw [HP.out, HX.out] at this
                omega⟩⟩
          · have hX : sb im n (p : Int) = (p : Int) - (im.length : Int) + n := by unfold sb; rw [if_neg hpi]
            rw [hX] at hsb
            have HX := Lib.hid hX
            have hput2 := hov.putA hlt HVI.out (by simp [sbP_length]) k (x := (p : Int) - (im.length : Int) + n) (by constructor <;> omega)
            have HPUT2 := Lib.hid hput2
            have y2 := within_cellN (Within.setCell (Within.refl g (g + 1) wr) (p := ⟨g, k, none⟩) (Nat.le_refl _) (Nat.lt_succ_self _) (.int .i64 ((p : Int) - (im.length : Int) + n))) z2 (.inr hgqk)
            have y3 : (wr.setCell ⟨g, k, none⟩ (.int .i64 ((p : Int) - (im.length : Int) + n))).cell? ⟨g, k, none⟩ = some (.int .i64 ((p : Int) - (im.length : Int) + n)) := World.cell?_setCell_same _ _ _ cx
            have HBD := Lib.hid (hb.setCell (p := ⟨g, k, none⟩) (show w.heap.size ≤ g by omega) (.int .i64 ((p : Int) - (im.length : Int) + n)))
            have hsz : (wr.setCell ⟨g, k, none⟩ (.int .i64 ((p : Int) - (im.length : Int) + n))).heap.size = wr.heap.size := by simp [World.setCell]
            have HSZ := Lib.hid hsz
            clear hov hput2 hsz
            by_cases hx4 : (p : Int) - (im.length : Int) + n < 4
            · have hxb : decide (4 ≤ (p : Int) - (im.length : Int) + n) = false := by simp; omega
              go_wp2_with fail
              go_roundw
              case rel =>
                refine ⟨k + 1, by omega, by go_num, HBD.out, by rw [HSZ.out]; omega, y2, ?_, fun j hj => ?_⟩
                · rw [HSZ.out]
                  refine HPUT2.out.congr (fun j _ => ?_)
                  by_cases e2 : j = i
                  · subst e2
                    rw [if_pos rfl, if_neg (by omega), if_pos rfl]
                    simp only [Nat.lt_irrefl, if_false, if_true]
                    rw [← sbP_succ hltk, HP.out, HX.out]
                  · rw [if_neg e2]
                    by_cases e : j < i
                    · rw [if_pos e, if_pos e]
                    · rw [if_neg e, if_neg e, if_neg e2, if_neg e2]
                · by_cases e : j = k
                  · subst e; rw [HP.out, HX.out]; exact hx4
                  · exact HK2.out j (by omega)
              case measure => simp [intOf]; omega
            · have hxb : decide (4 ≤ (p : Int) - (im.length : Int) + n) = true := by simp; omega
              go_wp2_with fail
              go_ret2
              exact ⟨HBD.out, .inr ⟨rfl, fun hok => by
                have := hok i hlt k hltk
                rw [HP.out, HX.out] at this
                omega⟩⟩
        · have hkk : k = (gn d i).ag.length := by omega
          have HKK := Lib.hid hkk
          have HOV := Lib.hid hov
          clear hov hkk
          go_wp2_with fail
          go_roundw
          case rel => exact ⟨i + 1, by omega, by go_num, hb, by have := HQS.out q rfl; omega, HOV.out.congr (fun j _ => by
              by_cases e : j < i
              · rw [if_pos e, if_pos (by omega)]
              · rw [if_neg e]
                by_cases e2 : j = i
                · subst e2; rw [if_pos rfl, if_pos (by omega), HKK.out, sbP_all]; rfl
                · rw [if_neg e2, if_neg (by omega)]), fun j hj k2 hk2 => by
              by_cases e : j = i
              · subst e; exact HK2.out k2 (by have := HKK.out; omega)
              · exact HK.out j (by omega) k2 hk2⟩
          case measure => simp [intOf]; omega
    · have hie : i = d.length := by omega
      have HIE := Lib.hid hie
      have HOV := Lib.hid hov
      clear hov hie
      go_wp2_with fail
      go_ret2
      exact ⟨hb, .inl ⟨_, rfl, fun j hj => HK.out j (by have := HIE.out; omega), (HOV.out.congr (fun j hj => by rw [if_pos (by have := HIE.out; omega), gn_map hj])).f.mono (by omega) (Nat.le_refl _)⟩⟩
set_option maxHeartbeats 3200000 in
theorem c_l29Replace {w : World} {v vi : Value} {d : List Nd} {im : List Int} {n : Int} (h : INS w v d) (hI : IS w vi im) (hf : fmB d = true) (hn : inR n 0 4 = true) (hi : allIn n im = true) :
    Calls Try.prog 31 #[v, vi, .int .i64 n] w (MkB w im n d) := by
  have hnn : 0 ≤ n ∧ n ≤ 4 := by simpa [inR] using hn
  obtain ⟨hn0, hn4⟩ := hnn
  have hlen := h.len
  have hil := hI.len
  have HV := Lib.hid (fun (i k : Nat) (hi' : i < d.length) (hk : k < (gn d i).ag.length) => fm_arg hf hi' hk)
  have HS := Lib.hid (fun (x : Int) (hx : 0 ≤ x ∧ x < 4) => sb_lo hn hi hx)
  have HN := Lib.hid (c_l29Own h)
  obtain ⟨au, cu, rfl⟩ := h.shape
  obtain ⟨ai, bi, oi, ci, rfl, hai, hci⟩ := hI.ex
  have HCI := Lib.hid hci
  clear h hI hf hn hi hci
  go_enter Try.func31, Try.ntmps31
  go_wp2_with fail
  refine HN.out.mono ?_
  rintro e w1 ⟨u, rfl, o1, b1⟩
  obtain ⟨a1, c1, rfl⟩ := o1.opened
  obtain ⟨V, hV⟩ := o1
  have HO : Hid (ONV V w.heap.size w1.heap.size w1 (.slice a1 d.length c1) d.length (gn d)) := hV
  have hz1 := b1.size
  clear hV HN
  go_wp2_with fail
  go_loopw [10, 11, 12] (fun iv _ _ wr => ∃ (i : Nat), i ≤ d.length ∧ iv = .int .i64 i ∧ Below w.heap.size w wr ∧ ONV V w.heap.size wr.heap.size wr (.slice a1 d.length c1) d.length (fun j => if j < i then sbN im n (gn d j) else gn d j) ∧ Hid (∀ j, j < i → ∀ k, k < (gn d j).ag.length → sb im n (gi (gn d j).ag k) < 4)) (fun iv _ _ _ => d.length - (intOf iv).toNat)
  case atStart => exact ⟨0, Nat.zero_le _, rfl, b1, HO.out.congr (fun j _ => by simp), fun j hj => by omega⟩
  case round =>
    obtain ⟨i, hi, rfl, hb, hov, HK⟩ := hrel
    by_cases hlt : i < d.length
    · obtain ⟨g0, hg0, hBg0, -⟩ := hov.node hlt
      have hos := hov.2.2.1 i hlt
      simp only [Nat.lt_irrefl, if_false] at hos
      obtain ⟨av, g, cv, hVi, hga, -, -⟩ := hos.nodeS
      have hxl := hos.own.len
      subst hg0
      have HVI := Lib.hid hVi
      have HOV0 := Lib.hid hov
      clear hVi hos hov
      go_wp2_with fail
      go_loopw [11, 12] (fun kv _ W => ∃ (k : Nat), k ≤ (gn d i).ag.length ∧ kv = .int .i64 k ∧ Below w.heap.size w W ∧ ONV V w.heap.size W.heap.size W (.slice (some ⟨g0, 0, none⟩) d.length c1) d.length (fun j => if j < i then sbN im n (gn d j) else if j = i then ⟨(gn d i).kd, (gn d i).sy, sbP im n (gn d i).ag k⟩ else gn d j) ∧ Hid (∀ j, j < k → sb im n (gi (gn d i).ag j) < 4)) (fun kv _ _ => (gn d i).ag.length - (intOf kv).toNat)
      case atStart => exact ⟨0, Nat.zero_le _, rfl, hb, HOV0.out.congr (fun j _ => by
          by_cases e : j < i
          · simp only [if_pos e]
          · simp only [if_neg e]
            by_cases e2 : j = i
            · subst e2; simp only [if_true, sbP_zero]
            · simp only [if_neg e2]), fun j hj => by omega⟩
      case round =>
        clear hb HOV0
        obtain ⟨k, hk, rfl, hb, hov, HK2⟩ := hrel
        obtain ⟨g0', hg0', -, -, -, z2⟩ := hov.node hlt
        injection hg0' with hg0'
        injection hg0' with hg0'
        subst hg0'
        rw [HVI.out] at z2
        by_cases hltk : k < (gn d i).ag.length
        · obtain ⟨rfl, hBg⟩ := hga (by omega)
          have hos := hov.2.2.1 i hlt
          simp only [Nat.lt_irrefl, if_false, if_true] at hos
          obtain ⟨av', g', cv', hVi', hga', hcc, hfz⟩ := hos.nodeS
          rw [sbP_length] at hVi' hga' hcc hfz
          obtain ⟨rfl, -⟩ := hga' (by omega)
          have hV2 := HVI.out
          rw [hVi'] at hV2
          injection hV2 with e1 e2 e3
          injection e1 with e1
          injection e1 with e1
          subst e1 e3
          have cx := hcc k hltk
          have cf := hfz k (by omega)
          rw [gi_sbP hltk] at cx
          have hv4 := HV.out i k hlt hltk
          obtain ⟨p, hp⟩ : ∃ p : Nat, gi (gn d i).ag k = (p : Int) := ⟨(gi (gn d i).ag k).toNat, by omega⟩
          have hsb := HS.out _ hv4
          rw [hp] at cx hsb
          have HP := Lib.hid hp
          have hp4 : (p : Int) < 4 := by omega
          clear hcc hfz hVi' hga' hv4 hp hos
          by_cases hpi : (p : Int) < (im.length : Int)
          · have hX : sb im n (p : Int) = gi im p := by unfold sb; rw [if_pos hpi]; rfl
            have hpl : p < im.length := by omega
            obtain rfl := hai (by omega)
            have ci' := upc hb (HCI.out p hpl)
            rw [hX] at hsb
            have HX := Lib.hid hX
            have hput2 := hov.putA hlt HVI.out (by simp [sbP_length]) k (x := gi im p) (by constructor <;> omega)
            have HPUT2 := Lib.hid hput2
            have HBD := Lib.hid (hb.setCell (p := ⟨g', k, none⟩) (show w.heap.size ≤ g' by omega) (.int .i64 (gi im p)))
            have hsz : (wr.setCell ⟨g', k, none⟩ (.int .i64 (gi im p))).heap.size = wr.heap.size := by simp [World.setCell]
            have HSZ := Lib.hid hsz
            have HB0 := Lib.hid hb
            clear hov hput2 hsz
            by_cases hx4 : gi im p < 4
            · have hxb : decide (4 ≤ gi im p) = false := by simp; omega
              go_wp2_with fail
              go_roundw
              case rel =>
                refine ⟨k + 1, by omega, by go_num, HBD.out, ?_, fun j hj => ?_⟩
                · rw [HSZ.out]
                  refine HPUT2.out.congr (fun j _ => ?_)
                  by_cases e2 : j = i
                  · subst e2
                    rw [if_pos rfl, if_neg (by omega), if_pos rfl]
                    simp only [Nat.lt_irrefl, if_false, if_true]
                    rw [← sbP_succ hltk, HP.out, HX.out]
                  · rw [if_neg e2]
                    by_cases e : j < i
                    · rw [if_pos e, if_pos e]
                    · rw [if_neg e, if_neg e, if_neg e2, if_neg e2]
                · by_cases e : j = k
                  · subst e; rw [HP.out, HX.out]; exact hx4
                  · exact HK2.out j (by omega)
              case measure => simp [intOf]; omega
            · have hxb : decide (4 ≤ gi im p) = true := by simp; omega
              go_wp2_with fail
              go_ret2
              exact ⟨HB0.out, .inr ⟨rfl, fun hok => by
                have := hok i hlt k hltk
                rw [HP.out, HX.out] at this
                omega⟩⟩
          · have hX : sb im n (p : Int) = (p : Int) - (im.length : Int) + n := by unfold sb; rw [if_neg hpi]
            rw [hX] at hsb
            have HX := Lib.hid hX
            have hput2 := hov.putA hlt HVI.out (by simp [sbP_length]) k (x := (p : Int) - (im.length : Int) + n) (by constructor <;> omega)
            have HPUT2 := Lib.hid hput2
            have HBD := Lib.hid (hb.setCell (p := ⟨g', k, none⟩) (show w.heap.size ≤ g' by omega) (.int .i64 ((p : Int) - (im.length : Int) + n)))
            have hsz : (wr.setCell ⟨g', k, none⟩ (.int .i64 ((p : Int) - (im.length : Int) + n))).heap.size = wr.heap.size := by simp [World.setCell]
            have HSZ := Lib.hid hsz
            have HB0 := Lib.hid hb
            clear hov hput2 hsz
            by_cases hx4 : (p : Int) - (im.length : Int) + n < 4
            · have hxb : decide (4 ≤ (p : Int) - (im.length : Int) + n) = false := by simp; omega
              go_wp2_with fail
              go_roundw
              case rel =>
                refine ⟨k + 1, by omega, by go_num, HBD.out, ?_, fun j hj => ?_⟩
                · rw [HSZ.out]
                  refine HPUT2.out.congr (fun j _ => ?_)
                  by_cases e2 : j = i
                  · subst e2
                    rw [if_pos rfl, if_neg (by omega), if_pos rfl]
                    simp only [Nat.lt_irrefl, if_false, if_true]
                    rw [← sbP_succ hltk, HP.out, HX.out]
                  · rw [if_neg e2]
                    by_cases e : j < i
                    · rw [if_pos e, if_pos e]
                    · rw [if_neg e, if_neg e, if_neg e2, if_neg e2]
                · by_cases e : j = k
                  · subst e; rw [HP.out, HX.out]; exact hx4
                  · exact HK2.out j (by omega)
              case measure => simp [intOf]; omega
            · have hxb : decide (4 ≤ (p : Int) - (im.length : Int) + n) = true := by simp; omega
              go_wp2_with fail
              go_ret2
              exact ⟨HB0.out, .inr ⟨rfl, fun hok => by
                have := hok i hlt k hltk
                rw [HP.out, HX.out] at this
                omega⟩⟩
        · have hkk : k = (gn d i).ag.length := by omega
          have HKK := Lib.hid hkk
          have HOV := Lib.hid hov
          clear hov hkk
          go_wp2_with fail
          go_roundw
          case rel => exact ⟨i + 1, by omega, by go_num, hb, HOV.out.congr (fun j _ => by
              by_cases e : j < i
              · rw [if_pos e, if_pos (by omega)]
              · rw [if_neg e]
                by_cases e2 : j = i
                · subst e2; rw [if_pos rfl, if_pos (by omega), HKK.out, sbP_all]; rfl
                · rw [if_neg e2, if_neg (by omega)]), fun j hj k2 hk2 => by
              by_cases e : j = i
              · subst e; exact HK2.out k2 (by have := HKK.out; omega)
              · exact HK.out j (by omega) k2 hk2⟩
          case measure => simp [intOf]; omega
    · have hie : i = d.length := by omega
      have HIE := Lib.hid hie
      have HOV := Lib.hid hov
      clear hov hie
      go_wp2_with fail
      go_ret2
      exact ⟨hb, .inl ⟨_, rfl, fun j hj => HK.out j (by have := HIE.out; omega), (HOV.out.congr (fun j hj => by rw [if_pos (by have := HIE.out; omega), gn_map hj])).f⟩⟩
end Go.Proofs.Ytmhhgaggkgcdbaa
