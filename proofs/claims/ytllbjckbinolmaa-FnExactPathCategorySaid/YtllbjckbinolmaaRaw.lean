/-
  PathCategory: the walk of l03All of the reference.
-/
import Derived.Test.YtllbjckbinolmaaRal
namespace Go.Proofs.Ytllbjckbinolmaa
open Go.RowKit

def rx (Y : List RV) (a : Nat) : Rt := (Y.getD a dRV).1
theorem rx_lt {Y : List RV} {a : Nat} (h : a < Y.length) : rx Y a = (Y[a]).1 := by
  unfold rx; rw [List.getD_eq_getElem?_getD, List.getElem?_eq_getElem h]; rfl
/-- The first m are sorted, but for the one at k. -/
def SrtH (Y : List RV) (m k : Nat) : Prop := ∀ a b, a < b → b < m → b ≠ k → ltR (rx Y b) (rx Y a) = false
theorem SrtH.open {Y : List RV} {j : Nat} (h : SrtH Y j j) : SrtH Y (j + 1) j := fun a b hab hb hn => h a b hab (by omega) hn
theorem SrtH.shut0 {Y : List RV} {j : Nat} (h : SrtH Y (j + 1) 0) : SrtH Y (j + 1) (j + 1) := fun a b hab hb _ => h a b hab hb (by omega)
theorem SrtH.shut {Y : List RV} {j q : Nat} (h : SrtH Y (j + 1) (q + 1)) (hb : ltR (rx Y (q + 1)) (rx Y q) = false) : SrtH Y (j + 1) (j + 1) := fun a b hab hbj _ => by
  by_cases e : b = q + 1
  · subst e
    by_cases e2 : a = q
    · subst e2; exact hb
    · exact ltR_ntrans _ _ _ hb (h a q (by omega) (by omega) (by omega))
  · exact h a b hab hbj e
def swX (Y : List RV) (q : Nat) : List RV := (Y.set (q + 1) (Y.getD q dRV)).set q (Y.getD (q + 1) dRV)
theorem rx_sw {Y : List RV} {q : Nat} (hq : q + 1 < Y.length) (a : Nat) : rx (swX Y q) a = if a = q then rx Y (q + 1) else if a = q + 1 then rx Y q else rx Y a := by
  unfold rx swX
  simp only [List.getD_eq_getElem?_getD, List.getElem?_set, List.length_set]
  by_cases e : a = q
  · subst e
    simp [show a < Y.length by omega]
  · by_cases e2 : a = q + 1
    · subst e2
      simp [hq]
    · simp [e, e2, show ¬ q = a from fun h => e h.symm, show ¬ q + 1 = a from fun h => e2 h.symm]
theorem SrtH.swap {Y : List RV} {j q : Nat} (h : SrtH Y (j + 1) (q + 1)) (hq : q + 1 < Y.length) (hqj : q + 1 ≤ j) (hb : ltR (rx Y (q + 1)) (rx Y q) = true) : SrtH (swX Y q) (j + 1) q := fun a b hab hbj hn => by
  rw [rx_sw hq, rx_sw hq]
  rw [if_neg hn]
  by_cases e : b = q + 1
  · subst e
    rw [if_pos rfl]
    by_cases e2 : a = q
    · rw [if_pos e2]; exact ltR_asym _ _ hb
    · rw [if_neg e2, if_neg (by omega)]
      exact h a q (by omega) (by omega) (by omega)
  · rw [if_neg e]
    by_cases e2 : a = q
    · rw [if_pos e2]; exact h (q + 1) b (by omega) hbj e
    · rw [if_neg e2]
      by_cases e3 : a = q + 1
      · rw [if_pos e3]; exact h q b (by omega) hbj e
      · rw [if_neg e3]; exact h a b hab hbj e
theorem swX_perm {Y : List RV} {q : Nat} (hq : q + 1 < Y.length) : (swX Y q).Perm Y := by
  unfold swX
  have h1 : Y.getD q dRV = Y[q] := by rw [List.getD_eq_getElem?_getD, List.getElem?_eq_getElem (by omega)]; rfl
  have h2 : Y.getD (q + 1) dRV = Y[q + 1] := by rw [List.getD_eq_getElem?_getD, List.getElem?_eq_getElem hq]; rfl
  rw [h1, h2]
  exact List.set_set_perm hq (by omega)
theorem srtH_pw {Y : List RV} {j : Nat} (h : SrtH Y j j) (hj : Y.length ≤ j) : (Y.map (·.1)).Pairwise (fun x y => ltR y x = false) := by
  rw [List.pairwise_iff_getElem]
  intro a b ha hb hab
  simp only [List.length_map] at ha hb
  have := h a b hab (by omega) (by omega)
  rw [rx_lt ha, rx_lt hb] at this
  simpa using this
theorem within_low {B g : Nat} {w w' : World} (h : Within g (g + 1) w w') (hB : B ≤ g) (hs : B ≤ w.heap.size) : Below B w w' := ⟨h.os, h.tape, h.output, h.size, fun i hi => h.block i (by omega) (by omega)⟩
theorem ORt.at {E : TypeId} {B T g N c i : Nat} {w : World} {X : List RV} (h : ORt E B T w (.slice (some ⟨g, 0, none⟩) N c) X) (hi : i < X.length) :
    (w.cell? ⟨g, i * 3, none⟩ = some (.int .i64 (rx X i).a) ∧ w.cell? ⟨g, i * 3 + 1, none⟩ = some (.int .i64 (rx X i).b) ∧ w.cell? ⟨g, i * 3 + 2, none⟩ = some (X.getD i dRV).2) ∧ (∀ j, w.frozen? ⟨g, j, none⟩ = false) ∧ OwnT 2 B T w (X.getD i dRV).2 (rx X i).path ∧ g < w.heap.size ∧ B ≤ g := by
  have h0 := h.row
  have hN : N = X.length := by
    rcases h0.2 with ⟨e, -⟩ | ⟨g', cap, cur, e, -⟩
    · cases e
    · injection e
  subst hN
  obtain ⟨c1, c2, c3⟩ := cX_get X hi
  have hl := cX_length X
  have hg : X.getD i dRV = X[i] := by rw [List.getD_eq_getElem?_getD, List.getElem?_eq_getElem hi]; rfl
  rw [rx_lt hi, hg]
  refine ⟨⟨?_, ?_, ?_⟩, fun j => h0.frozenAt j, h.ags _ (List.getElem_mem hi), (h0.lt g rfl).2, (h0.lt g rfl).1⟩
  · rw [h0.cellAt (i * 3) (by omega)]; exact c1
  · rw [h0.cellAt (i * 3 + 1) (by omega)]; exact c2
  · rw [h0.cellAt (i * 3 + 2) (by omega)]; exact c3
theorem ORt.sw {E : TypeId} {B T g N c q : Nat} {w : World} {X : List RV} (h : ORt E B T w (.slice (some ⟨g, 0, none⟩) N c) X) (hE : 2 ≠ E) (hq : q + 1 < X.length) {p r : Rt} {up ur : Value} (hp : X.getD (q + 1) dRV = (p, up)) (hr : X.getD q dRV = (r, ur)) :
    ORt E B T ((((((w.setCell ⟨g, (q + 1) * 3, none⟩ (.int .i64 r.a)).setCell ⟨g, (q + 1) * 3 + 1, none⟩ (.int .i64 r.b)).setCell ⟨g, (q + 1) * 3 + 2, none⟩ ur).setCell ⟨g, q * 3, none⟩ (.int .i64 p.a)).setCell ⟨g, q * 3 + 1, none⟩ (.int .i64 p.b)).setCell ⟨g, q * 3 + 2, none⟩ up) (.slice (some ⟨g, 0, none⟩) N c) (swX X q) ∧
    Within g (g + 1) w ((((((w.setCell ⟨g, (q + 1) * 3, none⟩ (.int .i64 r.a)).setCell ⟨g, (q + 1) * 3 + 1, none⟩ (.int .i64 r.b)).setCell ⟨g, (q + 1) * 3 + 2, none⟩ ur).setCell ⟨g, q * 3, none⟩ (.int .i64 p.a)).setCell ⟨g, q * 3 + 1, none⟩ (.int .i64 p.b)).setCell ⟨g, q * 3 + 2, none⟩ up) := by
  have hs : ∀ (W : World) (j : Nat) (u : Value), Within g (g + 1) w W → Within g (g + 1) w (W.setCell ⟨g, j, none⟩ u) := fun W j u hW => hW.setCell (p := ⟨g, j, none⟩) (Nat.le_refl _) (Nat.lt_succ_self _) u
  have hw := hs _ (q * 3 + 2) up (hs _ (q * 3 + 1) (.int .i64 p.b) (hs _ (q * 3) (.int .i64 p.a) (hs _ ((q + 1) * 3 + 2) ur (hs _ ((q + 1) * 3 + 1) (.int .i64 r.b) (hs _ ((q + 1) * 3) (.int .i64 r.a) (Within.refl _ _ _))))))
  have hm := fun y => (swX_perm hq).mem_iff (a := y)
  have hl : (swX X q).length = X.length := (swX_perm hq).length_eq
  refine ⟨⟨?_, h.top, fun y hy => (h.ags y ((hm y).1 hy)).apart hw (fun k hk => ?_), fun y hy => h.wf y ((hm y).1 hy), h.nn⟩, hw⟩
  · rw [hl]
    unfold swX
    rw [hp, hr, cX_set _ q _ (by rw [List.length_set]; omega), cX_set _ (q + 1) _ hq]
    exact ownsRow_setC (ownsRow_setC (ownsRow_setC (ownsRow_setC (ownsRow_setC (ownsRow_setC h.row _ (by omega)) _ (by omega)) _ (by omega)) _ (by omega)) _ (by omega)) _ (by omega)
  · rcases dj_types3 hE (h.ags y ((hm y).1 hy)).own h.row with e | e
    · rw [e] at hk; cases hk
    · rw [hk] at e
      have : k ≠ g := fun q => e (by rw [q]; rfl)
      omega
/-- What l03All answers. -/
def RAP (n : Nat) (fr to : List Int) (w : World) : Ending → World → Prop := Mk w fun w' v => ∃ X, ORt 56 w.heap.size w'.heap.size w' v X ∧ (X.map (·.1)).Perm (qall n fr to) ∧ (X.map (·.1)).Pairwise (fun x y => ltR y x = false)
set_option maxRecDepth 1000000 in
set_option maxHeartbeats 3200000 in
theorem c_l03All {w : World} {vf vt : Value} {fr to : List Int} (hf : IS w vf fr) (ht : IS w vt to) (hl : to.length = fr.length) (hm : fr.length ≤ 1048576) {n : Nat} (hn : n ≤ 8) (he : ∀ j, j < fr.length → (0 ≤ gi fr j ∧ gi fr j < n) ∧ (0 ≤ gi to j ∧ gi to j < n)) :
    Calls Try.prog 32 #[.int .i64 (n : Int), vf, vt] w (RAP n fr to w) := by
  obtain ⟨af, bf, of, cf, rfl, haf, hcf⟩ := hf.ex
  obtain ⟨at_, bt, ot, ct, rfl, hat, hct⟩ := ht.ex
  rw [hl] at hct hat ⊢
  have HF := Lib.hid hcf
  have HT := Lib.hid hct
  have HAF := Lib.hid haf
  have HAT := Lib.hid hat
  have HEE := Lib.hid he
  clear hcf hct haf hat he hf ht hl
  go_enter Try.func32, Try.ntmps32
  go_wp2_with fail
  go_loopw [7, 8] (fun ov iv wr => ∃ (k : Nat) (X : List RV), k ≤ n ∧ iv = .int .i64 k ∧ Below w.heap.size w wr ∧ ORt 56 w.heap.size wr.heap.size wr ov X ∧ Hid (X.map (·.1) = ids k)) (fun _ i _ => n - (intOf i).toNat)
  case atStart => exact ⟨0, [], Nat.zero_le _, rfl, bel_box _ _, by have h0 := ORt.empty (E := 56) (Nat.le_refl w.heap.size) rfl; simpa using h0, rfl⟩
  case round =>
    obtain ⟨k, X, hk, rfl, hb, hO, HX⟩ := hrel
    by_cases hlt : k < n
    · have d1 : decide ((k : Int) < (n : Int)) = true := decide_eq_true (by omega)
      obtain ⟨g, c, rfl, hB, hT, hgw, -⟩ := hO.cells
      have hXl : X.length = k := by have := congrArg List.length HX.out; simpa [ids_len] using this
      have HXL := Lib.hid hXl
      have HO := Lib.hid hO
      have HB := Lib.hid hb
      have hwB := hb.size
      clear hO hb hXl
      have hI : I64 (k : Int) := by constructor <;> omega
      go_wp2_with (at_builtin; refine hold ?_)
      have hba := bel_next (bel_box wr (.cells #[] 2)) (bel_box (wr.alloc (.cells #[] 2)) (.cells #[.int .i64 k, .int .i64 k, .slice (some ⟨wr.heap.size, 0, none⟩) 0 0] 56))
      refine appR (P := Try.prog) (E := 56) (N := wr.heap.size) (T := (wr.alloc (.cells #[] 2)).heap.size) (m := wr.heap.size + 1) (r := ⟨k, k, []⟩) (u := .slice (some ⟨wr.heap.size, 0, none⟩) 0 0) (by decide) Try.underlying53 infoPath (by rfl) (HO.out.keptB hba) ((Own.empty' (Nat.le_refl _) rfl).ownT.keptB (bel_box _ _)) (by simp) (by simp) (by simp) ⟨hI, hI⟩ hwB (by simp; omega) (by simp) (by rw [HXL.out]; omega) (by rfl) _ _ (by rfl) (by rfl) (by rfl) ?_
      intro v' w' ho hg
      have hb2 : Below w.heap.size w w' := hg.below (bel_next HB.out hba) (by simp; omega) (fun q hq => (HO.out.lt q hq).1)
      have HO2 := Lib.hid ho
      have HB2 := Lib.hid hb2
      clear ho hg hb2 hba
      go_wp2_with fail
      go_roundw
      case rel => exact ⟨k + 1, X ++ [(⟨k, k, []⟩, _)], by omega, by go_num, HB2.out, HO2.out, by unfold Hid; rw [List.map_append, HX.out]; rfl⟩
      case measure => simp [intOf]; omega
    · have d1 : decide ((k : Int) < (n : Int)) = false := decide_eq_false (by omega)
      obtain rfl : k = n := by omega
      obtain ⟨g, c, rfl, hB, hT, hgw, -⟩ := hO.cells
      have hXl : X.length = k := by have := congrArg List.length HX.out; simpa [ids_len] using this
      have HXL := Lib.hid hXl
      have HO := Lib.hid hO
      have HB := Lib.hid hb
      clear hO hb hXl hB hT hgw
      go_wp2_with fail
      go_loopw [7, 9] (fun ov iv wr => ∃ (i : Nat) (X : List RV) (Q : List Rt), i ≤ X.length ∧ i ≤ 41 ∧ X.length ≤ 1048616 ∧ iv = .int .i64 i ∧ Below w.heap.size w wr ∧ ORt 56 w.heap.size wr.heap.size wr ov X ∧ Hid (X.map (·.1) = Q) ∧ Hid (qall k fr to = bfs fr to (41 - i) Q i) ∧ Hid (EndOk k Q)) (fun _ i _ => 41 - (intOf i).toNat)
      case atStart => exact ⟨0, X, ids k, Nat.zero_le _, Nat.zero_le _, by rw [HXL.out]; omega, rfl, HB.out, HO.out, HX, rfl, ids_ok (Nat.le_refl _)⟩
      case round =>
        clear HO HB HX HXL
        obtain ⟨i, X, Q, hiX, hi41, hXb, rfl, hb, hO, HX, HQ, HEK⟩ := hrel
        have hQl : Q.length = X.length := by rw [← HX.out, List.length_map]
        have HQL := Lib.hid hQl
        clear hQl
        by_cases hli : i < X.length ∧ X.length ≤ 40
        · obtain ⟨hli, hX40⟩ := hli
          have d2 : decide ((i : Int) < (X.length : Int)) = true := decide_eq_true (by omega)
          have d22 : decide ((X.length : Int) ≤ 40) = true := decide_eq_true (by omega)
          have HGO := Lib.hid (HQ.out.trans (bfs_go (by rw [HQL.out]; exact hli) (by rw [HQL.out]; exact hX40) (by omega) rfl))
          have HRE : Hid (rt Q i ∈ Q) := by unfold Hid; rw [rt_lt (by rw [HQL.out]; exact hli)]; exact List.getElem_mem _
          have hre := HEK.out.ends _ HRE.out
          have hrl : (rt Q i).path.length ≤ i := by rw [rt_lt (by rw [HQL.out]; exact hli)]; exact HEK.out.len i _
          obtain ⟨r, hr⟩ : ∃ r, r = rt Q i := ⟨_, rfl⟩
          rw [← hr] at HGO hre hrl
          have HR := Lib.hid hr
          obtain ⟨⟨ra0, ra1⟩, rb0, rb1⟩ := hre
          clear hr HRE
          obtain ⟨g, c, rfl, hB, hT, hgw, -⟩ := hO.cells
          have HO := Lib.hid hO
          have HB := Lib.hid hb
          clear hO hb hB hT hgw
          go_wp2_with fail
          go_loopw [7, 10] (fun ov iv wr => ∃ (e : Nat) (Y : List RV), e ≤ fr.length ∧ i < Y.length ∧ Y.length ≤ 40 + e ∧ iv = .int .i64 e ∧ Below w.heap.size w wr ∧ ORt 56 w.heap.size wr.heap.size wr ov Y ∧ Hid (Y.map (·.1) = Q ++ chl fr to r e) ∧ Hid (EndOk k (Q ++ chl fr to r e))) (fun _ i _ => fr.length - (intOf i).toNat)
          case atStart => exact ⟨0, X, Nat.zero_le _, hli, hX40, rfl, HB.out, HO.out, by unfold Hid; rw [HX.out]; simp [chl], by unfold Hid; simpa [chl] using HEK.out⟩
          case round =>
            clear HO HB
            obtain ⟨e, Y, hle, hiY, hY40, rfl, hb, hO, HY, HEY⟩ := hrel
            obtain ⟨g, c, rfl, hB, hT, hgw, hcl⟩ := hO.cells
            by_cases hlt2 : e < fr.length
            · have d3 : decide ((e : Int) < (fr.length : Int)) = true := decide_eq_true (by omega)
              obtain ⟨⟨hu0, hu1⟩, hv0, hv1⟩ := HEE.out e hlt2
              obtain rfl := HAF.out (by omega)
              obtain rfl := HAT.out (by omega)
              have hYi : (Y[i]).1 = r := by
                have h1 : (Y.map (·.1))[i]? = some (Y[i]).1 := by rw [List.getElem?_map, List.getElem?_eq_getElem hiY]; rfl
                rw [HY.out, List.getElem?_append_left (by rw [HQL.out]; exact hli), List.getElem?_eq_getElem (by rw [HQL.out]; exact hli)] at h1
                injection h1 with h1
                rw [← h1, HR.out, rt_lt]
              obtain ⟨c0, c1, c2⟩ := hcl i hiY
              rw [hYi] at c0 c1
              have hag := hO.ags _ (List.getElem_mem hiY)
              rw [hYi] at hag
              obtain ⟨u, hu⟩ : ∃ u, u = (Y[i]).2 := ⟨_, rfl⟩
              rw [← hu] at hag c2
              have cf : wr.cell? ⟨bf, of + e, none⟩ = some (.int .i64 (gi fr e)) := upc hb (HF.out e hlt2)
              have ct : wr.cell? ⟨bt, ot + e, none⟩ = some (.int .i64 (gi to e)) := upc hb (HT.out e hlt2)
              have HO := Lib.hid hO
              have HB := Lib.hid hb
              have HAG := Lib.hid hag
              have bfl := World.block_lt_of_cell? _ _ (HF.out e hlt2)
              have btl := World.block_lt_of_cell? _ _ (HT.out e hlt2)
              clear hO hb hu hYi hcl hag
              by_cases hm2 : gi fr e = r.b
              · have db : (gi fr e == r.b) = true := by simp [hm2]
                have HM := Lib.hid hm2
                clear hm2
                go_wp2_with fail
                go_quiet (fail)
                have dq : Drawn wr (wr.drewN nq) := ⟨nq, rfl⟩
                have hO2 := HO.out.drawn dq
                have hB2 := HB.out.trans (dq.below _)
                have hA2 := HAG.out.keptB (dq.below _)
                have hz : (wr.drewN nq).heap.size = wr.heap.size := by simp
                replace c0 := upc (dq.below _) c0
                replace c2 := upc (dq.below _) c2
                replace ct := upc (dq.below _) ct
                rw [← hz] at hO2 hA2 hgw hT
                clear HO HB HAG dq c1 cf db hz
                generalize wr.drewN nq = W at *
                have HS := Lib.hid (chl_succ (fr := fr) (to := to) (r := r) (m := e))
                rw [if_pos HM.out] at HS
                have hYlen : Y.length = Q.length + (chl fr to r e).length := by
                  have := congrArg List.length HY.out
                  simpa using this
                have HYL := Lib.hid hYlen
                clear hYlen
                have hE : (2 : TypeId) ≠ 56 := by decide
                have hug : ∀ q, u.ownBlock = some q → q < g ∨ g + 1 ≤ q := fun q hq => by
                  rcases dj_types3 hE hA2.own hO2.row with e | e
                  · rw [e] at hq; cases hq
                  · have : q ≠ g := fun z => e (by rw [hq, z]; rfl)
                    omega
                have hclo := fun W' (hW : Within g (g + 1) W W') => c_l01Own (hA2.apart hW hug).is
                obtain ⟨au, cu, rfl⟩ := hA2.shape
                have HCL := Lib.hid hclo
                have HO := Lib.hid hO2
                have HB := Lib.hid hB2
                have hpl := hA2.size
                have hpl2 : r.path.length < 4294967296 := by omega
                have hIe : I64 (e : Int) := by constructor <;> omega
                have hIr : I64 r.a ∧ I64 (gi to e) := ⟨by constructor <;> omega, by constructor <;> omega⟩
                have hwW := hB2.size
                have hpg : (⟨bt, ot + e, none⟩ : Addr).block ≠ g := by show bt ≠ g; omega
                have hpW : (⟨bt, ot + e, none⟩ : Addr).block < W.heap.size := by show bt < _; omega
                have K0 : KR W g i ⟨bt, ot + e, none⟩ (.int .i64 r.a) (.int .i64 (gi to e)) (.slice au r.path.length cu) W := ⟨Within.refl _ _ _, c0, ct, c2⟩
                have K1 := K0.drew.all
                clear hO2 hB2 hA2 hclo hug c0 c2 ct
                go_wp2_with fail
                go_region_held3 (fun w' => KR W g i ⟨bt, ot + e, none⟩ (.int .i64 r.a) (.int .i64 (gi to e)) (.slice au r.path.length cu) w' ∧ w'.cell? ⟨g, i * 3, none⟩ = some (.int .i64 r.a) ∧ w'.cell? ⟨bt, ot + e, none⟩ = some (.int .i64 (gi to e)) ∧ w'.cell? ⟨g, i * 3 + 2, none⟩ = some (.slice au r.path.length cu))
                  (first | with_reducible exact K1 | with_reducible exact ((K0.alloc _).drew).all | (with_reducible refine (KR.call ?_ b9).all; with_reducible exact And.left (by assumption)) | (with_reducible refine (KR.alloc ?_ _).all; with_reducible exact And.left (by assumption)) | (with_reducible refine (KR.grew ?_ g10 hv10 hgw hpW).all; with_reducible exact And.left (by assumption)) | (with_reducible refine (KR.app ?_ g4 k4 hiY rfl hpg).all; with_reducible exact And.left (by assumption)))
                  (first | (go_at_call 33; (with_reducible refine (HCL.out _ (KR.wi (And.left (by assumption)))).mono ?_); rintro e w9 ⟨u9, rfl, o9, b9⟩; obtain ⟨au9, cu9, rfl⟩ := o9.own.shape) | (refine stepApp1 (B := W.heap.size) (n := w9.heap.size) (xs := r.path) (x := (e : Int)) ((o9.mono (B' := W.heap.size) ?_ (Nat.le_refl _)).own.kept (bel_box _ _)) hIe ?_ hpl2 ?_ Try.underlying22 infoInt64 ?_ (.tmp 69) (.tmp 71) ?_ ?_ ?_ ?_; (· simp); (· simp); (· have := b9.size; simp at this ⊢; omega); (· rfl); (· rfl); (· rfl); (· rfl); intro v10 w10 o10 g10; have hv10 := fun k (hk : (Value.slice au9 r.path.length cu9).ownBlock = some k) => Nat.le_trans (show W.heap.size ≤ W.drew.heap.size by simp) (o9.lt k hk).1; obtain ⟨av10, cv10, rfl⟩ := o10.shape) | (refine stepApp1 (B := W.heap.size) (n := W.heap.size) (xs := r.path) (x := (e : Int)) ((o9.mono (B' := W.heap.size) ?_ (Nat.le_refl _)).own) hIe ?_ hpl2 ?_ Try.underlying22 infoInt64 ?_ (.tmp 69) (.tmp 71) ?_ ?_ ?_ ?_; (· simp); (· exact upc b9 (by simp)); (· have := b9.size; simp at this ⊢; omega); (· rfl); (· rfl); (· rfl); (· rfl); intro v10 w10 o10 g10; have hv10 := fun k (hk : (Value.slice au9 r.path.length cu9).ownBlock = some k) => Nat.le_trans (show W.heap.size ≤ ((W.alloc (.cells #[.int .i64 (e : Int)] 2)).drew).heap.size by simp) (o9.lt k hk).1; obtain ⟨av10, cv10, rfl⟩ := o10.shape) | (refine stepAppR (P := Try.prog) (N := W.heap.size) (T := w10.heap.size) (m := w10.heap.size) (X := Y) (r := ⟨r.a, gi to e, r.path ++ [(e : Int)]⟩) hE Try.underlying53 infoPath (by rfl) (((((HO.out.drawn (Drawn.one (Drawn.refl W))).keptB b9).keptB (bel_box _ _)).young g10 ?_ hv10).keptB (bel_box _ _)) (o10.ownT.keptB (bel_box _ _)) ?_ ?_ ?_ hIr hwW ?_ ?_ ?_ ?_ (.tmp 54) (.tmp 74) ?_ ?_ ?_ ?_; (· have := b9.size; simp at this ⊢; omega); (· simp); (· simp); (· simp); (· have h1 := b9.size; have h2 := g10.grown.size; simp at h1 h2 ⊢; omega); (· simp); (· omega); (· rfl); (· rfl); (· rfl); (· rfl); intro v4 w4 ho4 g4 k4) | (refine stepAppR (P := Try.prog) (N := W.heap.size) (T := w10.heap.size) (m := w10.heap.size) (X := Y) (r := ⟨r.a, gi to e, r.path ++ [(e : Int)]⟩) hE Try.underlying53 infoPath (by rfl) (((((HO.out.keptB (bel_box _ _)).drawn (Drawn.one (Drawn.refl _))).keptB b9).young g10 ?_ hv10).keptB (bel_box _ _)) (o10.ownT.keptB (bel_box _ _)) ?_ ?_ ?_ hIr hwW ?_ ?_ ?_ ?_ (.tmp 54) (.tmp 74) ?_ ?_ ?_ ?_; (· have := b9.size; simp at this ⊢; omega); (· simp); (· simp); (· simp); (· have h1 := b9.size; have h2 := g10.grown.size; simp at h1 h2 ⊢; omega); (· simp); (· omega); (· rfl); (· rfl); (· rfl); (· rfl); intro v4 w4 ho4 g4 k4))
                all_goals (
                  have KE := ‹KR _ _ _ _ _ _ _ w4 ∧ _›.1
                  have HO4 := Lib.hid ho4
                  have HB4 : Hid (Below w.heap.size w w4) := HB.out.trans ⟨KE.wi.os, KE.wi.tape, KE.wi.output, KE.wi.size, fun q hq => KE.wi.block q (by omega) (by omega)⟩
                  have HE4 : Hid (EndOk k (Q ++ chl fr to r (e + 1))) := by
                    unfold Hid
                    rw [HS.out, ← List.append_assoc]
                    refine endOk_snoc HEY.out ⟨⟨ra0, ra1⟩, hv0, hv1⟩ ?_
                    have h1 := HQL.out
                    simp only [List.length_append, List.length_singleton]
                    omega
                  clear ho4 g4 k4 hv10 g10 o10 o9 b9 K0 K1 KE hpl
                  go_wp2_with fail
                  go_roundw
                  case rel => exact ⟨e + 1, Y ++ [(⟨r.a, gi to e, r.path ++ [(e : Int)]⟩, _)], by omega, by simp; omega, by simp; omega, by go_num, HB4.out, HO4.out, by unfold Hid; rw [List.map_append, HY.out, HS.out, List.append_assoc]; rfl, HE4⟩
                  case measure => simp [intOf]; omega)
              · have db : (gi fr e == r.b) = false := by simp [hm2]
                have HM := Lib.hid hm2
                clear hm2
                go_wp2_with fail
                go_quiet (fail)
                have dq : Drawn wr (wr.drewN nq) := ⟨nq, rfl⟩
                have HO2 := Lib.hid (HO.out.drawn dq)
                have HB2 := Lib.hid (HB.out.trans (dq.below _))
                have HS := Lib.hid (chl_succ (fr := fr) (to := to) (r := r) (m := e))
                rw [if_neg HM.out] at HS
                clear c0 c1 c2 cf ct dq
                go_wp2_with fail
                go_roundw
                case rel => exact ⟨e + 1, Y, by omega, hiY, by omega, by go_num, HB2.out, HO2.out, by unfold Hid; rw [HY.out, HS.out], by unfold Hid; rw [HS.out]; exact HEY.out⟩
                case measure => simp [intOf]; omega
            · have d3 : decide ((e : Int) < (fr.length : Int)) = false := decide_eq_false (by omega)
              obtain rfl : e = fr.length := by omega
              have HO := Lib.hid hO
              have HB := Lib.hid hb
              clear hO hb hcl
              go_wp2_with fail
              go_roundw
              case rel => exact ⟨i + 1, Y, _, by omega, by omega, by omega, by go_num, HB.out, HO.out, HY, HGO, HEY⟩
              case measure => simp [intOf]; omega
        · have HST : Hid (qall k fr to = Q) := by
            unfold Hid
            rw [HQ.out]
            exact bfs_stop (by rw [HQL.out]; exact hli) _
          have hXN : Q.length = X.length := HQL.out
          obtain ⟨N, hN⟩ : ∃ N, N = X.length := ⟨_, rfl⟩
          obtain ⟨g, c, rfl, hB, hT, hgw, -⟩ := hO.cells
          rw [← hN] at hO hXb hiX
          have HN := Lib.hid hN
          have HO := Lib.hid hO
          have HB := Lib.hid hb
          have hcase : N ≤ i ∨ (i < N ∧ 40 < N) := by
            by_cases h3 : i < X.length
            · exact .inr ⟨by omega, by omega⟩
            · exact .inl (by omega)
          rw [← hN]
          clear hO hb hN hB hT hgw hli hXN
          rcases hcase with h3 | ⟨h3, h4⟩
          all_goals (
            go_wp2_with fail
            go_loopw [11] (fun iv wr => ∃ (j : Nat) (Y : List RV), 1 ≤ j ∧ (j ≤ N ∨ j = 1) ∧ iv = .int .i64 j ∧ Below w.heap.size w wr ∧ Hid (ORt 56 w.heap.size wr.heap.size wr (.slice (some ⟨g, 0, none⟩) N c) Y) ∧ Hid (Y.Perm X) ∧ Hid (SrtH Y j j)) (fun i _ => N - (intOf i).toNat)
            case atStart => exact ⟨1, X, Nat.le_refl _, .inr rfl, rfl, HB.out, HO.out, List.Perm.refl _, fun a b hab hb _ => by omega⟩
            case round =>
              clear HO HB
              obtain ⟨j, Y, hj1, hjN, rfl, hb, HO, HP, HS⟩ := hrel
              have hYN : Y.length = N := by rw [HP.out.length_eq, HN.out]
              have HYN := Lib.hid hYN
              clear hYN
              by_cases hlj : j < N
              · have d3 : decide ((j : Int) < (N : Int)) = true := decide_eq_true (by omega)
                have HB := Lib.hid hb
                clear hb
                go_wp2_with fail
                go_loopw [12] (fun iv wr => ∃ (q : Nat) (Z : List RV), q ≤ j ∧ iv = .int .i64 q ∧ Below w.heap.size w wr ∧ Hid (ORt 56 w.heap.size wr.heap.size wr (.slice (some ⟨g, 0, none⟩) N c) Z) ∧ Hid (Z.Perm X) ∧ Hid (SrtH Z (j + 1) q)) (fun iv _ => (intOf iv).toNat)
                case atStart => exact ⟨j, Y, Nat.le_refl _, rfl, HB.out, HO, HP, HS.out.open⟩
                case round =>
                  clear HB HO HP HS HYN
                  obtain ⟨q, Z, hqj, rfl, hb, HO, HP, HS⟩ := hrel
                  have HZN : Hid (Z.length = N) := by unfold Hid; rw [HP.out.length_eq, HN.out]
                  have HB := Lib.hid hb
                  clear hb
                  cases q with
                  | zero =>
                    go_wp2_with fail
                    go_quiet (fail)
                    have dq : Drawn wr (wr.drewN nq) := ⟨nq, rfl⟩
                    have HO2 := Lib.hid (HO.out.drawn dq)
                    have HB2 := Lib.hid (HB.out.trans (dq.below _))
                    clear dq
                    go_wp2_with fail
                    go_roundw
                    case rel => exact ⟨j + 1, Z, by omega, .inl (by omega), by go_num, HB2.out, HO2, HP, HS.out.shut0⟩
                    case measure => simp [intOf]; omega
                  | succ q =>
                    have hqN : q + 1 < Z.length := by rw [HZN.out]; omega
                    have i0 : (0 : Int) ≤ (q : Int) := by omega
                    have i4 : (0 : Int) ≤ (q : Int) + 1 := by omega
                    have i1 : (q : Int) + 1 < (N : Int) := by omega
                    have i2 : (q : Int) < (N : Int) := by omega
                    have i3 : (0 : Int) < (q : Int) + 1 := by omega
                    have iw : IntKind.i64.wrap (q : Int) = (q : Int) := IntWalk.i64_in _ (by omega)
                    rw [show ((q + 1 : Nat) : Int) = (q : Int) + 1 by omega]
                    obtain ⟨⟨c1, c2, c3⟩, fz, o1, hgw, hBg⟩ := HO.out.at hqN
                    obtain ⟨⟨d1, d2, d4⟩, -, o2, -, -⟩ := HO.out.at (i := q) (by omega)
                    obtain ⟨a1, k1, e1⟩ := o1.shape
                    obtain ⟨a2, k2, e2⟩ := o2.shape
                    rw [e1] at c3 o1
                    rw [e2] at d4 o2
                    obtain ⟨b, hbb⟩ : ∃ b, b = ltR (rx Z (q + 1)) (rx Z q) := ⟨_, rfl⟩
                    have hbf := fun W (hW : Below wr.heap.size wr W) => c_l03Before (o1.keptB hW).is (o2.keptB hW).is
                    rw [← hbb] at hbf
                    have HBF := Lib.hid hbf
                    have HBB := Lib.hid hbb
                    have HE := Lib.hid (And.intro e1 e2)
                    clear hbf hbb e1 e2 o1 o2 hqN
                    obtain ⟨p, hp⟩ : ∃ p, p = rx Z (q + 1) := ⟨_, rfl⟩
                    obtain ⟨r, hr⟩ : ∃ r, r = rx Z q := ⟨_, rfl⟩
                    rw [← hp] at c1 c2 c3 HBF HBB HE
                    rw [← hr] at d1 d2 d4 HBF HBB HE
                    have HPR := Lib.hid (And.intro hp hr)
                    clear hp hr
                    cases b with
                    | true =>
                      go_wp2_with fail
                      refine wp_region_qb (by kernel_rfl) (by kernel_rfl) ?_
                      repeat (refine qw_step (fun K hK => ?_); first | (refine qb_no rfl ?_; (try simp only [Act.put, List.setIfInBounds_toArray, List.set_cons_zero, List.set_cons_succ]); refine hK _ ?_; clear hK K) | (refine qb_yes rfl ?_; apply Exists.intro; refine ⟨fun w' hC => ?_, ?_⟩; (· (have x0 := up_cell hC c1; have x1 := up_cell hC c2; have x2 := up_cell hC c3; have x3 := up_cell hC d1; have x4 := up_cell hC d2; have x5 := up_cell hC d4; (try go_simp); (first | done | (go_at_call 39; with_reducible exact calls_qb hC (HBF.out _ hC)) | with_reducible rfl | exact rfl))); (try simp only [Act.put, List.setIfInBounds_toArray, List.set_cons_zero, List.set_cons_succ]); refine hK _ ?_; clear hK K))
                      refine qw_nil ?_
                      intro wq hbq
                      have HO2 := Lib.hid (HO.out.keptB hbq)
                      have HB2 := Lib.hid (bel_next HB.out hbq)
                      replace c1 := upc hbq c1
                      replace c2 := upc hbq c2
                      replace c3 := upc hbq c3
                      replace d1 := upc hbq d1
                      replace d2 := upc hbq d2
                      replace d4 := upc hbq d4
                      have hgq : g < wq.heap.size := Nat.lt_of_lt_of_le hgw hbq.size
                      have hgn : g ≠ wq.heap.size := by omega
                      have hzz := hbq.size
                      have fz2 : ∀ j, wq.frozen? ⟨g, j, none⟩ = false := (HO2.out.at (i := q) (by rw [HZN.out]; omega)).2.1
                      have hq1 : q + 1 < Z.length := by rw [HZN.out]; omega
                      have HSW := Lib.hid (HO2.out.sw (by decide) hq1 (p := p) (r := r) (up := .slice a1 p.path.length k1) (ur := .slice a2 r.path.length k2) (Prod.ext HPR.out.1.symm HE.out.1) (Prod.ext HPR.out.2.symm HE.out.2))
                      have HS2 := Lib.hid (HS.out.swap hq1 (by omega) (by rw [← HPR.out.1, ← HPR.out.2]; exact HBB.out.symm))
                      have HP2 : Hid ((swX Z q).Perm X) := (swX_perm hq1).trans HP.out
                      clear fz HO HB hbq HBF HO2 hq1
                      go_wp2_with fail
                      go_roundw
                      case rel => exact ⟨q, swX Z q, by omega, rfl, HB2.out.trans (within_low (within_bel HSW.out.2 (bel_box _ _)) hBg HB2.out.size), ((HSW.out.1.keptB (bel_box _ _)).mono (Nat.le_refl _) (by simp [World.setCell]; omega)), HP2, HS2⟩
                      case measure => simp [intOf]
                    | false =>
                      go_wp2_with fail
                      refine wp_region_qb (by kernel_rfl) (by kernel_rfl) ?_
                      repeat (refine qw_step (fun K hK => ?_); first | (refine qb_no rfl ?_; (try simp only [Act.put, List.setIfInBounds_toArray, List.set_cons_zero, List.set_cons_succ]); refine hK _ ?_; clear hK K) | (refine qb_yes rfl ?_; apply Exists.intro; refine ⟨fun w' hC => ?_, ?_⟩; (· (have x0 := up_cell hC c1; have x1 := up_cell hC c2; have x2 := up_cell hC c3; have x3 := up_cell hC d1; have x4 := up_cell hC d2; have x5 := up_cell hC d4; (try go_simp); (first | done | (go_at_call 39; with_reducible exact calls_qb hC (HBF.out _ hC)) | with_reducible rfl | exact rfl))); (try simp only [Act.put, List.setIfInBounds_toArray, List.set_cons_zero, List.set_cons_succ]); refine hK _ ?_; clear hK K))
                      refine qw_nil ?_
                      intro wq hbq
                      have HO2 : Hid (ORt 56 w.heap.size wq.heap.size wq (.slice (some ⟨g, 0, none⟩) N c) Z) := (HO.out.keptB hbq).mono (Nat.le_refl _) hbq.size
                      have HB2 := Lib.hid (bel_next HB.out hbq)
                      have HS2 : Hid (SrtH Z (j + 1) (j + 1)) := by
                        refine HS.out.shut ?_
                        rw [← HPR.out.1, ← HPR.out.2]
                        exact HBB.out.symm
                      clear c1 c2 c3 d1 d2 d4 HO HB hbq HBF fz
                      go_wp2_with fail
                      go_roundw
                      case rel => exact ⟨j + 1, Z, by omega, .inl (by omega), by go_num, HB2.out, HO2, HP, HS2⟩
                      case measure => simp [intOf]; omega
              · have HPW : Hid ((Y.map (·.1)).Pairwise (fun x y => ltR y x = false)) := by
                  refine srtH_pw HS.out ?_
                  rw [HYN.out]; omega
                have HB := Lib.hid hb
                have HQP : Hid ((Y.map (·.1)).Perm (qall k fr to)) := by
                  unfold Hid
                  rw [HST.out, ← HX.out]
                  exact HP.out.map _
                clear hb
                go_wp2_with fail
                go_ret
                exact ⟨_, rfl, ⟨Y, HO.out, HQP.out, HPW.out⟩, HB.out⟩)
end Go.Proofs.Ytllbjckbinolmaa
