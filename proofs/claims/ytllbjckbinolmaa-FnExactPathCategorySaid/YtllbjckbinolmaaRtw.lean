/-
  PathCategory: routes of the program.
-/
import Derived.Test.YtllbjckbinolmaaSrt
import Derived.Deep.RegionHeld3
namespace Go.Proofs.Ytllbjckbinolmaa
open Go.RowKit

theorem Grew.cellR {w w' : World} {v v' : Value} (h : Grew w w' v v') {p : Addr} {x : Value} (hc : w.cell? p = some x) (hp : ∀ k, v.ownBlock = some k → k ≠ p.block) : w'.cell? p = some x := by
  have hlt := World.block_lt_of_cell? w p hc
  have e := h.grown.block p.block hlt (fun e => hp p.block e.symm rfl)
  rw [← hc]
  simp only [World.cell?, e]
theorem ORt.young {E : TypeId} {B T : Nat} {w w' : World} {v u u' : Value} {X : List RV} (h : ORt E B T w v X) (hg : Grew w w' u u') (hT : T ≤ w.heap.size) (hu : ∀ k, u.ownBlock = some k → T ≤ k) : ORt E B T w' v X :=
  h.kept (B' := T) (T' := w'.heap.size) ⟨hg.grown.os, hg.grown.tape, hg.grown.output, hg.grown.size, fun i hi hs => hg.grown.block i hs (fun e => by have := hu i e.symm; have := hg.grown.size; omega)⟩ (.inl (Nat.le_refl _))
/-- What a region that copies a route holds on to: two cells of row i of the list in block g, a cell elsewhere. -/
structure KR (W : World) (g i : Nat) (p : Addr) (a b c : Value) (w' : World) : Prop where
  wi : Within g (g + 1) W w'
  c0 : w'.cell? ⟨g, i * 3, none⟩ = some a
  c1 : w'.cell? p = some b
  c2 : w'.cell? ⟨g, i * 3 + 2, none⟩ = some c
section
variable {W w' w'' : World} {g i : Nat} {p : Addr} {a b c : Value}
theorem KR.all (h : KR W g i p a b c w') : KR W g i p a b c w' ∧ w'.cell? ⟨g, i * 3, none⟩ = some a ∧ w'.cell? p = some b ∧ w'.cell? ⟨g, i * 3 + 2, none⟩ = some c := ⟨h, h.c0, h.c1, h.c2⟩
theorem KR.call (h : KR W g i p a b c w') (hb : Below w'.heap.size w' w'') : KR W g i p a b c w'' := ⟨within_bel h.wi hb, upc hb h.c0, upc hb h.c1, upc hb h.c2⟩
theorem KR.alloc (h : KR W g i p a b c w') (o : Obj) : KR W g i p a b c (w'.alloc o) := h.call (bel_alloc (Below.refl _ _) o)
theorem KR.drew (h : KR W g i p a b c w') : KR W g i p a b c w'.drew := h.call (Drawn.below (Drawn.one (Drawn.refl w')) _)
/-- An append to a slice of ints, younger than all. -/
theorem KR.grew (h : KR W g i p a b c w') {v v' : Value} (hg : Grew w' w'' v v') (hv : ∀ k, v.ownBlock = some k → W.heap.size ≤ k) (hgW : g < W.heap.size) (hpW : p.block < W.heap.size) : KR W g i p a b c w'' :=
  ⟨⟨hg.grown.os.trans h.wi.os, hg.grown.tape.trans h.wi.tape, hg.grown.output.trans h.wi.output, Nat.le_trans h.wi.size hg.grown.size, fun q hq hs => (hg.grown.block q (Nat.lt_of_lt_of_le hs h.wi.size) (fun e => by have := hv q e.symm; omega)).trans (h.wi.block q hq hs)⟩,
    hg.cellR h.c0 (fun k hk => by have := hv k hk; show k ≠ g; omega), hg.cellR h.c1 (fun k hk => by have := hv k hk; omega), hg.cellR h.c2 (fun k hk => by have := hv k hk; show k ≠ g; omega)⟩
/-- The append to the list itself. -/
theorem KR.app (h : KR W g i p a b c w') {v v' : Value} {m : Nat} (hg : Grew w' w'' v v') (hk : ∀ g j x, v.ownBlock = some g → j < m * 3 → w'.cell? ⟨g, j, none⟩ = some x → w''.cell? ⟨g, j, none⟩ = some x) (hi : i < m) (hv : v.ownBlock = some g) (hp : p.block ≠ g) : KR W g i p a b c w'' :=
  ⟨⟨hg.grown.os.trans h.wi.os, hg.grown.tape.trans h.wi.tape, hg.grown.output.trans h.wi.output, Nat.le_trans h.wi.size hg.grown.size, fun q hq hs => (hg.grown.block q (Nat.lt_of_lt_of_le hs h.wi.size) (fun e => by rw [hv] at e; injection e with e; omega)).trans (h.wi.block q hq hs)⟩,
    hk g _ _ hv (by omega) h.c0, hg.cellR h.c1 (fun k hk => by rw [hv] at hk; injection hk with hk; subst hk; exact fun e => hp e.symm), hk g _ _ hv (by omega) h.c2⟩
end
/-- Pointwise facts of the queue. -/
theorem chl_succ {fr to : List Int} {r : Rt} {m : Nat} : chl fr to r (m + 1) = if gi fr m = r.b then chl fr to r m ++ [⟨r.a, gi to m, r.path ++ [(m : Int)]⟩] else chl fr to r m := rfl
theorem chl_le {fr to : List Int} {r : Rt} : ∀ {m k : Nat}, k ≤ m → (chl fr to r k).length ≤ (chl fr to r m).length
  | 0, k, h => by obtain rfl : k = 0 := by omega
                  exact Nat.le_refl _
  | m + 1, k, h => by
    by_cases e : k = m + 1
    · rw [e]; exact Nat.le_refl _
    · refine Nat.le_trans (chl_le (m := m) (by omega)) ?_
      rw [chl_succ]
      split
      · rw [List.length_append]; exact Nat.le_add_right _ _
      · exact Nat.le_refl _
theorem bfs_go {fr to : List Int} {f i : Nat} {Q : List Rt} (hi : i < Q.length) (hQ : Q.length ≤ 40) (hf : i ≤ 40) (e : f = 41 - i) : bfs fr to f Q i = bfs fr to (41 - (i + 1)) (Q ++ chl fr to (rt Q i) fr.length) (i + 1) := by
  rw [e, show 41 - i = (41 - (i + 1)) + 1 by omega, bfs, if_pos ⟨hi, hQ⟩]
/-- The routes' ends lie among the n objects; a route is no longer than its place. -/
structure EndOk (n : Nat) (Q : List Rt) : Prop where
  ends : ∀ r ∈ Q, (0 ≤ r.a ∧ r.a < n) ∧ (0 ≤ r.b ∧ r.b < n)
  len : ∀ (j : Nat) (hj : j < Q.length), (Q[j]).path.length ≤ j
theorem endOk_snoc {n : Nat} {Q : List Rt} {r : Rt} (h : EndOk n Q) (hr : (0 ≤ r.a ∧ r.a < n) ∧ (0 ≤ r.b ∧ r.b < n)) (hl : r.path.length ≤ Q.length) : EndOk n (Q ++ [r]) := by
  refine ⟨fun x hx => ?_, fun j hj => ?_⟩
  · rcases List.mem_append.1 hx with hx | hx
    · exact h.ends x hx
    · simp at hx; subst hx; exact hr
  · by_cases e : j < Q.length
    · rw [List.getElem_append_left e]; exact h.len j e
    · simp only [List.length_append, List.length_singleton] at hj
      have : j = Q.length := by omega
      subst this
      simpa using hl
theorem ids_ok : ∀ {k n : Nat}, k ≤ n → EndOk n (ids k)
  | 0, n, _ => ⟨(fun r hr => by cases hr), fun j hj => by simp [ids] at hj⟩
  | k + 1, n, h => endOk_snoc (ids_ok (by omega)) (by simp only; omega) (Nat.zero_le _)
theorem rt_lt {Q : List Rt} {i : Nat} (h : i < Q.length) : rt Q i = Q[i] := by
  unfold rt; rw [List.getD_eq_getElem?_getD, List.getElem?_eq_getElem h]; rfl
/-- The routes of the graph, in the queue's order. -/
def qall (n : Nat) (fr to : List Int) : List Rt := bfs fr to 41 (ids n) 0
/-- What routes answers. -/
def RTP (n : Nat) (fr to : List Int) (w : World) : Ending → World → Prop := fun e w' => Below w.heap.size w w' ∧
  if (qall n fr to).length ≤ 40 then ∃ v X, e = .returned (.tuple #[v, .bool true]) ∧ ORt 45 w.heap.size w'.heap.size w' v X ∧ (X.map (·.1)).Perm (qall n fr to) ∧ (X.map (·.1)).Pairwise (fun x y => ltR y x = false)
  else e = .returned (.tuple #[.slice none 0 0, .bool false])
set_option maxRecDepth 1000000 in
set_option maxHeartbeats 3200000 in
theorem c_routes {w : World} {vf vt : Value} {fr to : List Int} (hf : IS w vf fr) (ht : IS w vt to) (hl : to.length = fr.length) (hm : fr.length ≤ 1048576) {n : Nat} (hn : n ≤ 8) (he : ∀ j, j < fr.length → (0 ≤ gi fr j ∧ gi fr j < n) ∧ (0 ≤ gi to j ∧ gi to j < n)) :
    Calls Try.prog 20 #[.int .i64 (n : Int), vf, vt] w (RTP n fr to w) := by
  obtain ⟨af, bf, of, cf, rfl, haf, hcf⟩ := hf.ex
  obtain ⟨at_, bt, ot, ct, rfl, hat, hct⟩ := ht.ex
  rw [hl] at hct hat ⊢
  have HF := Lib.hid hcf
  have HT := Lib.hid hct
  have HAF := Lib.hid haf
  have HAT := Lib.hid hat
  have HEE := Lib.hid he
  clear hcf hct haf hat he hf ht hl
  go_enter Try.func20, Try.ntmps20
  go_wp2_with fail
  go_loopw [8, 9] (fun ov iv wr => ∃ (k : Nat) (X : List RV), k ≤ n ∧ iv = .int .i64 k ∧ Below w.heap.size w wr ∧ ORt 45 w.heap.size wr.heap.size wr ov X ∧ Hid (X.map (·.1) = ids k)) (fun _ i _ => n - (intOf i).toNat)
  case atStart => exact ⟨0, [], Nat.zero_le _, rfl, bel_box _ _, by have h0 := ORt.empty (E := 45) (Nat.le_refl w.heap.size) rfl; simpa using h0, rfl⟩
  case round =>
    obtain ⟨k, X, hk, rfl, hb, hO, HX⟩ := hrel
    by_cases hlt : k < n
    · have d1 : decide ((k : Int) < (n : Int)) = true := decide_eq_true (by omega)
      obtain ⟨g, c, rfl, hB, hT, hgw, -⟩ := hO.cells
      have hXl : X.length = k := by have := congrArg List.length HX.out; simpa [ids_len] using this
      have HXL := Lib.hid hXl
      have HO := Lib.hid hO
      have HB := Lib.hid hb
      have hwB := hb.size
      clear hO hb hXl
      have hI : I64 (k : Int) := by constructor <;> omega
      go_wp2_with (at_builtin; refine hold ?_)
      have hba := bel_box wr (.cells #[.int .i64 k, .int .i64 k, .slice none 0 0] 45)
      refine appR (P := Try.prog) (E := 45) (N := wr.heap.size) (T := wr.heap.size) (m := wr.heap.size) (r := ⟨k, k, []⟩) (u := .slice none 0 0) (by decide) Try.underlying39 infoRoute (by rfl) (HO.out.keptB hba) (OwnT.nil _ _ _ _) (by simp) (by simp) (by simp) ⟨hI, hI⟩ hwB (by simp) (by simp) (by rw [HXL.out]; omega) (by rfl) _ _ (by rfl) (by rfl) (by rfl) ?_
      intro v' w' ho hg
      have hb2 : Below w.heap.size w w' := hg.below (bel_next HB.out hba) (by simp; omega) (fun q hq => (HO.out.lt q hq).1)
      have HO2 := Lib.hid ho
      have HB2 := Lib.hid hb2
      clear ho hg hb2 hba
      go_wp2_with fail
      go_roundw
      case rel => exact ⟨k + 1, X ++ [(⟨k, k, []⟩, .slice none 0 0)], by omega, by go_num, HB2.out, HO2.out, by unfold Hid; rw [List.map_append, HX.out]; rfl⟩
      case measure => simp [intOf]; omega
    · have d1 : decide ((k : Int) < (n : Int)) = false := decide_eq_false (by omega)
      obtain rfl : k = n := by omega
      obtain ⟨g, c, rfl, hB, hT, hgw, -⟩ := hO.cells
      have hXl : X.length = k := by have := congrArg List.length HX.out; simpa [ids_len] using this
      have HXL := Lib.hid hXl
      have HO := Lib.hid hO
      have HB := Lib.hid hb
      clear hO hb hXl hB hT hgw
      go_wp2_with fail
      go_loopw [8, 10] (fun ov iv wr => ∃ (i : Nat) (X : List RV) (Q : List Rt), i ≤ X.length ∧ X.length ≤ 40 ∧ iv = .int .i64 i ∧ Below w.heap.size w wr ∧ ORt 45 w.heap.size wr.heap.size wr ov X ∧ Hid (X.map (·.1) = Q) ∧ Hid (qall k fr to = bfs fr to (41 - i) Q i) ∧ Hid (EndOk k Q)) (fun _ i _ => 41 - (intOf i).toNat)
      case atStart => exact ⟨0, X, ids k, Nat.zero_le _, by rw [HXL.out]; omega, rfl, HB.out, HO.out, HX, rfl, ids_ok (Nat.le_refl _)⟩
      case round =>
        clear HO HB HX HXL
        obtain ⟨i, X, Q, hiX, hX40, rfl, hb, hO, HX, HQ, HEK⟩ := hrel
        have hQl : Q.length = X.length := by rw [← HX.out, List.length_map]
        have HQL := Lib.hid hQl
        clear hQl
        by_cases hli : i < X.length
        · have d2 : decide ((i : Int) < (X.length : Int)) = true := decide_eq_true (by omega)
          have HGO := Lib.hid (HQ.out.trans (bfs_go (by rw [HQL.out]; exact hli) (by rw [HQL.out]; exact hX40) (by omega) rfl))
          have HRE : Hid (rt Q i ∈ Q) := by unfold Hid; rw [rt_lt (by rw [HQL.out]; exact hli)]; exact List.getElem_mem _
          have hre := HEK.out.ends _ HRE.out
          have hrl : (rt Q i).path.length ≤ i := by rw [rt_lt (by rw [HQL.out]; exact hli)]; exact HEK.out.len i _
          obtain ⟨r, hr⟩ : ∃ r, r = rt Q i := ⟨_, rfl⟩
          rw [← hr] at HGO hre hrl
          have HR := Lib.hid hr
          obtain ⟨⟨ra0, ra1⟩, rb0, rb1⟩ := hre
          clear hr HRE
          obtain ⟨g, c, rfl, hB, hT, hgw, -⟩ := hO.cells
          have HO := Lib.hid hO
          have HB := Lib.hid hb
          clear hO hb hB hT hgw
          go_wp2_with fail
          go_loopw [8, 33] (fun ov iv wr => ∃ (e : Nat) (Y : List RV), e ≤ fr.length ∧ i < Y.length ∧ Y.length ≤ 40 ∧ iv = .int .i64 e ∧ Below w.heap.size w wr ∧ ORt 45 w.heap.size wr.heap.size wr ov Y ∧ Hid (Y.map (·.1) = Q ++ chl fr to r e) ∧ Hid (EndOk k (Q ++ chl fr to r e))) (fun _ i _ => fr.length - (intOf i).toNat)
          case atStart => exact ⟨0, X, Nat.zero_le _, hli, hX40, rfl, HB.out, HO.out, by unfold Hid; rw [HX.out]; simp [chl], by unfold Hid; simpa [chl] using HEK.out⟩
          case round =>
            clear HO HB
            obtain ⟨e, Y, hle, hiY, hY40, rfl, hb, hO, HY, HEY⟩ := hrel
            obtain ⟨g, c, rfl, hB, hT, hgw, hcl⟩ := hO.cells
            by_cases hlt2 : e < fr.length
            · have d3 : decide ((e : Int) < (fr.length : Int)) = true := decide_eq_true (by omega)
              obtain ⟨⟨hu0, hu1⟩, hv0, hv1⟩ := HEE.out e hlt2
              obtain rfl := HAF.out (by omega)
              obtain rfl := HAT.out (by omega)
              have hYi : (Y[i]).1 = r := by
                have h1 : (Y.map (·.1))[i]? = some (Y[i]).1 := by rw [List.getElem?_map, List.getElem?_eq_getElem hiY]; rfl
                rw [HY.out, List.getElem?_append_left (by rw [HQL.out]; exact hli), List.getElem?_eq_getElem (by rw [HQL.out]; exact hli)] at h1
                injection h1 with h1
                rw [← h1, HR.out, rt_lt]
              obtain ⟨c0, c1, c2⟩ := hcl i hiY
              rw [hYi] at c0 c1
              have hag := hO.ags _ (List.getElem_mem hiY)
              rw [hYi] at hag
              obtain ⟨u, hu⟩ : ∃ u, u = (Y[i]).2 := ⟨_, rfl⟩
              rw [← hu] at hag c2
              have cf : wr.cell? ⟨bf, of + e, none⟩ = some (.int .i64 (gi fr e)) := upc hb (HF.out e hlt2)
              have ct : wr.cell? ⟨bt, ot + e, none⟩ = some (.int .i64 (gi to e)) := upc hb (HT.out e hlt2)
              have HO := Lib.hid hO
              have HB := Lib.hid hb
              have HAG := Lib.hid hag
              have bfl := World.block_lt_of_cell? _ _ (HF.out e hlt2)
              have btl := World.block_lt_of_cell? _ _ (HT.out e hlt2)
              clear hO hb hu hYi hcl hag
              by_cases hm2 : gi fr e = r.b
              · have db : (gi fr e != r.b) = false := by simp [hm2]
                have HM := Lib.hid hm2
                clear hm2
                go_wp2_with fail
                go_quiet (fail)
                have dq : Drawn wr (wr.drewN nq) := ⟨nq, rfl⟩
                have hO2 := HO.out.drawn dq
                have hB2 := HB.out.trans (dq.below _)
                have hA2 := HAG.out.keptB (dq.below _)
                have hz : (wr.drewN nq).heap.size = wr.heap.size := by simp
                replace c0 := upc (dq.below _) c0
                replace c2 := upc (dq.below _) c2
                replace ct := upc (dq.below _) ct
                rw [← hz] at hO2 hA2 hgw hT
                clear HO HB HAG dq c1 cf db hz
                generalize wr.drewN nq = W at *
                have HS := Lib.hid (chl_succ (fr := fr) (to := to) (r := r) (m := e))
                rw [if_pos HM.out] at HS
                have hYlen : Y.length = Q.length + (chl fr to r e).length := by
                  have := congrArg List.length HY.out
                  simpa using this
                have HYL := Lib.hid hYlen
                clear hYlen
                by_cases h40 : Y.length = 40
                · have dl : ((Y.length : Int) == 40) = true := by rw [h40]; rfl
                  have HBIG : Hid (¬ (qall k fr to).length ≤ 40) := by
                    unfold Hid
                    have h1 := bfs_ge fr to (41 - (i + 1)) (Q ++ chl fr to r fr.length) (i + 1)
                    rw [← HGO.out, List.length_append] at h1
                    have h2 := chl_le (fr := fr) (to := to) (r := r) (m := fr.length) (k := e + 1) (by omega)
                    rw [HS.out, List.length_append, List.length_singleton] at h2
                    have h3 := HYL.out
                    omega
                  have HB2 := Lib.hid hB2
                  clear hO2 hB2 hA2 c0 c2 ct h40
                  go_wp2_with fail
                  go_ret2
                  refine ⟨HB2.out, ?_⟩
                  rw [if_neg HBIG.out]
                  rfl
                · have dl : ((Y.length : Int) == 40) = false := by simp; omega
                  have hE : (2 : TypeId) ≠ 45 := by decide
                  have hug : ∀ q, u.ownBlock = some q → q < g ∨ g + 1 ≤ q := fun q hq => by
                    rcases dj_types3 hE hA2.own hO2.row with e | e
                    · rw [e] at hq; cases hq
                    · have : q ≠ g := fun z => e (by rw [hq, z]; rfl)
                      omega
                  have hclo := fun W' (hW : Within g (g + 1) W W') => c_clone (hA2.apart hW hug).is
                  obtain ⟨au, cu, rfl⟩ := hA2.shape
                  have HCL := Lib.hid hclo
                  have HO := Lib.hid hO2
                  have HB := Lib.hid hB2
                  have hpl := hA2.size
                  have hpl2 : r.path.length < 4294967296 := by omega
                  have hIe : I64 (e : Int) := by constructor <;> omega
                  have hIr : I64 r.a ∧ I64 (gi to e) := ⟨by constructor <;> omega, by constructor <;> omega⟩
                  have hwW := hB2.size
                  have hpg : (⟨bt, ot + e, none⟩ : Addr).block ≠ g := by show bt ≠ g; omega
                  have hpW : (⟨bt, ot + e, none⟩ : Addr).block < W.heap.size := by show bt < _; omega
                  have K0 : KR W g i ⟨bt, ot + e, none⟩ (.int .i64 r.a) (.int .i64 (gi to e)) (.slice au r.path.length cu) W := ⟨Within.refl _ _ _, c0, ct, c2⟩
                  have K1 := K0.drew.all
                  clear hO2 hB2 hA2 hclo hug c0 c2 ct
                  go_wp2_with fail
                  go_region_held3 (fun w' => KR W g i ⟨bt, ot + e, none⟩ (.int .i64 r.a) (.int .i64 (gi to e)) (.slice au r.path.length cu) w' ∧ w'.cell? ⟨g, i * 3, none⟩ = some (.int .i64 r.a) ∧ w'.cell? ⟨bt, ot + e, none⟩ = some (.int .i64 (gi to e)) ∧ w'.cell? ⟨g, i * 3 + 2, none⟩ = some (.slice au r.path.length cu))
                    (first | with_reducible exact K1 | with_reducible exact ((K0.alloc _).drew).all | (with_reducible refine (KR.call ?_ b9).all; with_reducible exact And.left (by assumption)) | (with_reducible refine (KR.alloc ?_ _).all; with_reducible exact And.left (by assumption)) | (with_reducible refine (KR.grew ?_ g10 hv10 hgw hpW).all; with_reducible exact And.left (by assumption)) | (with_reducible refine (KR.app ?_ g4 k4 hiY rfl hpg).all; with_reducible exact And.left (by assumption)))
                    (first | (go_at_call 23; (with_reducible refine (HCL.out _ (KR.wi (And.left (by assumption)))).mono ?_); rintro e w9 ⟨u9, rfl, o9, b9⟩; obtain ⟨au9, cu9, rfl⟩ := o9.own.shape) | (refine stepApp1 (B := W.heap.size) (n := w9.heap.size) (xs := r.path) (x := (e : Int)) ((o9.mono (B' := W.heap.size) ?_ (Nat.le_refl _)).own.kept (bel_box _ _)) hIe ?_ hpl2 ?_ Try.underlying22 infoInt64 ?_ (.tmp 67) (.tmp 69) ?_ ?_ ?_ ?_; (· simp); (· simp); (· have := b9.size; simp at this ⊢; omega); (· rfl); (· rfl); (· rfl); (· rfl); intro v10 w10 o10 g10; have hv10 := fun k (hk : (Value.slice au9 r.path.length cu9).ownBlock = some k) => Nat.le_trans (show W.heap.size ≤ W.drew.heap.size by simp) (o9.lt k hk).1; obtain ⟨av10, cv10, rfl⟩ := o10.shape) | (refine stepApp1 (B := W.heap.size) (n := W.heap.size) (xs := r.path) (x := (e : Int)) ((o9.mono (B' := W.heap.size) ?_ (Nat.le_refl _)).own) hIe ?_ hpl2 ?_ Try.underlying22 infoInt64 ?_ (.tmp 67) (.tmp 69) ?_ ?_ ?_ ?_; (· simp); (· exact upc b9 (by simp)); (· have := b9.size; simp at this ⊢; omega); (· rfl); (· rfl); (· rfl); (· rfl); intro v10 w10 o10 g10; have hv10 := fun k (hk : (Value.slice au9 r.path.length cu9).ownBlock = some k) => Nat.le_trans (show W.heap.size ≤ ((W.alloc (.cells #[.int .i64 (e : Int)] 2)).drew).heap.size by simp) (o9.lt k hk).1; obtain ⟨av10, cv10, rfl⟩ := o10.shape) | (refine stepAppR (P := Try.prog) (N := W.heap.size) (T := w10.heap.size) (m := w10.heap.size) (X := Y) (r := ⟨r.a, gi to e, r.path ++ [(e : Int)]⟩) hE Try.underlying39 infoRoute (by rfl) (((((HO.out.drawn (Drawn.one (Drawn.refl W))).keptB b9).keptB (bel_box _ _)).young g10 ?_ hv10).keptB (bel_box _ _)) (o10.ownT.keptB (bel_box _ _)) ?_ ?_ ?_ hIr hwW ?_ ?_ ?_ ?_ (.tmp 50) (.tmp 72) ?_ ?_ ?_ ?_; (· have := b9.size; simp at this ⊢; omega); (· simp); (· simp); (· simp); (· have h1 := b9.size; have h2 := g10.grown.size; simp at h1 h2 ⊢; omega); (· simp); (· omega); (· rfl); (· rfl); (· rfl); (· rfl); intro v4 w4 ho4 g4 k4) | (refine stepAppR (P := Try.prog) (N := W.heap.size) (T := w10.heap.size) (m := w10.heap.size) (X := Y) (r := ⟨r.a, gi to e, r.path ++ [(e : Int)]⟩) hE Try.underlying39 infoRoute (by rfl) (((((HO.out.keptB (bel_box _ _)).drawn (Drawn.one (Drawn.refl _))).keptB b9).young g10 ?_ hv10).keptB (bel_box _ _)) (o10.ownT.keptB (bel_box _ _)) ?_ ?_ ?_ hIr hwW ?_ ?_ ?_ ?_ (.tmp 50) (.tmp 72) ?_ ?_ ?_ ?_; (· have := b9.size; simp at this ⊢; omega); (· simp); (· simp); (· simp); (· have h1 := b9.size; have h2 := g10.grown.size; simp at h1 h2 ⊢; omega); (· simp); (· omega); (· rfl); (· rfl); (· rfl); (· rfl); intro v4 w4 ho4 g4 k4))
                  all_goals (
                    have KE := ‹KR _ _ _ _ _ _ _ w4 ∧ _›.1
                    have HO4 := Lib.hid ho4
                    have HB4 : Hid (Below w.heap.size w w4) := HB.out.trans ⟨KE.wi.os, KE.wi.tape, KE.wi.output, KE.wi.size, fun q hq => KE.wi.block q (by omega) (by omega)⟩
                    have HE4 : Hid (EndOk k (Q ++ chl fr to r (e + 1))) := by
                      unfold Hid
                      rw [HS.out, ← List.append_assoc]
                      refine endOk_snoc HEY.out ⟨⟨ra0, ra1⟩, hv0, hv1⟩ ?_
                      have h1 := HQL.out
                      simp only [List.length_append, List.length_singleton]
                      omega
                    clear ho4 g4 k4 hv10 g10 o10 o9 b9 K0 K1 KE hpl
                    go_wp2_with fail
                    go_roundw
                    case rel => exact ⟨e + 1, Y ++ [(⟨r.a, gi to e, r.path ++ [(e : Int)]⟩, _)], by omega, by simp; omega, by simp; omega, by go_num, HB4.out, HO4.out, by unfold Hid; rw [List.map_append, HY.out, HS.out, List.append_assoc]; rfl, HE4⟩
                    case measure => simp [intOf]; omega)
              · have db : (gi fr e != r.b) = true := by simp [hm2]
                have HM := Lib.hid hm2
                clear hm2
                go_wp2_with fail
                go_quiet (fail)
                have dq : Drawn wr (wr.drewN nq) := ⟨nq, rfl⟩
                have HO2 := Lib.hid (HO.out.drawn dq)
                have HB2 := Lib.hid (HB.out.trans (dq.below _))
                have HS := Lib.hid (chl_succ (fr := fr) (to := to) (r := r) (m := e))
                rw [if_neg HM.out] at HS
                clear c0 c1 c2 cf ct dq
                go_wp2_with fail
                go_roundw
                case rel => exact ⟨e + 1, Y, by omega, hiY, hY40, by go_num, HB2.out, HO2.out, by unfold Hid; rw [HY.out, HS.out], by unfold Hid; rw [HS.out]; exact HEY.out⟩
                case measure => simp [intOf]; omega
            · have d3 : decide ((e : Int) < (fr.length : Int)) = false := decide_eq_false (by omega)
              obtain rfl : e = fr.length := by omega
              have HO := Lib.hid hO
              have HB := Lib.hid hb
              clear hO hb hcl
              go_wp2_with fail
              go_roundw
              case rel => exact ⟨i + 1, Y, _, by omega, hY40, by go_num, HB.out, HO.out, HY, HGO, HEY⟩
              case measure => simp [intOf]; omega
        · have d2 : decide ((i : Int) < (X.length : Int)) = false := decide_eq_false (by omega)
          have HST : Hid (qall k fr to = Q) := by
            unfold Hid
            rw [HQ.out]
            exact bfs_stop (by rw [HQL.out]; omega) _
          obtain ⟨g, c, rfl, hB, hT, hgw, hcl⟩ := hO.cells
          have hcon := c_sortR hO hX40 (fun x hx => by
            have := HEK.out.ends x.1 (by rw [← HX.out]; exact List.mem_map_of_mem hx)
            omega)
          have HO := Lib.hid hO
          have HB := Lib.hid hb
          clear hO hb hcl
          go_wp2_with (go_at_call 35; refine hcon.mono ?_; rintro e w' ⟨rfl, X', o1, o2, o3, g', o4, o5⟩)
          go_ret2
          refine ⟨?_, ?_⟩
          · exact HB.out.trans ⟨o5.os, o5.tape, o5.output, o5.size, fun q hq => o5.block q (by omega) (by have := HB.out.size; omega)⟩
          · rw [if_pos (by rw [HST.out, HQL.out]; exact hX40)]
            refine ⟨_, X', rfl, o1.mono (Nat.le_refl _) o5.size, ?_, o3⟩
            rw [HST.out, ← HX.out]
            exact o2.map _
end Go.Proofs.Ytllbjckbinolmaa
