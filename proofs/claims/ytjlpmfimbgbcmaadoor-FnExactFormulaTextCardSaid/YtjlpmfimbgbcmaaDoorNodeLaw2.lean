/-
  The law's helpers on slices of nodes: toNode, toNodeS, eqNode, eqNodeS.
-/
import Derived.Test.YtjlpmfimbgbcmaaDoorNodeLaw
namespace Go.Proofs.YtjlpmfimbgbcmaaDoor
open Go.ChangeShapes Go.WideShapes Go.ChangeAt Go.RowKit Go.Deep

theorem row_boxN (w : World) (cs : Array Value) (t : TypeId) : (w.alloc (.cells cs t)).rowIs w.heap.size t cs.size (fun i => cs.getD i undef) :=
  World.rowIs_alloc w cs t _ fun i hi => by simp [hi]
theorem rowIs_litN {w : World} {b : Nat} {t : TypeId} {cs : Array Value} {f : Nat → Value} (h : w.rowIs b t cs.size f) (hf : ∀ i, i < cs.size → cs[i]? = some (f i)) : w.heap[b]? = some (.cells cs t (0, 0)) := by
  obtain ⟨c, hb, hn, hc⟩ := h
  have : c = cs := by
    apply Array.ext hn
    intro i h1 h2
    have e1 := hc i (by omega)
    have e2 := hf i h2
    rw [Array.getElem?_eq_getElem h1] at e1
    rw [Array.getElem?_eq_getElem h2] at e2
    rw [← e2] at e1
    injection e1
  rw [hb, this]
/-- Three blocks that a call made and writes: rows of three cells. -/
structure TN (tA tC : TypeId) (w W : World) (A R O : Nat → Value) : Prop where
  a : W.rowIs w.heap.size tA 3 A
  r : W.rowIs (w.heap.size + 1) tC 3 R
  o : W.rowIs (w.heap.size + 1 + 1) tC 3 O
  b : Below w.heap.size w W
theorem TN.lt {tA tC : TypeId} {w W : World} {A R O : Nat → Value} (h : TN tA tC w W A R O) : w.heap.size + 1 + 1 < W.heap.size := h.o.lt
theorem TN.call {tA tC : TypeId} {w W W' : World} {A R O : Nat → Value} (h : TN tA tC w W A R O) (hb : Below W.heap.size W W') : TN tA tC w W' A R O :=
  ⟨h.a.of_block (hb.block _ h.a.lt), h.r.of_block (hb.block _ h.r.lt), h.o.of_block (hb.block _ h.o.lt), h.b.trans (hb.mono h.b.size)⟩
theorem set_blockN (W : World) (p : Addr) (v : Value) (k : Nat) (h : k ≠ p.block) : (W.setCell p v).heap[k]? = W.heap[k]? := Below.heap_setCell _ _ _ _ h
theorem TN.put {tA tC : TypeId} {w W : World} {A R O : Nat → Value} (h : TN tA tC w W A R O) (i : Nat) (v : Value) : TN tA tC w (W.setCell ⟨w.heap.size + 1 + 1, i, none⟩ v) A R (fun j => if j = i then v else O j) :=
  ⟨h.a.of_block (set_blockN _ _ _ _ (by simp <;> omega)), h.r.of_block (set_blockN _ _ _ _ (by simp <;> omega)), h.o.set i v, h.b.setCell (by simp <;> omega) v⟩
theorem TN.res {tA tC : TypeId} {w W : World} {A R O : Nat → Value} (h : TN tA tC w W A R O) (i : Nat) (v : Value) : TN tA tC w (W.setCell ⟨w.heap.size + 1, i, none⟩ v) A (fun j => if j = i then v else R j) O :=
  ⟨h.a.of_block (set_blockN _ _ _ _ (by simp <;> omega)), h.r.set i v, h.o.of_block (set_blockN _ _ _ _ (by simp <;> omega)), h.b.setCell (by simp <;> omega) v⟩
theorem TN.start (w : World) (tA tC : TypeId) (A R O : Array Value) (hA : A.size = 3) (hR : R.size = 3) (hO : O.size = 3) :
    TN tA tC w (((w.alloc (.cells A tA)).alloc (.cells R tC)).alloc (.cells O tC)) (fun i => A.getD i undef) (fun i => R.getD i undef) (fun i => O.getD i undef) := by
  have a0 := row_boxN w A tA
  have r0 := row_boxN (w.alloc (.cells A tA)) R tC
  have o0 := row_boxN ((w.alloc (.cells A tA)).alloc (.cells R tC)) O tC
  rw [hA] at a0
  rw [hR] at r0
  rw [hO] at o0
  simp only [World.size_alloc] at r0 o0
  have a1 := a0.of_block (w' := (w.alloc (.cells A tA)).alloc (.cells R tC)) (Below.heap_alloc _ _ _ (by simp))
  have a2 := a1.of_block (w' := ((w.alloc (.cells A tA)).alloc (.cells R tC)).alloc (.cells O tC)) (Below.heap_alloc _ _ _ (by simp; omega))
  have r1 := r0.of_block (w' := ((w.alloc (.cells A tA)).alloc (.cells R tC)).alloc (.cells O tC)) (Below.heap_alloc _ _ _ (by simp))
  exact ⟨a2, r1, o0, bel_alloc (bel_alloc (bel_alloc (Below.refl _ _) _) _) _⟩
theorem three_rows (a0 a1 a2 : Value) {f : Nat → Value} : ∀ i, i < #[a0, a1, a2].size → #[a0, a1, a2][i]? = some (if i = 2 then a2 else if i = 1 then a1 else if i = 0 then a0 else f i) := by
  intro i hi
  have : i = 0 ∨ i = 1 ∨ i = 2 := by simp at hi; omega
  rcases this with rfl | rfl | rfl <;> rfl
set_option maxHeartbeats 800000 in
set_option maxRecDepth 100000 in
theorem c_toNode {w : World} {a b : Int} {v : Value} {xs : List Int} (h1 : IS w v xs) : Calls Tryd.prog 24 #[.agg #[.int .i64 a, .int .i64 b, v]] w (fun e w' => ∃ u, e = .returned (.agg #[.int .i64 a, .int .i64 b, u]) ∧ OwnT 2 (w.heap.size + 1) w'.heap.size w' u xs ∧ Below w.heap.size w w') := by
  have T0 := TN.start w 44 47 #[.int .i64 a, .int .i64 b, v] #[.int .i64 0, .int .i64 0, .slice none 0 0] #[.int .i64 a, .int .i64 b, .slice none 0 0] rfl rfl rfl
  go_enter Tryd.func24, Tryd.ntmps24
  go_wp2_with fail
  generalize (((w.alloc (.cells #[.int .i64 a, .int .i64 b, v] 44)).alloc (.cells #[.int .i64 0, .int .i64 0, .slice none 0 0] 47)).alloc (.cells #[.int .i64 a, .int .i64 b, .slice none 0 0] 47)) = W0 at *
  refine (c_toInt64S (h1.kept T0.b)).mono ?_
  rintro e V1 ⟨ru1, rfl, o1, b1⟩
  obtain ⟨ra1, rc1, rfl⟩ := o1.own.shape
  have S1 := T0.call b1
  have z1 := b1.size
  have y1 := T0.lt
  have q0 : V1.cell? ⟨w.heap.size + 1 + 1, 2, none⟩ = some (.slice none 0 0) := S1.o.cell (show 2 < 3 by omega)
  have q1 := S1.o.frozen 2
  have p0 : V1.cell? ⟨w.heap.size + 1 + 1, 0, none⟩ = some (.int .i64 a) := S1.o.cell (show 0 < 3 by omega)
  have p1 : V1.cell? ⟨w.heap.size + 1 + 1, 1, none⟩ = some (.int .i64 b) := S1.o.cell (show 1 < 3 by omega)
  have r0 := S1.r.cell (show 0 < 3 by omega)
  have g0 := S1.r.frozen 0
  have r1 := S1.r.cell (show 1 < 3 by omega)
  have g1 := S1.r.frozen 1
  have r2 := S1.r.cell (show 2 < 3 by omega)
  have g2 := S1.r.frozen 2
  clear b1
  go_wp2_with fail
  have T4 := (((S1.put 2 (.slice ra1 xs.length rc1)).res 0 (.int .i64 a)).res 1 (.int .i64 b)).res 2 (.slice ra1 xs.length rc1)
  have M : Within (w.heap.size + 1) (w.heap.size + 1 + 1 + 1) V1 ((((V1.setCell ⟨w.heap.size + 1 + 1, 2, none⟩ (.slice ra1 xs.length rc1)).setCell ⟨w.heap.size + 1, 0, none⟩ (.int .i64 a)).setCell ⟨w.heap.size + 1, 1, none⟩ (.int .i64 b)).setCell ⟨w.heap.size + 1, 2, none⟩ (.slice ra1 xs.length rc1)) :=
    ((((Within.refl _ _ _).setCell (by simp) (by simp) _).setCell (by simp) (by simp) _).setCell (by simp) (by simp) _).setCell (by simp) (by simp) _
  have X : ((((V1.setCell ⟨w.heap.size + 1 + 1, 2, none⟩ (.slice ra1 xs.length rc1)).setCell ⟨w.heap.size + 1, 0, none⟩ (.int .i64 a)).setCell ⟨w.heap.size + 1, 1, none⟩ (.int .i64 b)).setCell ⟨w.heap.size + 1, 2, none⟩ (.slice ra1 xs.length rc1)).heap.size = V1.heap.size := by simp [World.setCell]
  refine bodyPost_ret (results_cell_row rfl _ _ (w.heap.size + 1) 47 #[.int .i64 a, .int .i64 b, .slice ra1 xs.length rc1] (0, 0) _ (by rfl) (rowIs_litN T4.r (three_rows _ _ _)) Tryd.underlying47 rfl (by kernel_rfl)) rfl ?_
  exact ⟨_, rfl, by rw [X]; exact (o1.kept M (by omega)).mono (by omega) (Nat.le_refl _), T4.b⟩
theorem c_eqNode_refl {w : World} {a b : Int} {u v : Value} {xs : List Int} (hu : IS w u xs) (hv : IS w v xs) : Calls Tryd.prog 27 #[.agg #[.int .i64 a, .int .i64 b, u], .agg #[.int .i64 a, .int .i64 b, v]] w (Ret w (.bool true)) := by
  have e1 : (a != a) = false := by simp
  have e2 : (b != b) = false := by simp
  have H := Lib.hid (fun W (hW : Below w.heap.size w W) => c_eqInt64S_refl (hu.kept hW) (hv.kept hW))
  clear hu hv
  go_enter Tryd.func27, Tryd.ntmps27
  go_wp2_with fail
  refine (H.out _ (bel_alloc (bel_alloc (Below.refl _ _) _) _)).mono ?_
  rintro e w1 ⟨rfl, n1, rfl⟩
  go_wp2_with fail
  go_ret
  exact ⟨rfl, (bel_alloc (bel_alloc (Below.refl _ _) _) _).trans (Drawn.below (by repeat (first | exact Drawn.refl _ | refine Drawn.step ?_ _ | refine Drawn.one ?_)) _)⟩
section
variable {P : Program}
theorem run_make3 (t e : TypeId) (z x y q : Value) (bytes : Nat) (ht : P.underlying t = some (.slice e)) (hinfo : (P.info? e).map (fun i => (i.zero, i.size, i.bytes)) = some (some z, 3, bytes)) (hz1 : z.cells = #[x, y, q])
    (kl kc : IntKind) (n : Nat) (hbytes : bytes * n ≤ 281474976710656) (h63 : n ≤ 9223372036854775807) (w : World) :
    (Instr.makeSlice t (.int kl (n : Int)) (.int kc (n : Int))).run P w = .ok (.slice (some ⟨w.heap.size, 0, none⟩) n n) (w.alloc (.cells (madeCells #[x, y, q] (n * 3)) e)) := by
  obtain ⟨i, hi, hzz⟩ := Option.map_eq_some_iff.1 hinfo
  simp only [Prod.mk.injEq] at hzz
  obtain ⟨hz, hs, hb⟩ := hzz
  have hb' : (i.bytes : Int) * (n : Int) ≤ 281474976710656 := by
    have h : ((i.bytes * n : Nat) : Int) ≤ 281474976710656 := by rw [hb]; omega
    rwa [Int.natCast_mul] at h
  have hr := run_make (P := P) w t e i z ht hi hz kl kc n n (by omega) (Int.le_refl _) hb' (by omega)
  simp only [Int.toNat_natCast, hs, hz1] at hr
  exact hr
end
def z3 (j : Nat) : Value := if j % 3 = 2 then .slice none 0 0 else .int .i64 0
theorem rowIs_made3 (w : World) (n : Nat) (t : TypeId) : (w.alloc (.cells (madeCells #[.int .i64 0, .int .i64 0, .slice none 0 0] n) t)).rowIs w.heap.size t n z3 := by
  refine ⟨_, blk_alloc_new _ _, size_madeCells _ _, fun i hi => ?_⟩
  have : i % 3 = 0 ∨ i % 3 = 1 ∨ i % 3 = 2 := by omega
  rcases this with e | e | e <;> simp [madeCells, hi, e, z3]
/-- The cells of the first k nodes. -/
def rowN (d : List Nd) (A : Nat → Value) (k j : Nat) : Value := if j < k * 3 then (if j % 3 = 0 then .int .i64 (gn d (j / 3)).kd else if j % 3 = 1 then .int .i64 (gn d (j / 3)).sy else A (j / 3)) else z3 j
theorem rowN_step (d : List Nd) (A : Nat → Value) (k : Nat) (u : Value) (j : Nat) :
    (if j = k * 3 + 2 then u else if j = k * 3 + 1 then Value.int .i64 (gn d k).sy else if j = k * 3 then Value.int .i64 (gn d k).kd else rowN d A k j) = rowN d (fun i => if i = k then u else A i) (k + 1) j := by
  unfold rowN
  by_cases e2 : j = k * 3 + 2
  · subst e2
    rw [if_pos rfl, if_pos (by omega), if_neg (by omega), if_neg (by omega), show (k * 3 + 2) / 3 = k from by omega]
    exact (if_pos rfl).symm
  · rw [if_neg e2]
    by_cases e1 : j = k * 3 + 1
    · subst e1
      rw [if_pos rfl, if_pos (by omega), if_neg (by omega), if_pos (by omega), show (k * 3 + 1) / 3 = k from by omega]
    · rw [if_neg e1]
      by_cases e0 : j = k * 3
      · subst e0
        rw [if_pos rfl, if_pos (by omega), if_pos (by omega), show k * 3 / 3 = k from by omega]
      · rw [if_neg e0]
        by_cases h : j < k * 3
        · rw [if_pos h, if_pos (show j < (k + 1) * 3 by omega)]
          dsimp only
          rw [if_neg (show ¬ j / 3 = k by omega)]
        · rw [if_neg h, if_neg (show ¬ j < (k + 1) * 3 by omega)]
/-- A slice of nodes of the call's own. -/
structure ONS (B T : Nat) (w : World) (v : Value) (d : List Nd) : Prop where
  ex : ∃ (b c : Nat) (A : Nat → Value), v = .slice (some ⟨b, 0, none⟩) d.length c ∧ B ≤ b ∧ b < T ∧ T ≤ w.heap.size ∧ w.rowIs b 47 (d.length * 3) (rowN d A d.length) ∧
    (∀ i, i < d.length → OwnT 2 (b + 1) T w (A i) (gn d i).ag) ∧ ∀ i j, i < d.length → j < d.length → i ≠ j → Dj (A i) (A j)
  wf : ∀ i, i < d.length → I64 (gn d i).kd ∧ I64 (gn d i).sy
  len : d.length ≤ 1048576
theorem rowN_cells {w : World} {b : Nat} {t : TypeId} {d : List Nd} {A : Nat → Value} (h : w.rowIs b t (d.length * 3) (rowN d A d.length)) {i : Nat} (hi : i < d.length) :
    w.cell? ⟨b, i * 3, none⟩ = some (.int .i64 (gn d i).kd) ∧ w.cell? ⟨b, i * 3 + 1, none⟩ = some (.int .i64 (gn d i).sy) ∧ w.cell? ⟨b, i * 3 + 2, none⟩ = some (A i) := by
  refine ⟨?_, ?_, ?_⟩
  · rw [h.cell (show i * 3 < d.length * 3 by omega), rowN, if_pos (by omega), if_pos (by omega), show i * 3 / 3 = i from by omega]
  · rw [h.cell (show i * 3 + 1 < d.length * 3 by omega), rowN, if_pos (by omega), if_neg (by omega), if_pos (by omega), show (i * 3 + 1) / 3 = i from by omega]
  · rw [h.cell (show i * 3 + 2 < d.length * 3 by omega), rowN, if_pos (by omega), if_neg (by omega), if_neg (by omega), show (i * 3 + 2) / 3 = i from by omega]
theorem ONS.is {B T : Nat} {w : World} {v : Value} {d : List Nd} (h : ONS B T w v d) : INS w v d := by
  obtain ⟨b, c, A, rfl, _, _, _, hr, hA, -⟩ := h.ex
  exact ⟨⟨some ⟨b, 0, none⟩, b, 0, c, A, rfl, fun _ => rfl, fun i hi => by rw [Nat.zero_add]; exact rowN_cells hr hi, fun i hi => (hA i hi).is⟩, h.wf, h.len⟩
theorem ONS.size {B T : Nat} {w : World} {v : Value} {d : List Nd} (h : ONS B T w v d) : pN d d.length ≤ 4503601774854144 := h.is.size
theorem ONS.kept {B T B' T' : Nat} {w w' : World} {v : Value} {d : List Nd} (h : ONS B T w v d) (hb : Within B' T' w w') (hd : T ≤ B' ∨ T' ≤ B) : ONS B T w' v d := by
  obtain ⟨b, c, A, rfl, h1, h2, h3, hr, hA, hD⟩ := h.ex
  exact ⟨⟨b, c, A, rfl, h1, h2, by have := hb.size; omega, hr.of_block (hb.block b (by omega) hr.lt), fun i hi => (hA i hi).kept hb (by omega), hD⟩, h.wf, h.len⟩
theorem infoN : (Tryd.prog.info? 47).map (fun i => (i.zero, i.size, i.bytes)) = some (some (.agg #[.int .i64 0, .int .i64 0, .slice none 0 0]), 3, 40) := by kernel_rfl
set_option maxHeartbeats 800000 in
set_option maxRecDepth 100000 in
theorem c_toNodeS {w : World} {v : Value} {d : List Nd} (h : INS w v d) : Calls Tryd.prog 8 #[v] w (Mk w fun w' u => ONS w.heap.size w'.heap.size w' u d) := by
  obtain ⟨ao, b, o, c, A, rfl, ha, hc, hA⟩ := h.ex
  have hlen := h.len
  have HWF := Lib.hid h.wf
  have HC := Lib.hid hc
  have HA := Lib.hid hA
  have hmk := run_make3 (P := Tryd.prog) 26 47 (.agg #[.int .i64 0, .int .i64 0, .slice none 0 0]) (.int .i64 0) (.int .i64 0) (.slice none 0 0) 40 Tryd.underlying26 infoN rfl .i64 .i64 d.length (by omega) (by omega)
  clear h hc hA
  go_enter Tryd.func8, Tryd.ntmps8
  go_wp2
  clear hmk
  go_loopw [4] (fun i wr => ∃ (k : Nat) (V : Nat → Value), k ≤ d.length ∧ i = .int .i64 k ∧ Below w.heap.size w wr ∧ w.heap.size < wr.heap.size ∧ wr.rowIs w.heap.size 47 (d.length * 3) (rowN d V k) ∧ Hid ((∀ j, j < k → OwnT 2 (w.heap.size + 1) wr.heap.size wr (V j) (gn d j).ag) ∧ ∀ i j, i < k → j < k → i ≠ j → Dj (V i) (V j))) (fun i _ => d.length - (intOf i).toNat)
  case atStart => exact ⟨0, fun _ => undef, Nat.zero_le _, rfl, (Below.refl _ _).alloc (Nat.le_refl _) _, by simp, (rowIs_made3 w _ _).congr (fun i _ => by simp [rowN]), fun j hj => by omega, fun i j hi => by omega⟩
  case round =>
    obtain ⟨k, V, hk, rfl, hb, hw1, hrow, hV⟩ := hrel
    by_cases hlt : k < d.length
    · obtain rfl := ha (by omega)
      obtain ⟨x0, x1, x2⟩ := HC.out k hlt
      have cx := upN hb x0
      have cy := upN hb x1
      have cz := upN hb x2
      have HI := Lib.hid ((HA.out k hlt).kept hb)
      have HROW := Lib.hid hrow
      clear x0 x1 x2 hrow
      go_wp2_with fail
      refine (c_toNode HI.out).mono ?_
      rintro e w2 ⟨u, rfl, o2, b2⟩
      obtain ⟨au, cu, rfl⟩ := o2.own.shape
      have hz2 := b2.size
      have hr2 := HROW.out.of_block (b2.block _ HROW.out.lt)
      have hst := hr2.cell (show k * 3 < d.length * 3 by omega)
      have hst1 := hr2.cell (show k * 3 + 1 < d.length * 3 by omega)
      have hst2 := hr2.cell (show k * 3 + 2 < d.length * 3 by omega)
      have hfz := hr2.frozen (k * 3)
      have hfz1 := hr2.frozen (k * 3 + 1)
      have hfz2 := hr2.frozen (k * 3 + 2)
      have HS := Lib.hid (((hr2.set (k * 3) (.int .i64 (gn d k).kd)).set (k * 3 + 1) (.int .i64 (gn d k).sy)).set (k * 3 + 2) (.slice au (gn d k).ag.length cu))
      have HW : Hid (Within w.heap.size (w.heap.size + 1) w2 (((w2.setCell ⟨w.heap.size, k * 3, none⟩ (.int .i64 (gn d k).kd)).setCell ⟨w.heap.size, k * 3 + 1, none⟩ (.int .i64 (gn d k).sy)).setCell ⟨w.heap.size, k * 3 + 2, none⟩ (.slice au (gn d k).ag.length cu))) :=
        (((Within.refl _ _ _).setCell (p := ⟨w.heap.size, k * 3, none⟩) (Nat.le_refl _) (Nat.lt_succ_self _) _).setCell (p := ⟨w.heap.size, k * 3 + 1, none⟩) (Nat.le_refl _) (Nat.lt_succ_self _) _).setCell (p := ⟨w.heap.size, k * 3 + 2, none⟩) (Nat.le_refl _) (Nat.lt_succ_self _) _
      have HO2 := Lib.hid o2
      have HB := Lib.hid (hb.trans (b2.mono (by omega)))
      have HV2 := Lib.hid (fun j hj => ((hV.out.1 j hj).keptB b2))
      have HD := Lib.hid hV.out.2
      have HDN : Hid (∀ j, j < k → Dj (V j) (.slice au (gn d k).ag.length cu)) := fun j hj => Dj.of_lt (N := wr.heap.size) (fun q hq => (hV.out.1 j hj).top q hq) (fun q hq => by have := (o2.own.lt q hq).1; omega)
      clear hr2 o2 hb cx cy cz b2 hV
      go_wp2_with fail
      go_roundw
      case rel =>
        have hsz : (((w2.setCell ⟨w.heap.size, k * 3, none⟩ (.int .i64 (gn d k).kd)).setCell ⟨w.heap.size, k * 3 + 1, none⟩ (.int .i64 (gn d k).sy)).setCell ⟨w.heap.size, k * 3 + 2, none⟩ (.slice au (gn d k).ag.length cu)).heap.size = w2.heap.size := by simp [World.setCell]
        refine ⟨k + 1, fun j => if j = k then .slice au (gn d k).ag.length cu else V j, by omega, by go_num, ((HB.out.setCell (Nat.le_refl _) _).setCell (Nat.le_refl _) _).setCell (Nat.le_refl _) _, by rw [hsz]; omega, HS.out.congr (fun j hj => rowN_step d V k _ j), fun j hj => ?_, fun i j hi hj hne => ?_⟩
        · rw [hsz]
          dsimp only
          by_cases e : j = k
          · subst e
            rw [if_pos rfl]
            exact (HO2.out.kept HW.out (.inr (by omega))).mono (by omega) (Nat.le_refl _)
          · rw [if_neg e]
            exact ((HV2.out j (by omega)).kept HW.out (.inr (by omega))).mono (Nat.le_refl _) (by omega)
        · dsimp only
          by_cases e : i = k <;> by_cases e' : j = k
          · omega
          · rw [if_pos e, if_neg e']; exact (HDN.out j (by omega)).symm
          · rw [if_neg e, if_pos e']; exact HDN.out i (by omega)
          · rw [if_neg e, if_neg e']; exact HD.out i j (by omega) (by omega) hne
      case measure => simp [intOf]; omega
    · have hk : k = d.length := by omega
      subst hk
      go_wp2_with fail
      go_ret
      exact ⟨_, rfl, ⟨⟨w.heap.size, _, V, rfl, Nat.le_refl _, hrow.lt, Nat.le_refl _, hrow, hV.out.1, hV.out.2⟩, HWF.out, hlen⟩, hb⟩
set_option maxHeartbeats 800000 in
set_option maxRecDepth 100000 in
theorem c_eqNodeS_refl {w : World} {u v : Value} {d : List Nd} (hu : INS w u d) (hv : INS w v d) : Calls Tryd.prog 10 #[u, v] w (Ret w (.bool true)) := by
  obtain ⟨ao, b, o, c, A, rfl, ha, hc, hA⟩ := hu.ex
  obtain ⟨ao', b', o', c', A', rfl, ha', hc', hA'⟩ := hv.ex
  have hlen := hu.len
  have HC := Lib.hid hc
  have HC' := Lib.hid hc'
  have HA := Lib.hid hA
  have HA' := Lib.hid hA'
  clear hu hv hc hc' hA hA'
  have hlb : ((d.length : Int) != (d.length : Int)) = false := by simp
  go_enter Tryd.func10, Tryd.ntmps10
  go_wp2_with fail
  clear hlb
  go_loopw [5] (fun i wr => ∃ k : Nat, k ≤ d.length ∧ i = .int .i64 k ∧ Below w.heap.size w wr) (fun i _ => d.length - (intOf i).toNat)
  case atStart => exact ⟨0, Nat.zero_le _, rfl, Below.refl _ _⟩
  case round =>
    obtain ⟨k, hk, rfl, hb⟩ := hrel
    by_cases hlt : k < d.length
    · obtain rfl := ha (by omega)
      obtain rfl := ha' (by omega)
      obtain ⟨x0, x1, x2⟩ := HC.out k hlt
      obtain ⟨y0, y1, y2⟩ := HC'.out k hlt
      have cx0 := upN hb x0
      have cx1 := upN hb x1
      have cx2 := upN hb x2
      have cy0 := upN hb y0
      have cy1 := upN hb y1
      have cy2 := upN hb y2
      clear x0 x1 x2 y0 y1 y2
      go_wp2_with fail
      go_still_tail 8, (by kernel_rfl)
      change wpList _ _ _ _ _ wr.drew
      have hb2 := hb.trans ((Drawn.one (Drawn.refl wr)).below _)
      have I1 := Lib.hid ((HA.out k hlt).kept hb2)
      have I2 := Lib.hid ((HA'.out k hlt).kept hb2)
      clear cx0 cx1 cx2 cy0 cy1 cy2 hb
      generalize wr.drew = wq at *
      go_wp2_with fail
      refine (c_eqNode_refl I1.out I2.out).mono ?_
      rintro e w2 ⟨rfl, b2⟩
      have hb3 := hb2.trans (b2.mono hb2.size)
      clear b2 hb2
      go_wp2_with fail
      go_roundw
      case rel => exact ⟨k + 1, by omega, by go_num, hb3⟩
      case measure => simp [intOf]; omega
    · have hk : k = d.length := by omega
      subst hk
      go_wp2_with fail
      go_ret
      exact ⟨rfl, hb⟩
end Go.Proofs.YtjlpmfimbgbcmaaDoor
