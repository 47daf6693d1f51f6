/-
  The laws' helpers on categories: toCategory, markCategory, heldCategory.
-/
import Derived.Test.YtkmkbmhpdnddnaaCatLaw
namespace Go.Proofs.Ytkmkbmhpdnddnaa
open Go.RowKit

theorem OwnT.shape {E : TypeId} {B T : Nat} {w : World} {v : Value} {xs : List Int} (h : OwnT E B T w v xs) : ∃ ao c, v = .slice ao xs.length c := h.own.shape
theorem OwnSS.shape {E E' : TypeId} {B T : Nat} {w : World} {v : Value} {xss : List (List Int)} (h : OwnSS E E' B T w v xss) : ∃ ao c, v = .slice ao xss.length c := by
  obtain ⟨ao, b, o, c, R, hv, -⟩ := h.is.ex
  exact ⟨ao, c, hv⟩
/-- Three blocks that a call made and writes: rows of five cells. -/
structure TC (tA tC : TypeId) (w W : World) (A R O : Nat → Value) : Prop where
  a : W.rowIs w.heap.size tA 5 A
  r : W.rowIs (w.heap.size + 1) tC 5 R
  o : W.rowIs (w.heap.size + 1 + 1) tC 5 O
  b : Below w.heap.size w W
theorem TC.lt {tA tC : TypeId} {w W : World} {A R O : Nat → Value} (h : TC tA tC w W A R O) : w.heap.size + 1 + 1 < W.heap.size := h.o.lt
theorem TC.call {tA tC : TypeId} {w W W' : World} {A R O : Nat → Value} (h : TC tA tC w W A R O) (hb : Below W.heap.size W W') : TC tA tC w W' A R O :=
  ⟨h.a.of_block (hb.block _ h.a.lt), h.r.of_block (hb.block _ h.r.lt), h.o.of_block (hb.block _ h.o.lt), h.b.trans (hb.mono h.b.size)⟩
theorem set_block (W : World) (p : Addr) (v : Value) (k : Nat) (h : k ≠ p.block) : (W.setCell p v).heap[k]? = W.heap[k]? := Below.heap_setCell _ _ _ _ h
theorem within_set (W : World) (b i : Nat) (v : Value) : Within b (b + 1) W (W.setCell ⟨b, i, none⟩ v) := (Within.refl b (b + 1) W).setCell (p := ⟨b, i, none⟩) (Nat.le_refl _) (Nat.lt_succ_self _) v
theorem TC.put {tA tC : TypeId} {w W : World} {A R O : Nat → Value} (h : TC tA tC w W A R O) (i : Nat) (v : Value) : TC tA tC w (W.setCell ⟨w.heap.size + 1 + 1, i, none⟩ v) A R (fun j => if j = i then v else O j) :=
  ⟨h.a.of_block (set_block _ _ _ _ (by simp <;> omega)), h.r.of_block (set_block _ _ _ _ (by simp <;> omega)), h.o.set i v, h.b.setCell (by simp <;> omega) v⟩
theorem TC.res {tA tC : TypeId} {w W : World} {A R O : Nat → Value} (h : TC tA tC w W A R O) (i : Nat) (v : Value) : TC tA tC w (W.setCell ⟨w.heap.size + 1, i, none⟩ v) A (fun j => if j = i then v else R j) O :=
  ⟨h.a.of_block (set_block _ _ _ _ (by simp <;> omega)), h.r.set i v, h.o.of_block (set_block _ _ _ _ (by simp <;> omega)), h.b.setCell (by simp <;> omega) v⟩
theorem TC.start (w : World) (tA tC : TypeId) (A R O : Array Value) (hA : A.size = 5) (hR : R.size = 5) (hO : O.size = 5) :
    TC tA tC w (((w.alloc (.cells A tA)).alloc (.cells R tC)).alloc (.cells O tC)) (fun i => A.getD i undef) (fun i => R.getD i undef) (fun i => O.getD i undef) := by
  have a0 := row_box w A tA
  have r0 := row_box (w.alloc (.cells A tA)) R tC
  have o0 := row_box ((w.alloc (.cells A tA)).alloc (.cells R tC)) O tC
  rw [hA] at a0
  rw [hR] at r0
  rw [hO] at o0
  simp only [World.size_alloc] at r0 o0
  have a1 := a0.of_block (w' := (w.alloc (.cells A tA)).alloc (.cells R tC)) (Below.heap_alloc _ _ _ (by simp))
  have a2 := a1.of_block (w' := ((w.alloc (.cells A tA)).alloc (.cells R tC)).alloc (.cells O tC)) (Below.heap_alloc _ _ _ (by simp; omega))
  have r1 := r0.of_block (w' := ((w.alloc (.cells A tA)).alloc (.cells R tC)).alloc (.cells O tC)) (Below.heap_alloc _ _ _ (by simp))
  exact ⟨a2, r1, o0, bel_alloc (bel_alloc (bel_box _ _) _) _⟩
theorem five_rows (a0 a1 a2 a3 a4 : Value) {f : Nat → Value} : ∀ i, i < #[a0, a1, a2, a3, a4].size → #[a0, a1, a2, a3, a4][i]? = some (if i = 4 then a4 else if i = 3 then a3 else if i = 2 then a2 else if i = 1 then a1 else if i = 0 then a0 else f i) := by
  intro i hi
  have : i = 0 ∨ i = 1 ∨ i = 2 ∨ i = 3 ∨ i = 4 := by simp at hi; omega
  rcases this with rfl | rfl | rfl | rfl | rfl <;> rfl
set_option maxHeartbeats 800000 in
theorem c_toCategory {w : World} {v : Value} {c : Cat} (h : BC w v c) : Calls Try.prog 16 #[v] w (Mk w fun w' u => OwnC w.heap.size w'.heap.size w' u c) := by
  obtain ⟨⟨vf, vt, vi, vc, rfl, h1, h2, h3, h4⟩, hn⟩ := h
  have HN := Lib.hid hn
  have T0 := TC.start w 25 29 #[.int .i64 c.n, vf, vt, vi, vc] #[.int .i64 0, .slice none 0 0, .slice none 0 0, .slice none 0 0, .slice none 0 0] #[.int .i64 c.n, .slice none 0 0, .slice none 0 0, .slice none 0 0, .slice none 0 0] rfl rfl rfl
  clear hn
  go_enter Try.func16, Try.ntmps16
  go_wp2_with fail
  generalize (((w.alloc (.cells #[.int .i64 c.n, vf, vt, vi, vc] 25)).alloc (.cells #[.int .i64 0, .slice none 0 0, .slice none 0 0, .slice none 0 0, .slice none 0 0] 29)).alloc (.cells #[.int .i64 c.n, .slice none 0 0, .slice none 0 0, .slice none 0 0, .slice none 0 0] 29)) = W0 at *
  refine (c_toInt64S (h1.kept T0.b)).mono ?_
  rintro e V1 ⟨ru1, rfl, o1, b1⟩
  obtain ⟨ra1, rc1, rfl⟩ := o1.shape
  have S1 := T0.call b1
  have z1 := b1.size
  have y1 := T0.lt
  have q0 : V1.cell? ⟨w.heap.size + 1 + 1, 1, none⟩ = some (.slice none 0 0) := S1.o.cell (show 1 < 5 by omega)
  have q1 := S1.o.frozen 1
  have q2 : V1.cell? ⟨w.heap.size, 2, none⟩ = some vt := S1.a.cell (show 2 < 5 by omega)
  clear b1
  go_wp2_with fail
  have T1 := S1.put 1 (.slice ra1 c.fr.length rc1)
  have m1 : Within (w.heap.size + 1 + 1) (w.heap.size + 1 + 1 + 1) V1 (V1.setCell ⟨w.heap.size + 1 + 1, 1, none⟩ (.slice ra1 c.fr.length rc1)) := within_set _ _ _ _
  have x1 : (V1.setCell ⟨w.heap.size + 1 + 1, 1, none⟩ (.slice ra1 c.fr.length rc1)).heap.size = V1.heap.size := by simp [World.setCell]
  replace o1 := o1.kept m1 (by omega)
  clear m1 S1 q0 q1 q2
  generalize V1.setCell ⟨w.heap.size + 1 + 1, 1, none⟩ (.slice ra1 c.fr.length rc1) = W1 at *
  refine (c_toInt64S (h2.kept T1.b)).mono ?_
  rintro e V2 ⟨ru2, rfl, o2, b2⟩
  obtain ⟨ra2, rc2, rfl⟩ := o2.shape
  have S2 := T1.call b2
  have z2 := b2.size
  have y2 := T1.lt
  replace o1 := o1.kept (below_within b2 W1.heap.size) (by omega)
  have q0 : V2.cell? ⟨w.heap.size + 1 + 1, 2, none⟩ = some (.slice none 0 0) := S2.o.cell (show 2 < 5 by omega)
  have q1 := S2.o.frozen 2
  have q2 : V2.cell? ⟨w.heap.size, 3, none⟩ = some vi := S2.a.cell (show 3 < 5 by omega)
  clear b2
  go_wp2_with fail
  have T2 := S2.put 2 (.slice ra2 c.to.length rc2)
  have m2 : Within (w.heap.size + 1 + 1) (w.heap.size + 1 + 1 + 1) V2 (V2.setCell ⟨w.heap.size + 1 + 1, 2, none⟩ (.slice ra2 c.to.length rc2)) := within_set _ _ _ _
  have x2 : (V2.setCell ⟨w.heap.size + 1 + 1, 2, none⟩ (.slice ra2 c.to.length rc2)).heap.size = V2.heap.size := by simp [World.setCell]
  replace o1 := o1.kept m2 (by omega)
  replace o2 := o2.kept m2 (by omega)
  clear m2 S2 q0 q1 q2
  generalize V2.setCell ⟨w.heap.size + 1 + 1, 2, none⟩ (.slice ra2 c.to.length rc2) = W2 at *
  refine (c_toInt64S (h3.kept T2.b)).mono ?_
  rintro e V3 ⟨ru3, rfl, o3, b3⟩
  obtain ⟨ra3, rc3, rfl⟩ := o3.shape
  have S3 := T2.call b3
  have z3 := b3.size
  have y3 := T2.lt
  replace o1 := o1.kept (below_within b3 W2.heap.size) (by omega)
  replace o2 := o2.kept (below_within b3 W2.heap.size) (by omega)
  have q0 : V3.cell? ⟨w.heap.size + 1 + 1, 3, none⟩ = some (.slice none 0 0) := S3.o.cell (show 3 < 5 by omega)
  have q1 := S3.o.frozen 3
  have q2 : V3.cell? ⟨w.heap.size, 4, none⟩ = some vc := S3.a.cell (show 4 < 5 by omega)
  clear b3
  go_wp2_with fail
  have T3 := S3.put 3 (.slice ra3 c.id.length rc3)
  have m3 : Within (w.heap.size + 1 + 1) (w.heap.size + 1 + 1 + 1) V3 (V3.setCell ⟨w.heap.size + 1 + 1, 3, none⟩ (.slice ra3 c.id.length rc3)) := within_set _ _ _ _
  have x3 : (V3.setCell ⟨w.heap.size + 1 + 1, 3, none⟩ (.slice ra3 c.id.length rc3)).heap.size = V3.heap.size := by simp [World.setCell]
  replace o1 := o1.kept m3 (by omega)
  replace o2 := o2.kept m3 (by omega)
  replace o3 := o3.kept m3 (by omega)
  clear m3 S3 q0 q1 q2
  generalize V3.setCell ⟨w.heap.size + 1 + 1, 3, none⟩ (.slice ra3 c.id.length rc3) = W3 at *
  refine (c_toInt64SS (h4.kept T3.b)).mono ?_
  rintro e V4 ⟨ru4, rfl, o4, b4⟩
  obtain ⟨ra4, rc4, rfl⟩ := o4.shape
  have S4 := T3.call b4
  have z4 := b4.size
  have y4 := T3.lt
  replace o1 := o1.kept (below_within b4 W3.heap.size) (by omega)
  replace o2 := o2.kept (below_within b4 W3.heap.size) (by omega)
  replace o3 := o3.kept (below_within b4 W3.heap.size) (by omega)
  have q0 : V4.cell? ⟨w.heap.size + 1 + 1, 4, none⟩ = some (.slice none 0 0) := S4.o.cell (show 4 < 5 by omega)
  have q1 := S4.o.frozen 4
  have p1 : V4.cell? ⟨w.heap.size + 1 + 1, 1, none⟩ = some (.slice ra1 c.fr.length rc1) := S4.o.cell (show 1 < 5 by omega)
  have p2 : V4.cell? ⟨w.heap.size + 1 + 1, 2, none⟩ = some (.slice ra2 c.to.length rc2) := S4.o.cell (show 2 < 5 by omega)
  have p3 : V4.cell? ⟨w.heap.size + 1 + 1, 3, none⟩ = some (.slice ra3 c.id.length rc3) := S4.o.cell (show 3 < 5 by omega)
  have p0 : V4.cell? ⟨w.heap.size + 1 + 1, 0, none⟩ = some (.int .i64 c.n) := S4.o.cell (show 0 < 5 by omega)
  have r0 := S4.r.cell (show 0 < 5 by omega)
  have g0 := S4.r.frozen 0
  have r1 := S4.r.cell (show 1 < 5 by omega)
  have g1 := S4.r.frozen 1
  have r2 := S4.r.cell (show 2 < 5 by omega)
  have g2 := S4.r.frozen 2
  have r3 := S4.r.cell (show 3 < 5 by omega)
  have g3 := S4.r.frozen 3
  have r4 := S4.r.cell (show 4 < 5 by omega)
  have g4 := S4.r.frozen 4
  go_wp2_with fail
  have T4 := (((((S4.put 4 (.slice ra4 c.cm.length rc4)).res 0 (.int .i64 c.n)).res 1 (.slice ra1 c.fr.length rc1)).res 2 (.slice ra2 c.to.length rc2)).res 3 (.slice ra3 c.id.length rc3)).res 4 (.slice ra4 c.cm.length rc4)
  have M : Within (w.heap.size + 1) (w.heap.size + 1 + 1 + 1) V4 ((((((V4.setCell ⟨w.heap.size + 1 + 1, 4, none⟩ (.slice ra4 c.cm.length rc4)).setCell ⟨w.heap.size + 1, 0, none⟩ (.int .i64 c.n)).setCell ⟨w.heap.size + 1, 1, none⟩ (.slice ra1 c.fr.length rc1)).setCell ⟨w.heap.size + 1, 2, none⟩ (.slice ra2 c.to.length rc2)).setCell ⟨w.heap.size + 1, 3, none⟩ (.slice ra3 c.id.length rc3)).setCell ⟨w.heap.size + 1, 4, none⟩ (.slice ra4 c.cm.length rc4)) := (((((((Within.refl (w.heap.size + 1) (w.heap.size + 1 + 1 + 1) V4).setCell (p := ⟨w.heap.size + 1 + 1, 4, none⟩) (by simp) (by simp) (.slice ra4 c.cm.length rc4)).setCell (p := ⟨w.heap.size + 1, 0, none⟩) (by simp) (by simp) (.int .i64 c.n)).setCell (p := ⟨w.heap.size + 1, 1, none⟩) (by simp) (by simp) (.slice ra1 c.fr.length rc1)).setCell (p := ⟨w.heap.size + 1, 2, none⟩) (by simp) (by simp) (.slice ra2 c.to.length rc2)).setCell (p := ⟨w.heap.size + 1, 3, none⟩) (by simp) (by simp) (.slice ra3 c.id.length rc3)).setCell (p := ⟨w.heap.size + 1, 4, none⟩) (by simp) (by simp) (.slice ra4 c.cm.length rc4))
  have X : ((((((V4.setCell ⟨w.heap.size + 1 + 1, 4, none⟩ (.slice ra4 c.cm.length rc4)).setCell ⟨w.heap.size + 1, 0, none⟩ (.int .i64 c.n)).setCell ⟨w.heap.size + 1, 1, none⟩ (.slice ra1 c.fr.length rc1)).setCell ⟨w.heap.size + 1, 2, none⟩ (.slice ra2 c.to.length rc2)).setCell ⟨w.heap.size + 1, 3, none⟩ (.slice ra3 c.id.length rc3)).setCell ⟨w.heap.size + 1, 4, none⟩ (.slice ra4 c.cm.length rc4)).heap.size = V4.heap.size := by simp [World.setCell]
  refine bodyPost_ret (results_cell_row rfl _ _ (w.heap.size + 1) 29 #[(.int .i64 c.n), (.slice ra1 c.fr.length rc1), (.slice ra2 c.to.length rc2), (.slice ra3 c.id.length rc3), (.slice ra4 c.cm.length rc4)] (0, 0) _ (by rfl) (rowIs_lit T4.r (five_rows _ _ _ _ _)) Try.underlying29 rfl (by kernel_rfl)) rfl ?_
  have B4 := T4.b
  clear T4 S4 T3 T2 T1 T0
  generalize ((((((V4.setCell ⟨w.heap.size + 1 + 1, 4, none⟩ (.slice ra4 c.cm.length rc4)).setCell ⟨w.heap.size + 1, 0, none⟩ (.int .i64 c.n)).setCell ⟨w.heap.size + 1, 1, none⟩ (.slice ra1 c.fr.length rc1)).setCell ⟨w.heap.size + 1, 2, none⟩ (.slice ra2 c.to.length rc2)).setCell ⟨w.heap.size + 1, 3, none⟩ (.slice ra3 c.id.length rc3)).setCell ⟨w.heap.size + 1, 4, none⟩ (.slice ra4 c.cm.length rc4)) = W4 at *
  have r1 := o1.kept M (by omega)
  have r2 := o2.kept M (by omega)
  have r3 := o3.kept M (by omega)
  have r4 := o4.kept M (by omega)
  exact ⟨_, rfl, ⟨⟨_, _, _, _, _, _, _, _, _, _, _, rfl, r1, r2, r3, by rw [X]; exact r4, by omega, by omega⟩, HN.out, Nat.le_refl _⟩, B4⟩
theorem keep9 {w0 w1 w2 : World} {p0 p1 p2 p3 p4 p5 p6 p7 p8 : Addr} {v0 v1 v2 v3 v4 v5 v6 v7 v8 : Value} (h : Below w0.heap.size w0 w1 ∧ w1.cell? p0 = some v0 ∧ w1.cell? p1 = some v1 ∧ w1.cell? p2 = some v2 ∧ w1.cell? p3 = some v3 ∧ w1.cell? p4 = some v4 ∧ w1.cell? p5 = some v5 ∧ w1.cell? p6 = some v6 ∧ w1.cell? p7 = some v7 ∧ w1.cell? p8 = some v8) (hb : Below w1.heap.size w1 w2) : Below w0.heap.size w0 w2 ∧ w2.cell? p0 = some v0 ∧ w2.cell? p1 = some v1 ∧ w2.cell? p2 = some v2 ∧ w2.cell? p3 = some v3 ∧ w2.cell? p4 = some v4 ∧ w2.cell? p5 = some v5 ∧ w2.cell? p6 = some v6 ∧ w2.cell? p7 = some v7 ∧ w2.cell? p8 = some v8 := ⟨bel_next h.1 hb, up_cell hb h.2.1, up_cell hb h.2.2.1, up_cell hb h.2.2.2.1, up_cell hb h.2.2.2.2.1, up_cell hb h.2.2.2.2.2.1, up_cell hb h.2.2.2.2.2.2.1, up_cell hb h.2.2.2.2.2.2.2.1, up_cell hb h.2.2.2.2.2.2.2.2.1, up_cell hb h.2.2.2.2.2.2.2.2.2⟩
theorem keep10 {w0 w1 w2 : World} {p0 p1 p2 p3 p4 p5 p6 p7 p8 p9 : Addr} {v0 v1 v2 v3 v4 v5 v6 v7 v8 v9 : Value} (h : Below w0.heap.size w0 w1 ∧ w1.cell? p0 = some v0 ∧ w1.cell? p1 = some v1 ∧ w1.cell? p2 = some v2 ∧ w1.cell? p3 = some v3 ∧ w1.cell? p4 = some v4 ∧ w1.cell? p5 = some v5 ∧ w1.cell? p6 = some v6 ∧ w1.cell? p7 = some v7 ∧ w1.cell? p8 = some v8 ∧ w1.cell? p9 = some v9) (hb : Below w1.heap.size w1 w2) : Below w0.heap.size w0 w2 ∧ w2.cell? p0 = some v0 ∧ w2.cell? p1 = some v1 ∧ w2.cell? p2 = some v2 ∧ w2.cell? p3 = some v3 ∧ w2.cell? p4 = some v4 ∧ w2.cell? p5 = some v5 ∧ w2.cell? p6 = some v6 ∧ w2.cell? p7 = some v7 ∧ w2.cell? p8 = some v8 ∧ w2.cell? p9 = some v9 := ⟨bel_next h.1 hb, up_cell hb h.2.1, up_cell hb h.2.2.1, up_cell hb h.2.2.2.1, up_cell hb h.2.2.2.2.1, up_cell hb h.2.2.2.2.2.1, up_cell hb h.2.2.2.2.2.2.1, up_cell hb h.2.2.2.2.2.2.2.1, up_cell hb h.2.2.2.2.2.2.2.2.1, up_cell hb h.2.2.2.2.2.2.2.2.2.1, up_cell hb h.2.2.2.2.2.2.2.2.2.2⟩
theorem keep11 {w0 w1 w2 : World} {p0 p1 p2 p3 p4 p5 p6 p7 p8 p9 p10 : Addr} {v0 v1 v2 v3 v4 v5 v6 v7 v8 v9 v10 : Value} (h : Below w0.heap.size w0 w1 ∧ w1.cell? p0 = some v0 ∧ w1.cell? p1 = some v1 ∧ w1.cell? p2 = some v2 ∧ w1.cell? p3 = some v3 ∧ w1.cell? p4 = some v4 ∧ w1.cell? p5 = some v5 ∧ w1.cell? p6 = some v6 ∧ w1.cell? p7 = some v7 ∧ w1.cell? p8 = some v8 ∧ w1.cell? p9 = some v9 ∧ w1.cell? p10 = some v10) (hb : Below w1.heap.size w1 w2) : Below w0.heap.size w0 w2 ∧ w2.cell? p0 = some v0 ∧ w2.cell? p1 = some v1 ∧ w2.cell? p2 = some v2 ∧ w2.cell? p3 = some v3 ∧ w2.cell? p4 = some v4 ∧ w2.cell? p5 = some v5 ∧ w2.cell? p6 = some v6 ∧ w2.cell? p7 = some v7 ∧ w2.cell? p8 = some v8 ∧ w2.cell? p9 = some v9 ∧ w2.cell? p10 = some v10 := ⟨bel_next h.1 hb, up_cell hb h.2.1, up_cell hb h.2.2.1, up_cell hb h.2.2.2.1, up_cell hb h.2.2.2.2.1, up_cell hb h.2.2.2.2.2.1, up_cell hb h.2.2.2.2.2.2.1, up_cell hb h.2.2.2.2.2.2.2.1, up_cell hb h.2.2.2.2.2.2.2.2.1, up_cell hb h.2.2.2.2.2.2.2.2.2.1, up_cell hb h.2.2.2.2.2.2.2.2.2.2.1, up_cell hb h.2.2.2.2.2.2.2.2.2.2.2⟩
theorem keep12 {w0 w1 w2 : World} {p0 p1 p2 p3 p4 p5 p6 p7 p8 p9 p10 p11 : Addr} {v0 v1 v2 v3 v4 v5 v6 v7 v8 v9 v10 v11 : Value} (h : Below w0.heap.size w0 w1 ∧ w1.cell? p0 = some v0 ∧ w1.cell? p1 = some v1 ∧ w1.cell? p2 = some v2 ∧ w1.cell? p3 = some v3 ∧ w1.cell? p4 = some v4 ∧ w1.cell? p5 = some v5 ∧ w1.cell? p6 = some v6 ∧ w1.cell? p7 = some v7 ∧ w1.cell? p8 = some v8 ∧ w1.cell? p9 = some v9 ∧ w1.cell? p10 = some v10 ∧ w1.cell? p11 = some v11) (hb : Below w1.heap.size w1 w2) : Below w0.heap.size w0 w2 ∧ w2.cell? p0 = some v0 ∧ w2.cell? p1 = some v1 ∧ w2.cell? p2 = some v2 ∧ w2.cell? p3 = some v3 ∧ w2.cell? p4 = some v4 ∧ w2.cell? p5 = some v5 ∧ w2.cell? p6 = some v6 ∧ w2.cell? p7 = some v7 ∧ w2.cell? p8 = some v8 ∧ w2.cell? p9 = some v9 ∧ w2.cell? p10 = some v10 ∧ w2.cell? p11 = some v11 := ⟨bel_next h.1 hb, up_cell hb h.2.1, up_cell hb h.2.2.1, up_cell hb h.2.2.2.1, up_cell hb h.2.2.2.2.1, up_cell hb h.2.2.2.2.2.1, up_cell hb h.2.2.2.2.2.2.1, up_cell hb h.2.2.2.2.2.2.2.1, up_cell hb h.2.2.2.2.2.2.2.2.1, up_cell hb h.2.2.2.2.2.2.2.2.2.1, up_cell hb h.2.2.2.2.2.2.2.2.2.2.1, up_cell hb h.2.2.2.2.2.2.2.2.2.2.2.1, up_cell hb h.2.2.2.2.2.2.2.2.2.2.2.2⟩
theorem keep13 {w0 w1 w2 : World} {p0 p1 p2 p3 p4 p5 p6 p7 p8 p9 p10 p11 p12 : Addr} {v0 v1 v2 v3 v4 v5 v6 v7 v8 v9 v10 v11 v12 : Value} (h : Below w0.heap.size w0 w1 ∧ w1.cell? p0 = some v0 ∧ w1.cell? p1 = some v1 ∧ w1.cell? p2 = some v2 ∧ w1.cell? p3 = some v3 ∧ w1.cell? p4 = some v4 ∧ w1.cell? p5 = some v5 ∧ w1.cell? p6 = some v6 ∧ w1.cell? p7 = some v7 ∧ w1.cell? p8 = some v8 ∧ w1.cell? p9 = some v9 ∧ w1.cell? p10 = some v10 ∧ w1.cell? p11 = some v11 ∧ w1.cell? p12 = some v12) (hb : Below w1.heap.size w1 w2) : Below w0.heap.size w0 w2 ∧ w2.cell? p0 = some v0 ∧ w2.cell? p1 = some v1 ∧ w2.cell? p2 = some v2 ∧ w2.cell? p3 = some v3 ∧ w2.cell? p4 = some v4 ∧ w2.cell? p5 = some v5 ∧ w2.cell? p6 = some v6 ∧ w2.cell? p7 = some v7 ∧ w2.cell? p8 = some v8 ∧ w2.cell? p9 = some v9 ∧ w2.cell? p10 = some v10 ∧ w2.cell? p11 = some v11 ∧ w2.cell? p12 = some v12 := ⟨bel_next h.1 hb, up_cell hb h.2.1, up_cell hb h.2.2.1, up_cell hb h.2.2.2.1, up_cell hb h.2.2.2.2.1, up_cell hb h.2.2.2.2.2.1, up_cell hb h.2.2.2.2.2.2.1, up_cell hb h.2.2.2.2.2.2.2.1, up_cell hb h.2.2.2.2.2.2.2.2.1, up_cell hb h.2.2.2.2.2.2.2.2.2.1, up_cell hb h.2.2.2.2.2.2.2.2.2.2.1, up_cell hb h.2.2.2.2.2.2.2.2.2.2.2.1, up_cell hb h.2.2.2.2.2.2.2.2.2.2.2.2.1, up_cell hb h.2.2.2.2.2.2.2.2.2.2.2.2.2⟩
theorem keep14 {w0 w1 w2 : World} {p0 p1 p2 p3 p4 p5 p6 p7 p8 p9 p10 p11 p12 p13 : Addr} {v0 v1 v2 v3 v4 v5 v6 v7 v8 v9 v10 v11 v12 v13 : Value} (h : Below w0.heap.size w0 w1 ∧ w1.cell? p0 = some v0 ∧ w1.cell? p1 = some v1 ∧ w1.cell? p2 = some v2 ∧ w1.cell? p3 = some v3 ∧ w1.cell? p4 = some v4 ∧ w1.cell? p5 = some v5 ∧ w1.cell? p6 = some v6 ∧ w1.cell? p7 = some v7 ∧ w1.cell? p8 = some v8 ∧ w1.cell? p9 = some v9 ∧ w1.cell? p10 = some v10 ∧ w1.cell? p11 = some v11 ∧ w1.cell? p12 = some v12 ∧ w1.cell? p13 = some v13) (hb : Below w1.heap.size w1 w2) : Below w0.heap.size w0 w2 ∧ w2.cell? p0 = some v0 ∧ w2.cell? p1 = some v1 ∧ w2.cell? p2 = some v2 ∧ w2.cell? p3 = some v3 ∧ w2.cell? p4 = some v4 ∧ w2.cell? p5 = some v5 ∧ w2.cell? p6 = some v6 ∧ w2.cell? p7 = some v7 ∧ w2.cell? p8 = some v8 ∧ w2.cell? p9 = some v9 ∧ w2.cell? p10 = some v10 ∧ w2.cell? p11 = some v11 ∧ w2.cell? p12 = some v12 ∧ w2.cell? p13 = some v13 := ⟨bel_next h.1 hb, up_cell hb h.2.1, up_cell hb h.2.2.1, up_cell hb h.2.2.2.1, up_cell hb h.2.2.2.2.1, up_cell hb h.2.2.2.2.2.1, up_cell hb h.2.2.2.2.2.2.1, up_cell hb h.2.2.2.2.2.2.2.1, up_cell hb h.2.2.2.2.2.2.2.2.1, up_cell hb h.2.2.2.2.2.2.2.2.2.1, up_cell hb h.2.2.2.2.2.2.2.2.2.2.1, up_cell hb h.2.2.2.2.2.2.2.2.2.2.2.1, up_cell hb h.2.2.2.2.2.2.2.2.2.2.2.2.1, up_cell hb h.2.2.2.2.2.2.2.2.2.2.2.2.2.1, up_cell hb h.2.2.2.2.2.2.2.2.2.2.2.2.2.2⟩
theorem keep15 {w0 w1 w2 : World} {p0 p1 p2 p3 p4 p5 p6 p7 p8 p9 p10 p11 p12 p13 p14 : Addr} {v0 v1 v2 v3 v4 v5 v6 v7 v8 v9 v10 v11 v12 v13 v14 : Value} (h : Below w0.heap.size w0 w1 ∧ w1.cell? p0 = some v0 ∧ w1.cell? p1 = some v1 ∧ w1.cell? p2 = some v2 ∧ w1.cell? p3 = some v3 ∧ w1.cell? p4 = some v4 ∧ w1.cell? p5 = some v5 ∧ w1.cell? p6 = some v6 ∧ w1.cell? p7 = some v7 ∧ w1.cell? p8 = some v8 ∧ w1.cell? p9 = some v9 ∧ w1.cell? p10 = some v10 ∧ w1.cell? p11 = some v11 ∧ w1.cell? p12 = some v12 ∧ w1.cell? p13 = some v13 ∧ w1.cell? p14 = some v14) (hb : Below w1.heap.size w1 w2) : Below w0.heap.size w0 w2 ∧ w2.cell? p0 = some v0 ∧ w2.cell? p1 = some v1 ∧ w2.cell? p2 = some v2 ∧ w2.cell? p3 = some v3 ∧ w2.cell? p4 = some v4 ∧ w2.cell? p5 = some v5 ∧ w2.cell? p6 = some v6 ∧ w2.cell? p7 = some v7 ∧ w2.cell? p8 = some v8 ∧ w2.cell? p9 = some v9 ∧ w2.cell? p10 = some v10 ∧ w2.cell? p11 = some v11 ∧ w2.cell? p12 = some v12 ∧ w2.cell? p13 = some v13 ∧ w2.cell? p14 = some v14 := ⟨bel_next h.1 hb, up_cell hb h.2.1, up_cell hb h.2.2.1, up_cell hb h.2.2.2.1, up_cell hb h.2.2.2.2.1, up_cell hb h.2.2.2.2.2.1, up_cell hb h.2.2.2.2.2.2.1, up_cell hb h.2.2.2.2.2.2.2.1, up_cell hb h.2.2.2.2.2.2.2.2.1, up_cell hb h.2.2.2.2.2.2.2.2.2.1, up_cell hb h.2.2.2.2.2.2.2.2.2.2.1, up_cell hb h.2.2.2.2.2.2.2.2.2.2.2.1, up_cell hb h.2.2.2.2.2.2.2.2.2.2.2.2.1, up_cell hb h.2.2.2.2.2.2.2.2.2.2.2.2.2.1, up_cell hb h.2.2.2.2.2.2.2.2.2.2.2.2.2.2.1, up_cell hb h.2.2.2.2.2.2.2.2.2.2.2.2.2.2.2⟩
theorem OwnC.shape {B T : Nat} {w : World} {v : Value} {c : Cat} (h : OwnC B T w v c) : ∃ aF aT aI aC kF kT kI kC, v = .agg #[.int .i64 c.n, .slice aF c.fr.length kF, .slice aT c.to.length kT, .slice aI c.id.length kI, .slice aC c.cm.length kC] := by
  obtain ⟨⟨vf, vt, vi, vc, gf, tf, gt, tt, gi, ti, T1, rfl, h1, h2, h3, h4, -⟩, -⟩ := h
  obtain ⟨aF, kF, rfl⟩ := h1.shape
  obtain ⟨aT, kT, rfl⟩ := h2.shape
  obtain ⟨aI, kI, rfl⟩ := h3.shape
  obtain ⟨aC, kC, rfl⟩ := h4.shape
  exact ⟨aF, aT, aI, aC, kF, kT, kI, kC, rfl⟩
theorem within_cell {B T : Nat} {w w' : World} (h : Within B T w w') {b i : Nat} {v : Value} (hc : w.cell? ⟨b, i, none⟩ = some v) (hd : b < B ∨ T ≤ b) : w'.cell? ⟨b, i, none⟩ = some v := by
  have e := h.block b hd (World.block_lt_of_cell? w ⟨b, i, none⟩ hc)
  have ec : w'.cell? ⟨b, i, none⟩ = w.cell? ⟨b, i, none⟩ := by simp only [World.cell?, e]
  rw [ec]; exact hc
/-- A category whose tables hold k, k + 1, .. -/
def mkC (k : Int) (c : Cat) : Cat := ⟨c.n, mkI k c.fr.length, mkI (k + c.fr.length) c.to.length, mkI (k + c.fr.length + c.to.length) c.id.length, mkSS (k + c.fr.length + c.to.length + c.id.length) (gr c.cm) c.cm.length⟩
set_option maxHeartbeats 800000 in
theorem c_markCategory {B T : Nat} {w : World} {v : Value} {c : Cat} (h : OwnC B T w v c) (k : Int) (hk : 0 ≤ k) (hk' : k + (szc c : Int) ≤ 4611686018427387904) :
    Calls Try.prog 34 #[v, .int .i64 k] w (fun e w' => e = .returned (.int .i64 (k + (szc c : Int))) ∧ OwnC B T w' v (mkC k c) ∧ Within B T w w') := by
  obtain ⟨⟨vf, vt, vi, vc, gf, tf, gt, tt, gi, ti, T1, rfl, h1, h2, h3, h4, h5, h6⟩, hn, htop⟩ := h
  have HN := Lib.hid hn
  have bb := bel_box w (.cells #[.int .i64 c.n, vf, vt, vi, vc] 29)
  have c1 : (w.alloc (.cells #[.int .i64 c.n, vf, vt, vi, vc] 29)).cell? ⟨w.heap.size, 1, none⟩ = some vf := by simp
  have c2 : (w.alloc (.cells #[.int .i64 c.n, vf, vt, vi, vc] 29)).cell? ⟨w.heap.size, 2, none⟩ = some vt := by simp
  have c3 : (w.alloc (.cells #[.int .i64 c.n, vf, vt, vi, vc] 29)).cell? ⟨w.heap.size, 3, none⟩ = some vi := by simp
  have c4 : (w.alloc (.cells #[.int .i64 c.n, vf, vt, vi, vc] 29)).cell? ⟨w.heap.size, 4, none⟩ = some vc := by simp
  have M0 := (below_within bb B).mono (Nat.le_refl _) (show B ≤ T by omega)
  have hsz : (szc c : Int) = c.fr.length + c.to.length + c.id.length + pS (gr c.cm) c.cm.length := by unfold szc; omega
  have HSZ := Lib.hid hsz
  have o1 := h1.keptB bb
  have o2 := h2.keptB bb
  have o3 := h3.keptB bb
  have o4 := h4.kept (below_within bb w.heap.size) (by omega)
  have e1 : IntKind.i64.wrap 0 = 0 := rfl
  rw [hsz] at hk'
  clear hn hsz bb h1 h2 h3 h4 e1
  go_enter Try.func34, Try.ntmps34
  go_wp2_with fail
  generalize w.alloc (.cells #[.int .i64 c.n, vf, vt, vi, vc] 29) = W0 at *
  refine (c_markInt64S o1 k hk (by omega)).mono ?_
  rintro e W1 ⟨rfl, p1, m1⟩
  replace o2 := o2.kept m1 (by omega)
  replace o3 := o3.kept m1 (by omega)
  replace o4 := o4.kept m1 (by omega)
  replace c2 := within_cell m1 c2 (by omega)
  replace c3 := within_cell m1 c3 (by omega)
  replace c4 := within_cell m1 c4 (by omega)
  have M1 := M0.trans (m1.mono (by omega) (by omega))
  clear M0 m1 o1 c1
  go_wp2_with fail
  refine (c_markInt64S o2 _ (by omega) (by omega)).mono ?_
  rintro e W2 ⟨rfl, p2, m1⟩
  replace p1 := p1.kept m1 (by omega)
  replace o3 := o3.kept m1 (by omega)
  replace o4 := o4.kept m1 (by omega)
  replace c3 := within_cell m1 c3 (by omega)
  replace c4 := within_cell m1 c4 (by omega)
  have M2 := M1.trans (m1.mono (by omega) (by omega))
  clear M1 m1 o2 c2
  go_wp2_with fail
  refine (c_markInt64S o3 _ (by omega) (by omega)).mono ?_
  rintro e W3 ⟨rfl, p3, m1⟩
  replace p1 := p1.kept m1 (by omega)
  replace p2 := p2.kept m1 (by omega)
  replace o4 := o4.kept m1 (by omega)
  replace c4 := within_cell m1 c4 (by omega)
  have M3 := M2.trans (m1.mono (by omega) (by omega))
  clear M2 m1 o3 c3
  go_wp2_with fail
  refine (c_markInt64SS o4 _ (by omega) (by omega)).mono ?_
  rintro e W4 ⟨rfl, p4, m1⟩
  replace p1 := p1.kept m1 (by omega)
  replace p2 := p2.kept m1 (by omega)
  replace p3 := p3.kept m1 (by omega)
  have M4 := M3.trans (m1.mono (by omega) (by omega))
  have ht4 := M4.size
  clear M3 m1 o4 c4
  go_wp2_with fail
  go_ret
  exact ⟨ret_i (by rw [HSZ.out]; omega), ⟨⟨vf, vt, vi, vc, gf, tf, gt, tt, gi, ti, T1, rfl, p1, p2, p3, p4, h5, h6⟩, HN.out, by omega⟩, M4⟩
end Go.Proofs.Ytkmkbmhpdnddnaa
