/-
  Categories as results: a category of the call's own whose four tables lie apart; the laws' eqCategory, markCategory, heldCategory on it.
-/
import Derived.Test.YtllbjckbinolmaaCopy
import Derived.Test.YtllbjckbinolmaaCat
namespace Go.Proofs.Ytllbjckbinolmaa
open Go.RowKit

theorem OwnT.shape {E : TypeId} {B T : Nat} {w : World} {v : Value} {xs : List Int} (h : OwnT E B T w v xs) : ∃ ao c, v = .slice ao xs.length c := h.own.shape
theorem OwnSS.shape {E E' : TypeId} {B T : Nat} {w : World} {v : Value} {xss : List (List Int)} (h : OwnSS E E' B T w v xss) : ∃ ao c, v = .slice ao xss.length c := by
  obtain ⟨ao, b, o, c, R, hv, -⟩ := h.is.ex
  exact ⟨ao, c, hv⟩
/-- How many numbers a category's tables hold. -/
def szc (c : Cat) : Nat := c.fr.length + c.to.length + c.id.length + pS (gr c.cm) c.cm.length
/-- A category of the call's own: its tables lie apart, from block B on, below T. -/
structure OwnC (B T : Nat) (w : World) (v : Value) (c : Cat) : Prop where
  ex : ∃ (vf vt vi vc : Value) (gf tf gt tt gi ti gc tc : Nat), v = .agg #[.int .i64 c.n, vf, vt, vi, vc] ∧ OwnT 2 gf tf w vf c.fr ∧ OwnT 2 gt tt w vt c.to ∧ OwnT 2 gi ti w vi c.id ∧ OwnSS 2 22 gc tc w vc c.cm ∧
    (B ≤ gf ∧ tf ≤ T ∧ B ≤ gt ∧ tt ≤ T ∧ B ≤ gi ∧ ti ≤ T ∧ B ≤ gc ∧ tc ≤ T) ∧ ((tf ≤ gt ∨ tt ≤ gf) ∧ (tf ≤ gi ∨ ti ≤ gf) ∧ (tt ≤ gi ∨ ti ≤ gt) ∧ (tf ≤ gc ∨ tc ≤ gf) ∧ (tt ≤ gc ∨ tc ≤ gt) ∧ (ti ≤ gc ∨ tc ≤ gi))
  n : I64 c.n
  top : T ≤ w.heap.size
  bt : B ≤ T
theorem OwnC.is {B T : Nat} {w : World} {v : Value} {c : Cat} (h : OwnC B T w v c) : IC w v c := by
  obtain ⟨⟨vf, vt, vi, vc, gf, tf, gt, tt, gi, ti, gc, tc, rfl, h1, h2, h3, h4, -, -⟩, hn, htop, -⟩ := h
  exact ⟨⟨vf, vt, vi, vc, rfl, h1.is, h2.is, h3.is, h4.is⟩, hn⟩
theorem OwnC.size {B T : Nat} {w : World} {v : Value} {c : Cat} (h : OwnC B T w v c) : szc c ≤ 1200000000000 := by
  obtain ⟨⟨vf, vt, vi, vc, gf, tf, gt, tt, gi, ti, gc, tc, rfl, h1, h2, h3, h4, -, -⟩, hn, htop, -⟩ := h
  have := h1.own.len; have := h2.own.len; have := h3.own.len; have := h4.size
  unfold szc; omega
theorem OwnC.kept {B T B' T' : Nat} {w w' : World} {v : Value} {c : Cat} (h : OwnC B T w v c) (hb : Within B' T' w w') (hd : T ≤ B' ∨ T' ≤ B) : OwnC B T w' v c := by
  obtain ⟨⟨vf, vt, vi, vc, gf, tf, gt, tt, gi, ti, gc, tc, rfl, h1, h2, h3, h4, h5, h6⟩, hn, htop, hbt⟩ := h
  have hs := hb.size
  refine ⟨⟨vf, vt, vi, vc, gf, tf, gt, tt, gi, ti, gc, tc, rfl, h1.kept hb ?_, h2.kept hb ?_, h3.kept hb ?_, h4.kept hb ?_, h5, h6⟩, hn, by omega, hbt⟩ <;> (clear h6; omega)
theorem OwnC.shape {B T : Nat} {w : World} {v : Value} {c : Cat} (h : OwnC B T w v c) : ∃ aF aT aI aC kF kT kI kC, v = .agg #[.int .i64 c.n, .slice aF c.fr.length kF, .slice aT c.to.length kT, .slice aI c.id.length kI, .slice aC c.cm.length kC] := by
  obtain ⟨⟨vf, vt, vi, vc, gf, tf, gt, tt, gi, ti, gc, tc, rfl, h1, h2, h3, h4, -⟩, -⟩ := h
  obtain ⟨aF, kF, rfl⟩ := h1.shape
  obtain ⟨aT, kT, rfl⟩ := h2.shape
  obtain ⟨aI, kI, rfl⟩ := h3.shape
  obtain ⟨aC, kC, rfl⟩ := h4.shape
  exact ⟨aF, aT, aI, aC, kF, kT, kI, kC, rfl⟩
def nilC : Cat := ⟨0, [], [], [], []⟩
theorem OwnT.nil (E : TypeId) (B T : Nat) (w : World) : OwnT E B T w (.slice none 0 0) [] := ⟨Own.nil _ _ _, fun k hk => by simp [Value.ownBlock] at hk⟩
theorem OwnC.nil {B : Nat} {w : World} (hB : B ≤ w.heap.size) : OwnC B w.heap.size w (.agg #[.int .i64 0, .slice none 0 0, .slice none 0 0, .slice none 0 0, .slice none 0 0]) nilC :=
  ⟨⟨_, _, _, _, B, B, B, B, B, B, B, B, rfl, OwnT.nil _ _ _ _, OwnT.nil _ _ _ _, OwnT.nil _ _ _ _, ⟨OF.nil, by simp [nilC], by simp [nilC, pS]⟩, by omega, by omega⟩, by simp [I64, nilC], Nat.le_refl _, hB⟩
/-- The end of a call with a category and a code for results. -/
def MkC (w : World) (r : Cat × Int) : Ending → World → Prop := fun e w' => ∃ u, e = .returned (.tuple #[u, .int .i64 r.2]) ∧ OwnC w.heap.size w'.heap.size w' u r.1 ∧ Below w.heap.size w w'
theorem mkC_nil {w w' : World} {c : Int} {r : Cat × Int} (hr : r = (nilC, c)) (hw : Below w.heap.size w w') : MkC w r (.returned (.tuple #[.agg #[.int .i64 0, .slice none 0 0, .slice none 0 0, .slice none 0 0, .slice none 0 0], .int .i64 c])) w' := by
  subst hr
  exact ⟨_, rfl, OwnC.nil hw.size, hw⟩
theorem c_eqCategory_refl {w : World} {u v : Value} {c : Cat} (hu : IC w u c) (hv : IC w v c) : Calls Try.prog 7 #[u, v] w (Ret w (.bool true)) := by
  obtain ⟨⟨vf, vt, vi, vc, rfl, h1, h2, h3, h4⟩, -⟩ := hu
  obtain ⟨⟨vf', vt', vi', vc', rfl, h1', h2', h3', h4'⟩, -⟩ := hv
  have hb : (c.n != c.n) = false := by simp
  have H1 := Lib.hid (fun W (hW : Below w.heap.size w W) => c_eqInt64S_refl (h1.kept hW) (h1'.kept hW))
  have H2 := Lib.hid (fun W (hW : Below w.heap.size w W) => c_eqInt64S_refl (h2.kept hW) (h2'.kept hW))
  have H3 := Lib.hid (fun W (hW : Below w.heap.size w W) => c_eqInt64S_refl (h3.kept hW) (h3'.kept hW))
  have H4 := Lib.hid (fun W (hW : Below w.heap.size w W) => c_eqInt64SS_refl (h4.kept hW) (h4'.kept hW))
  go_enter Try.func7, Try.ntmps7
  go_wp2_with fail
  refine (H1.out _ (bel_alloc (bel_alloc (Below.refl _ _) _) _)).mono ?_
  rintro e w1 ⟨rfl, n1, rfl⟩
  go_wp2_with fail
  refine (H2.out _ ((bel_alloc (bel_alloc (Below.refl _ _) _) _).trans (Drawn.below (by repeat (first | exact Drawn.refl _ | refine Drawn.step ?_ _ | refine Drawn.one ?_)) _))).mono ?_
  rintro e w1 ⟨rfl, n2, rfl⟩
  go_wp2_with fail
  refine (H3.out _ ((bel_alloc (bel_alloc (Below.refl _ _) _) _).trans (Drawn.below (by repeat (first | exact Drawn.refl _ | refine Drawn.step ?_ _ | refine Drawn.one ?_)) _))).mono ?_
  rintro e w1 ⟨rfl, n3, rfl⟩
  go_wp2_with fail
  refine (H4.out _ ((bel_alloc (bel_alloc (Below.refl _ _) _) _).trans (Drawn.below (by repeat (first | exact Drawn.refl _ | refine Drawn.step ?_ _ | refine Drawn.one ?_)) _))).mono ?_
  rintro e w1 ⟨rfl, n4, rfl⟩
  go_wp2_with fail
  go_ret
  exact ⟨rfl, (bel_alloc (bel_alloc (Below.refl _ _) _) _).trans (Drawn.below (by repeat (first | exact Drawn.refl _ | refine Drawn.step ?_ _ | refine Drawn.one ?_)) _)⟩
theorem within_cell {B T : Nat} {w w' : World} (h : Within B T w w') {b i : Nat} {v : Value} (hc : w.cell? ⟨b, i, none⟩ = some v) (hd : b < B ∨ T ≤ b) : w'.cell? ⟨b, i, none⟩ = some v := by
  have e := h.block b hd (World.block_lt_of_cell? w ⟨b, i, none⟩ hc)
  have ec : w'.cell? ⟨b, i, none⟩ = w.cell? ⟨b, i, none⟩ := by simp only [World.cell?, e]
  rw [ec]; exact hc
/-- A category whose tables hold k, k + 1, .. -/
def mkC (k : Int) (c : Cat) : Cat := ⟨c.n, mkI k c.fr.length, mkI (k + c.fr.length) c.to.length, mkI (k + c.fr.length + c.to.length) c.id.length, mkSS (k + c.fr.length + c.to.length + c.id.length) (gr c.cm) c.cm.length⟩
set_option maxHeartbeats 800000 in
theorem c_markCategory {B T : Nat} {w : World} {v : Value} {c : Cat} (h : OwnC B T w v c) (k : Int) (hk : 0 ≤ k) (hk' : k + (szc c : Int) ≤ 4611686018427387904) :
    Calls Try.prog 10 #[v, .int .i64 k] w (fun e w' => e = .returned (.int .i64 (k + (szc c : Int))) ∧ OwnC B T w' v (mkC k c) ∧ Within B T w w') := by
  obtain ⟨⟨vf, vt, vi, vc, gf, tf, gt, tt, gi, ti, gc, tc, rfl, h1, h2, h3, h4, h5, h6⟩, hn, htop, hbt⟩ := h
  have HN := Lib.hid hn
  have bb := bel_box w (.cells #[.int .i64 c.n, vf, vt, vi, vc] 25)
  have c1 : (w.alloc (.cells #[.int .i64 c.n, vf, vt, vi, vc] 25)).cell? ⟨w.heap.size, 1, none⟩ = some vf := by simp
  have c2 : (w.alloc (.cells #[.int .i64 c.n, vf, vt, vi, vc] 25)).cell? ⟨w.heap.size, 2, none⟩ = some vt := by simp
  have c3 : (w.alloc (.cells #[.int .i64 c.n, vf, vt, vi, vc] 25)).cell? ⟨w.heap.size, 3, none⟩ = some vi := by simp
  have c4 : (w.alloc (.cells #[.int .i64 c.n, vf, vt, vi, vc] 25)).cell? ⟨w.heap.size, 4, none⟩ = some vc := by simp
  have M0 := (below_within bb B).mono (Nat.le_refl _) (show B ≤ T by omega)
  have hsz : (szc c : Int) = c.fr.length + c.to.length + c.id.length + pS (gr c.cm) c.cm.length := by unfold szc; omega
  have HSZ := Lib.hid hsz
  have o1 := h1.keptB bb
  have o2 := h2.keptB bb
  have o3 := h3.keptB bb
  have o4 := h4.kept (below_within bb w.heap.size) (by omega)
  have e1 : IntKind.i64.wrap 0 = 0 := rfl
  rw [hsz] at hk'
  clear hn hsz bb h1 h2 h3 h4 e1
  go_enter Try.func10, Try.ntmps10
  go_wp2_with fail
  generalize w.alloc (.cells #[.int .i64 c.n, vf, vt, vi, vc] 25) = W0 at *
  refine (c_markInt64S o1 k hk (by omega)).mono ?_
  rintro e W1 ⟨rfl, p1, m1⟩
  replace o2 := o2.kept m1 (by omega)
  replace o3 := o3.kept m1 (by omega)
  replace o4 := o4.kept m1 (by omega)
  replace c2 := within_cell m1 c2 (by omega)
  replace c3 := within_cell m1 c3 (by omega)
  replace c4 := within_cell m1 c4 (by omega)
  have M1 := M0.trans (m1.mono (by omega) (by omega))
  clear M0 m1 o1 c1
  go_wp2_with fail
  refine (c_markInt64S o2 _ (by omega) (by omega)).mono ?_
  rintro e W2 ⟨rfl, p2, m1⟩
  replace p1 := p1.kept m1 (by omega)
  replace o3 := o3.kept m1 (by omega)
  replace o4 := o4.kept m1 (by omega)
  replace c3 := within_cell m1 c3 (by omega)
  replace c4 := within_cell m1 c4 (by omega)
  have M2 := M1.trans (m1.mono (by omega) (by omega))
  clear M1 m1 o2 c2
  go_wp2_with fail
  refine (c_markInt64S o3 _ (by omega) (by omega)).mono ?_
  rintro e W3 ⟨rfl, p3, m1⟩
  replace p1 := p1.kept m1 (by omega)
  replace p2 := p2.kept m1 (by omega)
  replace o4 := o4.kept m1 (by omega)
  replace c4 := within_cell m1 c4 (by omega)
  have M3 := M2.trans (m1.mono (by omega) (by omega))
  clear M2 m1 o3 c3
  go_wp2_with fail
  refine (c_markInt64SS o4 _ (by omega) (by omega)).mono ?_
  rintro e W4 ⟨rfl, p4, m1⟩
  replace p1 := p1.kept m1 (by omega)
  replace p2 := p2.kept m1 (by omega)
  replace p3 := p3.kept m1 (by omega)
  have M4 := M3.trans (m1.mono (by omega) (by omega))
  have ht4 := M4.size
  clear M3 m1 o4 c4
  go_wp2_with fail
  go_ret
  exact ⟨ret_i (by rw [HSZ.out]; omega), ⟨⟨vf, vt, vi, vc, gf, tf, gt, tt, gi, ti, gc, tc, rfl, p1, p2, p3, p4, h5, h6⟩, HN.out, by omega, hbt⟩, M4⟩
set_option maxHeartbeats 800000 in
theorem c_heldCategory {w : World} {v : Value} {k : Int} {c : Cat} (h : IC w v (mkC k c)) (hk : 0 ≤ k) (hk' : k + (szc c : Int) ≤ 4611686018427387904) :
    Calls Try.prog 11 #[v, .int .i64 k] w (Ret w (.int .i64 (k + (szc c : Int)))) := by
  obtain ⟨⟨vf, vt, vi, vc, rfl, h1, h2, h3, h4⟩, hn⟩ := h
  have hsz : (szc c : Int) = c.fr.length + c.to.length + c.id.length + pS (gr c.cm) c.cm.length := by unfold szc; omega
  have HSZ := Lib.hid hsz
  rw [hsz] at hk'
  have H1 := Lib.hid (fun W (hW : Below w.heap.size w W) => c_heldInt64S (h1.kept hW) hk (by omega))
  have H2 := Lib.hid (fun W (hW : Below w.heap.size w W) => c_heldInt64S (h2.kept hW) (by omega) (by omega))
  have H3 := Lib.hid (fun W (hW : Below w.heap.size w W) => c_heldInt64S (h3.kept hW) (by omega) (by omega))
  have H4 := Lib.hid (fun W (hW : Below w.heap.size w W) => c_heldInt64SS (h4.kept hW) (by omega) (by omega))
  have b1 : decide (k + (c.fr.length : Int) < 0) = false := by simp; omega
  have b2 : decide (k + (c.fr.length : Int) + (c.to.length : Int) < 0) = false := by simp; omega
  have b3 : decide (k + (c.fr.length : Int) + (c.to.length : Int) + (c.id.length : Int) < 0) = false := by simp; omega
  have b4 : decide (k + (c.fr.length : Int) + (c.to.length : Int) + (c.id.length : Int) + (pS (gr c.cm) c.cm.length : Int) < 0) = false := by simp; omega
  clear hsz h1 h2 h3 h4 hn
  go_enter Try.func11, Try.ntmps11
  go_wp2_with fail
  refine (H1.out _ (bel_alloc (Below.refl _ _) _)).mono ?_
  rintro e w1 ⟨rfl, n1, rfl⟩
  go_wp2_with fail
  refine (H2.out _ ((bel_alloc (Below.refl _ _) _).trans (Drawn.below (by repeat (first | exact Drawn.refl _ | refine Drawn.step ?_ _ | refine Drawn.one ?_)) _))).mono ?_
  rintro e w1 ⟨rfl, n2, rfl⟩
  go_wp2_with fail
  refine (H3.out _ ((bel_alloc (Below.refl _ _) _).trans (Drawn.below (by repeat (first | exact Drawn.refl _ | refine Drawn.step ?_ _ | refine Drawn.one ?_)) _))).mono ?_
  rintro e w1 ⟨rfl, n3, rfl⟩
  go_wp2_with fail
  refine (H4.out _ ((bel_alloc (Below.refl _ _) _).trans (Drawn.below (by repeat (first | exact Drawn.refl _ | refine Drawn.step ?_ _ | refine Drawn.one ?_)) _))).mono ?_
  rintro e w1 ⟨rfl, n4, rfl⟩
  go_wp2_with fail
  go_ret
  exact ⟨ret_i (by rw [HSZ.out]; omega), (bel_alloc (Below.refl _ _) _).trans (Drawn.below (by repeat (first | exact Drawn.refl _ | refine Drawn.step ?_ _ | refine Drawn.one ?_)) _)⟩
end Go.Proofs.Ytllbjckbinolmaa
