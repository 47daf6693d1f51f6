/-
  Categories as results: a category of the call's own whose four tables lie apart; the laws' eqCategory, markCategory, heldCategory on it.
-/
import Derived.Test.YtjlpmfimbgbcmaaDoorCopy
import Derived.Test.YtjlpmfimbgbcmaaDoorCat
namespace Go.Proofs.YtjlpmfimbgbcmaaDoor
open Go.RowKit

theorem OwnT.shape {E : TypeId} {B T : Nat} {w : World} {v : Value} {xs : List Int} (h : OwnT E B T w v xs) : ∃ ao c, v = .slice ao xs.length c := h.own.shape
theorem OwnSS.shape {E E' : TypeId} {B T : Nat} {w : World} {v : Value} {xss : List (List Int)} (h : OwnSS E E' B T w v xss) : ∃ ao c, v = .slice ao xss.length c := by
  obtain ⟨ao, b, o, c, R, hv, -⟩ := h.is.ex
  exact ⟨ao, c, hv⟩
/-- How many numbers a category's tables hold. -/
def szc (c : Cat) : Nat := c.fr.length + c.to.length + c.id.length + pS (gr c.cm) c.cm.length
/-- A category of the call's own: its tables lie apart, from block B on, below T. -/
structure OwnC (B T : Nat) (w : World) (v : Value) (c : Cat) : Prop where
  ex : ∃ (vf vt vi vc : Value) (gf tf gt tt gi ti gc tc : Nat), v = .agg #[.int .i64 c.n, vf, vt, vi, vc] ∧ OwnT 2 gf tf w vf c.fr ∧ OwnT 2 gt tt w vt c.to ∧ OwnT 2 gi ti w vi c.id ∧ OwnSS 2 42 gc tc w vc c.cm ∧
    (B ≤ gf ∧ tf ≤ T ∧ B ≤ gt ∧ tt ≤ T ∧ B ≤ gi ∧ ti ≤ T ∧ B ≤ gc ∧ tc ≤ T) ∧ ((tf ≤ gt ∨ tt ≤ gf) ∧ (tf ≤ gi ∨ ti ≤ gf) ∧ (tt ≤ gi ∨ ti ≤ gt) ∧ (tf ≤ gc ∨ tc ≤ gf) ∧ (tt ≤ gc ∨ tc ≤ gt) ∧ (ti ≤ gc ∨ tc ≤ gi))
  n : I64 c.n
  top : T ≤ w.heap.size
  bt : B ≤ T
theorem OwnC.is {B T : Nat} {w : World} {v : Value} {c : Cat} (h : OwnC B T w v c) : IC w v c := by
  obtain ⟨⟨vf, vt, vi, vc, gf, tf, gt, tt, gi, ti, gc, tc, rfl, h1, h2, h3, h4, -, -⟩, hn, htop, -⟩ := h
  exact ⟨⟨vf, vt, vi, vc, rfl, h1.is, h2.is, h3.is, h4.is⟩, hn⟩
theorem OwnC.size {B T : Nat} {w : World} {v : Value} {c : Cat} (h : OwnC B T w v c) : szc c ≤ 1200000000000 := by
  obtain ⟨⟨vf, vt, vi, vc, gf, tf, gt, tt, gi, ti, gc, tc, rfl, h1, h2, h3, h4, -, -⟩, hn, htop, -⟩ := h
  have := h1.own.len; have := h2.own.len; have := h3.own.len; have := h4.size
  unfold szc; omega
theorem OwnC.kept {B T B' T' : Nat} {w w' : World} {v : Value} {c : Cat} (h : OwnC B T w v c) (hb : Within B' T' w w') (hd : T ≤ B' ∨ T' ≤ B) : OwnC B T w' v c := by
  obtain ⟨⟨vf, vt, vi, vc, gf, tf, gt, tt, gi, ti, gc, tc, rfl, h1, h2, h3, h4, h5, h6⟩, hn, htop, hbt⟩ := h
  have hs := hb.size
  refine ⟨⟨vf, vt, vi, vc, gf, tf, gt, tt, gi, ti, gc, tc, rfl, h1.kept hb ?_, h2.kept hb ?_, h3.kept hb ?_, h4.kept hb ?_, h5, h6⟩, hn, by omega, hbt⟩ <;> (clear h6; omega)
theorem OwnC.shape {B T : Nat} {w : World} {v : Value} {c : Cat} (h : OwnC B T w v c) : ∃ aF aT aI aC kF kT kI kC, v = .agg #[.int .i64 c.n, .slice aF c.fr.length kF, .slice aT c.to.length kT, .slice aI c.id.length kI, .slice aC c.cm.length kC] := by
  obtain ⟨⟨vf, vt, vi, vc, gf, tf, gt, tt, gi, ti, gc, tc, rfl, h1, h2, h3, h4, -⟩, -⟩ := h
  obtain ⟨aF, kF, rfl⟩ := h1.shape
  obtain ⟨aT, kT, rfl⟩ := h2.shape
  obtain ⟨aI, kI, rfl⟩ := h3.shape
  obtain ⟨aC, kC, rfl⟩ := h4.shape
  exact ⟨aF, aT, aI, aC, kF, kT, kI, kC, rfl⟩
def nilC : Cat := ⟨0, [], [], [], []⟩
theorem OwnT.nil (E : TypeId) (B T : Nat) (w : World) : OwnT E B T w (.slice none 0 0) [] := ⟨Own.nil _ _ _, fun k hk => by simp [Value.ownBlock] at hk⟩
theorem OwnC.nil {B : Nat} {w : World} (hB : B ≤ w.heap.size) : OwnC B w.heap.size w (.agg #[.int .i64 0, .slice none 0 0, .slice none 0 0, .slice none 0 0, .slice none 0 0]) nilC :=
  ⟨⟨_, _, _, _, B, B, B, B, B, B, B, B, rfl, OwnT.nil _ _ _ _, OwnT.nil _ _ _ _, OwnT.nil _ _ _ _, ⟨OF.nil, by simp [nilC], by simp [nilC, pS]⟩, by omega, by omega⟩, by simp [I64, nilC], Nat.le_refl _, hB⟩
/-- The end of a call with a category and a code for results. -/
def MkC (w : World) (r : Cat × Int) : Ending → World → Prop := fun e w' => ∃ u, e = .returned (.tuple #[u, .int .i64 r.2]) ∧ OwnC w.heap.size w'.heap.size w' u r.1 ∧ Below w.heap.size w w'
theorem mkC_nil {w w' : World} {c : Int} {r : Cat × Int} (hr : r = (nilC, c)) (hw : Below w.heap.size w w') : MkC w r (.returned (.tuple #[.agg #[.int .i64 0, .slice none 0 0, .slice none 0 0, .slice none 0 0, .slice none 0 0], .int .i64 c])) w' := by
  subst hr
  exact ⟨_, rfl, OwnC.nil hw.size, hw⟩
theorem within_cell {B T : Nat} {w w' : World} (h : Within B T w w') {b i : Nat} {v : Value} (hc : w.cell? ⟨b, i, none⟩ = some v) (hd : b < B ∨ T ≤ b) : w'.cell? ⟨b, i, none⟩ = some v := by
  have e := h.block b hd (World.block_lt_of_cell? w ⟨b, i, none⟩ hc)
  have ec : w'.cell? ⟨b, i, none⟩ = w.cell? ⟨b, i, none⟩ := by simp only [World.cell?, e]
  rw [ec]; exact hc
/-- A category whose tables hold k, k + 1, .. -/
def mkC (k : Int) (c : Cat) : Cat := ⟨c.n, mkI k c.fr.length, mkI (k + c.fr.length) c.to.length, mkI (k + c.fr.length + c.to.length) c.id.length, mkSS (k + c.fr.length + c.to.length + c.id.length) (gr c.cm) c.cm.length⟩
end Go.Proofs.YtjlpmfimbgbcmaaDoor
