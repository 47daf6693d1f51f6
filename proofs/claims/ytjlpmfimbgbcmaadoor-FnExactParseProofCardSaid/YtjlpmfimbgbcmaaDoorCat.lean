/-
  Categories as tables: what a value, or a block, that holds a category says, and when one is in shape.
-/
import Derived.Test.YtjlpmfimbgbcmaaDoorSz
import Derived.Test.YtjlpmfimbgbcmaaDoorSets1
namespace Go.Proofs.YtjlpmfimbgbcmaaDoor
open Go.RowKit

structure Cat where
  n : Int
  fr : List Int
  to : List Int
  id : List Int
  cm : List (List Int)
/-- Entry i of a list, i a number. -/
def at' (xs : List Int) (i : Int) : Int := gi xs i.toNat
theorem at_nat (xs : List Int) (k : Nat) : at' xs (k : Int) = gi xs k := rfl
namespace Cat
def m (c : Cat) : Int := (c.fr.length : Int)
def F (c : Cat) (f : Int) : Int := at' c.fr f
def T (c : Cat) (f : Int) : Int := at' c.to f
def I (c : Cat) (x : Int) : Int := at' c.id x
def M (c : Cat) (f g : Int) : Int := at' (gr c.cm f.toNat) g
def Arr (c : Cat) (f : Int) : Prop := 0 ≤ f ∧ f < c.m
def Obj (c : Cat) (x : Int) : Prop := 0 ≤ x ∧ x < c.n
end Cat
/-- c has the shape of a category. -/
structure Shape (c : Cat) : Prop where
  n0 : 0 ≤ c.n
  n8 : c.n ≤ 8
  m40 : c.m ≤ 40
  tl : c.to.length = c.fr.length
  fO : ∀ f, c.Arr f → c.Obj (c.F f)
  tO : ∀ f, c.Arr f → c.Obj (c.T f)
  il : (c.id.length : Int) = c.n
  iA : ∀ x, c.Obj x → c.Arr (c.I x)
  cl : c.cm.length = c.fr.length
  iE : ∀ x, c.Obj x → c.F (c.I x) = x ∧ c.T (c.I x) = x
  rl : ∀ f, c.Arr f → (gr c.cm f.toNat).length = c.fr.length
  mN : ∀ f g, c.Arr f → c.Arr g → c.T f ≠ c.F g → c.M f g = -1
  mA : ∀ f g, c.Arr f → c.Arr g → c.T f = c.F g → c.Arr (c.M f g) ∧ c.F (c.M f g) = c.F f ∧ c.T (c.M f g) = c.T g

/-- A category by value. -/
structure IC (w : World) (v : Value) (c : Cat) : Prop where
  ex : ∃ vf vt vi vc : Value, v = .agg #[.int .i64 c.n, vf, vt, vi, vc] ∧ IS w vf c.fr ∧ IS w vt c.to ∧ IS w vi c.id ∧ ISS w vc c.cm
  n : I64 c.n
/-- Block b holds a category. -/
structure PC (w : World) (b : Nat) (c : Cat) : Prop where
  ex : ∃ vf vt vi vc : Value, (w.cell? ⟨b, 0, none⟩ = some (.int .i64 c.n) ∧ w.cell? ⟨b, 1, none⟩ = some vf ∧ w.cell? ⟨b, 2, none⟩ = some vt ∧ w.cell? ⟨b, 3, none⟩ = some vi ∧ w.cell? ⟨b, 4, none⟩ = some vc) ∧ IS w vf c.fr ∧ IS w vt c.to ∧ IS w vi c.id ∧ ISS w vc c.cm
  n : I64 c.n
theorem IC.kept {w w' : World} {v : Value} {c : Cat} (h : IC w v c) (hb : Below w.heap.size w w') : IC w' v c := by
  obtain ⟨⟨vf, vt, vi, vc, rfl, h1, h2, h3, h4⟩, hn⟩ := h
  exact ⟨⟨vf, vt, vi, vc, rfl, h1.kept hb, h2.kept hb, h3.kept hb, h4.kept hb⟩, hn⟩
theorem up_cell {w w' : World} {p : Addr} {v : Value} (hb : Below w.heap.size w w') (h : w.cell? p = some v) : w'.cell? p = some v := (hb.cell (World.block_lt_of_cell? _ _ h)).trans h
/-- What a region that draws holds on to: cells, behind a call that makes memory. -/
theorem keep1 {w0 w1 w2 : World} {p0 : Addr} {v0 : Value} (h : Below w0.heap.size w0 w1 ∧ w1.cell? p0 = some v0) (hb : Below w1.heap.size w1 w2) : Below w0.heap.size w0 w2 ∧ w2.cell? p0 = some v0 := ⟨bel_next h.1 hb, up_cell hb h.2⟩
theorem keep2 {w0 w1 w2 : World} {p0 p1 : Addr} {v0 v1 : Value} (h : Below w0.heap.size w0 w1 ∧ w1.cell? p0 = some v0 ∧ w1.cell? p1 = some v1) (hb : Below w1.heap.size w1 w2) : Below w0.heap.size w0 w2 ∧ w2.cell? p0 = some v0 ∧ w2.cell? p1 = some v1 := ⟨bel_next h.1 hb, up_cell hb h.2.1, up_cell hb h.2.2⟩
theorem keep3 {w0 w1 w2 : World} {p0 p1 p2 : Addr} {v0 v1 v2 : Value} (h : Below w0.heap.size w0 w1 ∧ w1.cell? p0 = some v0 ∧ w1.cell? p1 = some v1 ∧ w1.cell? p2 = some v2) (hb : Below w1.heap.size w1 w2) : Below w0.heap.size w0 w2 ∧ w2.cell? p0 = some v0 ∧ w2.cell? p1 = some v1 ∧ w2.cell? p2 = some v2 := ⟨bel_next h.1 hb, up_cell hb h.2.1, up_cell hb h.2.2.1, up_cell hb h.2.2.2⟩
theorem keep4 {w0 w1 w2 : World} {p0 p1 p2 p3 : Addr} {v0 v1 v2 v3 : Value} (h : Below w0.heap.size w0 w1 ∧ w1.cell? p0 = some v0 ∧ w1.cell? p1 = some v1 ∧ w1.cell? p2 = some v2 ∧ w1.cell? p3 = some v3) (hb : Below w1.heap.size w1 w2) : Below w0.heap.size w0 w2 ∧ w2.cell? p0 = some v0 ∧ w2.cell? p1 = some v1 ∧ w2.cell? p2 = some v2 ∧ w2.cell? p3 = some v3 := ⟨bel_next h.1 hb, up_cell hb h.2.1, up_cell hb h.2.2.1, up_cell hb h.2.2.2.1, up_cell hb h.2.2.2.2⟩
theorem keep5 {w0 w1 w2 : World} {p0 p1 p2 p3 p4 : Addr} {v0 v1 v2 v3 v4 : Value} (h : Below w0.heap.size w0 w1 ∧ w1.cell? p0 = some v0 ∧ w1.cell? p1 = some v1 ∧ w1.cell? p2 = some v2 ∧ w1.cell? p3 = some v3 ∧ w1.cell? p4 = some v4) (hb : Below w1.heap.size w1 w2) : Below w0.heap.size w0 w2 ∧ w2.cell? p0 = some v0 ∧ w2.cell? p1 = some v1 ∧ w2.cell? p2 = some v2 ∧ w2.cell? p3 = some v3 ∧ w2.cell? p4 = some v4 := ⟨bel_next h.1 hb, up_cell hb h.2.1, up_cell hb h.2.2.1, up_cell hb h.2.2.2.1, up_cell hb h.2.2.2.2.1, up_cell hb h.2.2.2.2.2⟩
theorem keep6 {w0 w1 w2 : World} {p0 p1 p2 p3 p4 p5 : Addr} {v0 v1 v2 v3 v4 v5 : Value} (h : Below w0.heap.size w0 w1 ∧ w1.cell? p0 = some v0 ∧ w1.cell? p1 = some v1 ∧ w1.cell? p2 = some v2 ∧ w1.cell? p3 = some v3 ∧ w1.cell? p4 = some v4 ∧ w1.cell? p5 = some v5) (hb : Below w1.heap.size w1 w2) : Below w0.heap.size w0 w2 ∧ w2.cell? p0 = some v0 ∧ w2.cell? p1 = some v1 ∧ w2.cell? p2 = some v2 ∧ w2.cell? p3 = some v3 ∧ w2.cell? p4 = some v4 ∧ w2.cell? p5 = some v5 := ⟨bel_next h.1 hb, up_cell hb h.2.1, up_cell hb h.2.2.1, up_cell hb h.2.2.2.1, up_cell hb h.2.2.2.2.1, up_cell hb h.2.2.2.2.2.1, up_cell hb h.2.2.2.2.2.2⟩
theorem keep7 {w0 w1 w2 : World} {p0 p1 p2 p3 p4 p5 p6 : Addr} {v0 v1 v2 v3 v4 v5 v6 : Value} (h : Below w0.heap.size w0 w1 ∧ w1.cell? p0 = some v0 ∧ w1.cell? p1 = some v1 ∧ w1.cell? p2 = some v2 ∧ w1.cell? p3 = some v3 ∧ w1.cell? p4 = some v4 ∧ w1.cell? p5 = some v5 ∧ w1.cell? p6 = some v6) (hb : Below w1.heap.size w1 w2) : Below w0.heap.size w0 w2 ∧ w2.cell? p0 = some v0 ∧ w2.cell? p1 = some v1 ∧ w2.cell? p2 = some v2 ∧ w2.cell? p3 = some v3 ∧ w2.cell? p4 = some v4 ∧ w2.cell? p5 = some v5 ∧ w2.cell? p6 = some v6 := ⟨bel_next h.1 hb, up_cell hb h.2.1, up_cell hb h.2.2.1, up_cell hb h.2.2.2.1, up_cell hb h.2.2.2.2.1, up_cell hb h.2.2.2.2.2.1, up_cell hb h.2.2.2.2.2.2.1, up_cell hb h.2.2.2.2.2.2.2⟩
theorem keep8 {w0 w1 w2 : World} {p0 p1 p2 p3 p4 p5 p6 p7 : Addr} {v0 v1 v2 v3 v4 v5 v6 v7 : Value} (h : Below w0.heap.size w0 w1 ∧ w1.cell? p0 = some v0 ∧ w1.cell? p1 = some v1 ∧ w1.cell? p2 = some v2 ∧ w1.cell? p3 = some v3 ∧ w1.cell? p4 = some v4 ∧ w1.cell? p5 = some v5 ∧ w1.cell? p6 = some v6 ∧ w1.cell? p7 = some v7) (hb : Below w1.heap.size w1 w2) : Below w0.heap.size w0 w2 ∧ w2.cell? p0 = some v0 ∧ w2.cell? p1 = some v1 ∧ w2.cell? p2 = some v2 ∧ w2.cell? p3 = some v3 ∧ w2.cell? p4 = some v4 ∧ w2.cell? p5 = some v5 ∧ w2.cell? p6 = some v6 ∧ w2.cell? p7 = some v7 := ⟨bel_next h.1 hb, up_cell hb h.2.1, up_cell hb h.2.2.1, up_cell hb h.2.2.2.1, up_cell hb h.2.2.2.2.1, up_cell hb h.2.2.2.2.2.1, up_cell hb h.2.2.2.2.2.2.1, up_cell hb h.2.2.2.2.2.2.2.1, up_cell hb h.2.2.2.2.2.2.2.2⟩
theorem PC.kept {w w' : World} {b : Nat} {c : Cat} (h : PC w b c) (hb : Below w.heap.size w w') : PC w' b c := by
  obtain ⟨⟨vf, vt, vi, vc, ⟨c0, c1, c2, c3, c4⟩, h1, h2, h3, h4⟩, hn⟩ := h
  exact ⟨⟨vf, vt, vi, vc, ⟨up_cell hb c0, up_cell hb c1, up_cell hb c2, up_cell hb c3, up_cell hb c4⟩, h1.kept hb, h2.kept hb, h3.kept hb, h4.kept hb⟩, hn⟩
theorem bel_box (w : World) (o : Obj) : Below w.heap.size w (w.alloc o) := (Below.refl _ _).alloc (Nat.le_refl _) _
theorem IC.box {w : World} {vf vt vi vc : Value} {c : Cat} (h : IC w (.agg #[.int .i64 c.n, vf, vt, vi, vc]) c) (E : TypeId) : PC (w.alloc (.cells #[.int .i64 c.n, vf, vt, vi, vc] E)) w.heap.size c := by
  obtain ⟨⟨vf', vt', vi', vc', he, h1, h2, h3, h4⟩, hn⟩ := h
  simp only [Value.agg.injEq] at he
  simp only [Array.mk.injEq, List.cons.injEq, and_true, true_and] at he
  obtain ⟨rfl, rfl, rfl, rfl⟩ := he
  have hb := bel_box w (.cells #[.int .i64 c.n, vf, vt, vi, vc] E)
  exact ⟨⟨vf, vt, vi, vc, ⟨by simp, by simp, by simp, by simp, by simp⟩, h1.kept hb, h2.kept hb, h3.kept hb, h4.kept hb⟩, hn⟩
/-- The block of a category laid open; its tables by address. -/
structure CV (w : World) (b : Nat) (c : Cat) (aF aT aI aC : Option Addr) (bF oF kF bT oT kT bI oI kI bC oC kC : Nat) (bR oR kR : Int → Nat) : Prop where
  c0 : w.cell? ⟨b, 0, none⟩ = some (.int .i64 c.n)
  c1 : w.cell? ⟨b, 1, none⟩ = some (.slice aF c.fr.length kF)
  c2 : w.cell? ⟨b, 2, none⟩ = some (.slice aT c.to.length kT)
  c3 : w.cell? ⟨b, 3, none⟩ = some (.slice aI c.id.length kI)
  c4 : w.cell? ⟨b, 4, none⟩ = some (.slice aC c.cm.length kC)
  iF : IS w (.slice aF c.fr.length kF) c.fr
  iT : IS w (.slice aT c.to.length kT) c.to
  iI : IS w (.slice aI c.id.length kI) c.id
  iC : ISS w (.slice aC c.cm.length kC) c.cm
  n : I64 c.n
  gF : 0 < c.fr.length → aF = some ⟨bF, oF, none⟩
  gT : 0 < c.to.length → aT = some ⟨bT, oT, none⟩
  gI : 0 < c.id.length → aI = some ⟨bI, oI, none⟩
  gC : 0 < c.cm.length → aC = some ⟨bC, oC, none⟩
  F : ∀ i, 0 ≤ i → i < (c.fr.length : Int) → w.cell? ⟨bF, oF + i.toNat, none⟩ = some (.int .i64 (c.F i))
  T : ∀ i, 0 ≤ i → i < (c.to.length : Int) → w.cell? ⟨bT, oT + i.toNat, none⟩ = some (.int .i64 (c.T i))
  I : ∀ i, 0 ≤ i → i < (c.id.length : Int) → w.cell? ⟨bI, oI + i.toNat, none⟩ = some (.int .i64 (c.I i))
  R : ∀ i, 0 ≤ i → i < (c.cm.length : Int) → ∃ aR, w.cell? ⟨bC, oC + i.toNat, none⟩ = some (.slice aR (gr c.cm i.toNat).length (kR i)) ∧ IS w (.slice aR (gr c.cm i.toNat).length (kR i)) (gr c.cm i.toNat) ∧ (0 < (gr c.cm i.toNat).length → aR = some ⟨bR i, oR i, none⟩)
  M : ∀ i j, 0 ≤ i → i < (c.cm.length : Int) → 0 ≤ j → j < ((gr c.cm i.toNat).length : Int) → w.cell? ⟨bR i, oR i + j.toNat, none⟩ = some (.int .i64 (c.M i j))
section
variable {w : World} {b : Nat} {c : Cat} {aF aT aI aC : Option Addr} {bF oF kF bT oT kT bI oI kI bC oC kC : Nat} {bR oR kR : Int → Nat}
theorem CV.kept {w' : World} (h : CV w b c aF aT aI aC bF oF kF bT oT kT bI oI kI bC oC kC bR oR kR) (hb : Below w.heap.size w w') : CV w' b c aF aT aI aC bF oF kF bT oT kT bI oI kI bC oC kC bR oR kR where
  c0 := up_cell hb h.c0
  c1 := up_cell hb h.c1
  c2 := up_cell hb h.c2
  c3 := up_cell hb h.c3
  c4 := up_cell hb h.c4
  iF := h.iF.kept hb
  iT := h.iT.kept hb
  iI := h.iI.kept hb
  iC := h.iC.kept hb
  n := h.n
  gF := h.gF
  gT := h.gT
  gI := h.gI
  gC := h.gC
  F := fun i h1 h2 => up_cell hb (h.F i h1 h2)
  T := fun i h1 h2 => up_cell hb (h.T i h1 h2)
  I := fun i h1 h2 => up_cell hb (h.I i h1 h2)
  R := fun i h1 h2 => by
    obtain ⟨aR, e, e2, e3⟩ := h.R i h1 h2
    exact ⟨aR, up_cell hb e, e2.kept hb, e3⟩
  M := fun i j h1 h2 h3 h4 => up_cell hb (h.M i j h1 h2 h3 h4)
theorem CV.drawn {w' : World} (h : CV w b c aF aT aI aC bF oF kF bT oT kT bI oI kI bC oC kC bR oR kR) (hd : Drawn w w') : CV w' b c aF aT aI aC bF oF kF bT oT kT bI oI kI bC oC kC bR oR kR := h.kept (hd.below _)
theorem CV.pc (h : CV w b c aF aT aI aC bF oF kF bT oT kT bI oI kI bC oC kC bR oR kR) : PC w b c := ⟨⟨_, _, _, _, ⟨h.c0, h.c1, h.c2, h.c3, h.c4⟩, h.iF, h.iT, h.iI, h.iC⟩, h.n⟩
theorem CV.ic (h : CV w b c aF aT aI aC bF oF kF bT oT kT bI oI kI bC oC kC bR oR kR) : IC w (.agg #[.int .i64 c.n, .slice aF c.fr.length kF, .slice aT c.to.length kT, .slice aI c.id.length kI, .slice aC c.cm.length kC]) c := ⟨⟨_, _, _, _, rfl, h.iF, h.iT, h.iI, h.iC⟩, h.n⟩
theorem CV.som (h : CV w b c aF aT aI aC bF oF kF bT oT kT bI oI kI bC oC kC bR oR kR) (S : Shape c) (hm : 0 < c.fr.length) : aF = some ⟨bF, oF, none⟩ ∧ aT = some ⟨bT, oT, none⟩ ∧ aI = some ⟨bI, oI, none⟩ ∧ aC = some ⟨bC, oC, none⟩ := by
  have h1 := S.fO 0 ⟨by omega, by show (0 : Int) < (c.fr.length : Int); omega⟩
  have h2 := S.il
  have h3 : 0 < c.n := by have := h1.1; have := h1.2; omega
  exact ⟨h.gF hm, h.gT (by rw [S.tl]; exact hm), h.gI (by omega), h.gC (by rw [S.cl]; exact hm)⟩
/-- The row of f, c in shape. -/
theorem CV.row (h : CV w b c aF aT aI aC bF oF kF bT oT kT bI oI kI bC oC kC bR oR kR) (S : Shape c) {f : Int} (hf : c.Arr f) : w.cell? ⟨bC, oC + f.toNat, none⟩ = some (.slice (some ⟨bR f, oR f, none⟩) c.fr.length (kR f)) := by
  have h1 : f < (c.cm.length : Int) := by have := S.cl; have := hf.2; unfold Cat.m at this; omega
  obtain ⟨aR, e, e2, e3⟩ := h.R f hf.1 h1
  have hl := S.rl f hf
  have hm : 0 < c.fr.length := by have h1 := hf.1; have h2 := hf.2; unfold Cat.m at h2; omega
  rw [hl] at e e3
  rw [e, e3 hm]
theorem CV.cF (h : CV w b c aF aT aI aC bF oF kF bT oT kT bI oI kI bC oC kC bR oR kR) {f : Int} (hf : c.Arr f) : w.cell? ⟨bF, oF + f.toNat, none⟩ = some (.int .i64 (c.F f)) := h.F f hf.1 hf.2
theorem CV.cT (h : CV w b c aF aT aI aC bF oF kF bT oT kT bI oI kI bC oC kC bR oR kR) (S : Shape c) {f : Int} (hf : c.Arr f) : w.cell? ⟨bT, oT + f.toNat, none⟩ = some (.int .i64 (c.T f)) := h.T f hf.1 (by rw [S.tl]; exact hf.2)
theorem CV.cI (h : CV w b c aF aT aI aC bF oF kF bT oT kT bI oI kI bC oC kC bR oR kR) (S : Shape c) {x : Int} (hx : c.Obj x) : w.cell? ⟨bI, oI + x.toNat, none⟩ = some (.int .i64 (c.I x)) := h.I x hx.1 (by rw [S.il]; exact hx.2)
theorem CV.cM (h : CV w b c aF aT aI aC bF oF kF bT oT kT bI oI kI bC oC kC bR oR kR) (S : Shape c) {f g : Int} (hf : c.Arr f) (hg : c.Arr g) : w.cell? ⟨bR f, oR f + g.toNat, none⟩ = some (.int .i64 (c.M f g)) :=
  h.M f g hf.1 (by rw [S.cl]; exact hf.2) hg.1 (by rw [S.rl f hf]; exact hg.2)
end
theorem PC.opens {w : World} {b : Nat} {c : Cat} (h : PC w b c) : ∃ (aF aT aI aC : Option Addr) (bF oF kF bT oT kT bI oI kI bC oC kC : Nat) (bR oR kR : Int → Nat), CV w b c aF aT aI aC bF oF kF bT oT kT bI oI kI bC oC kC bR oR kR := by
  obtain ⟨⟨vf, vt, vi, vc, ⟨c0, c1, c2, c3, c4⟩, h1, h2, h3, h4⟩, hn⟩ := h
  obtain ⟨aF, bF, oF, kF, rfl, gF, HF⟩ := h1.ex
  obtain ⟨aT, bT, oT, kT, rfl, gT, HT⟩ := h2.ex
  obtain ⟨aI, bI, oI, kI, rfl, gI, HI⟩ := h3.ex
  obtain ⟨aC, bC, oC, kC, V, rfl, gC, HC, HR⟩ := h4.ex
  have HR' : ∀ i : Int, ∃ (ao : Option Addr) (bb o cc : Nat), 0 ≤ i → i < (c.cm.length : Int) → (V i.toNat = .slice ao (gr c.cm i.toNat).length cc ∧ (0 < (gr c.cm i.toNat).length → ao = some ⟨bb, o, none⟩) ∧ ∀ j, j < (gr c.cm i.toNat).length → w.cell? ⟨bb, o + j, none⟩ = some (.int .i64 (gi (gr c.cm i.toNat) j))) := by
    intro i
    by_cases hi : 0 ≤ i ∧ i < (c.cm.length : Int)
    · obtain ⟨ao, bb, o, cc, e1, e2, e3⟩ := (HR i.toNat (by omega)).ex
      exact ⟨ao, bb, o, cc, fun _ _ => ⟨e1, e2, e3⟩⟩
    · exact ⟨none, 0, 0, 0, fun h1 h2 => absurd ⟨h1, h2⟩ hi⟩
  refine ⟨aF, aT, aI, aC, bF, oF, kF, bT, oT, kT, bI, oI, kI, bC, oC, kC, fun i => (HR' i).choose_spec.choose, fun i => (HR' i).choose_spec.choose_spec.choose, fun i => (HR' i).choose_spec.choose_spec.choose_spec.choose, ?_⟩
  exact {
    c0 := c0, c1 := c1, c2 := c2, c3 := c3, c4 := c4, iF := h1, iT := h2, iI := h3, iC := h4, n := hn, gF := gF, gT := gT, gI := gI, gC := gC
    F := fun i a1 a2 => HF i.toNat (by omega)
    T := fun i a1 a2 => HT i.toNat (by omega)
    I := fun i a1 a2 => HI i.toNat (by omega)
    R := fun i a1 a2 => by
      have hs := (HR' i).choose_spec.choose_spec.choose_spec.choose_spec a1 a2
      refine ⟨_, ?_, ?_, hs.2.1⟩
      · rw [HC i.toNat (by omega)]; exact congrArg some hs.1
      · have := HR i.toNat (by omega); rw [hs.1] at this; exact this
    M := fun i j a1 a2 a3 a4 => by
      have hs := (HR' i).choose_spec.choose_spec.choose_spec.choose_spec a1 a2
      exact hs.2.2 j.toNat (by omega) }
theorem IC.opens {w : World} {v : Value} {c : Cat} (h : IC w v c) : ∃ vf vt vi vc : Value, v = .agg #[.int .i64 c.n, vf, vt, vi, vc] ∧ IC w (.agg #[.int .i64 c.n, vf, vt, vi, vc]) c := by
  obtain ⟨⟨vf, vt, vi, vc, rfl, h1, h2, h3, h4⟩, hn⟩ := h
  exact ⟨vf, vt, vi, vc, rfl, ⟨vf, vt, vi, vc, rfl, h1, h2, h3, h4⟩, hn⟩
theorem IC.boxed {w : World} {v : Value} {c : Cat} (h : IC w v c) (E : TypeId) : ∃ (aF aT aI aC : Option Addr) (bF oF kF bT oT kT bI oI kI bC oC kC : Nat) (bR oR kR : Int → Nat), v = .agg #[.int .i64 c.n, .slice aF c.fr.length kF, .slice aT c.to.length kT, .slice aI c.id.length kI, .slice aC c.cm.length kC] ∧
    CV (w.alloc (.cells #[.int .i64 c.n, .slice aF c.fr.length kF, .slice aT c.to.length kT, .slice aI c.id.length kI, .slice aC c.cm.length kC] E)) w.heap.size c aF aT aI aC bF oF kF bT oT kT bI oI kI bC oC kC bR oR kR := by
  obtain ⟨vf, vt, vi, vc, rfl, h2⟩ := h.opens
  obtain ⟨aF, aT, aI, aC, bF, oF, kF, bT, oT, kT, bI, oI, kI, bC, oC, kC, bR, oR, kR, V⟩ := (h2.box E).opens
  have e1 := V.c1
  have e2 := V.c2
  have e3 := V.c3
  have e4 := V.c4
  simp at e1 e2 e3 e4
  subst e1 e2 e3 e4
  exact ⟨aF, aT, aI, aC, bF, oF, kF, bT, oT, kT, bI, oI, kI, bC, oC, kC, bR, oR, kR, rfl, V⟩
theorem Cat.F_I64 (c : Cat) {w : World} {v : Value} (h : IS w v c.fr) (f : Int) : I64 (c.F f) := gi_I64 h.wf _
noncomputable def shapeB (c : Cat) : Bool := @decide (Shape c) (Classical.propDecidable _)
theorem shapeB_t {c : Cat} (h : Shape c) : shapeB c = true := @decide_eq_true _ (Classical.propDecidable _) h
theorem shapeB_f {c : Cat} (h : ¬ Shape c) : shapeB c = false := @decide_eq_false _ (Classical.propDecidable _) h
theorem shapeB_s {c : Cat} (h : shapeB c = true) : Shape c := @of_decide_eq_true _ (Classical.propDecidable _) h
theorem allIn_at {n : Int} {xs : List Int} : allIn n xs = true ↔ ∀ i : Int, 0 ≤ i → i < (xs.length : Int) → 0 ≤ at' xs i ∧ at' xs i < n := by
  unfold allIn
  rw [List.all_eq_true]
  constructor
  · intro h i h0 h1
    have := h (gi xs i.toNat) (gi_mem (by omega))
    simpa [at'] using this
  · intro h x hx
    obtain ⟨k, hk, rfl⟩ := List.getElem_of_mem hx
    have := h k (by omega) (by omega)
    rw [at_nat, gi_lt hk] at this
    simpa using this
structure Sh1 (c : Cat) : Prop where
  e1 : inR c.n 0 8 = true
  e2 : decide (c.m > 40) = false
  e3 : ((c.to.length : Int) != c.m) = false
  e4 : allIn c.n c.fr = true
  e5 : allIn c.n c.to = true
  e6 : ((c.id.length : Int) != c.n) = false
  e7 : allIn c.m c.id = true
  e8 : ((c.cm.length : Int) != c.m) = false
theorem Shape.bs {c : Cat} (S : Shape c) : Sh1 c where
  e1 := by have := S.n0; have := S.n8; simp [inR]; omega
  e2 := by have := S.m40; simp; omega
  e3 := by have := S.tl; simp [Cat.m]; omega
  e4 := allIn_at.2 fun i h0 h1 => S.fO i ⟨h0, h1⟩
  e5 := allIn_at.2 fun i h0 h1 => S.tO i ⟨h0, by unfold Cat.m; rw [← S.tl]; exact h1⟩
  e6 := by have := S.il; simp; omega
  e7 := allIn_at.2 fun i h0 h1 => S.iA i ⟨h0, by rw [← S.il]; exact h1⟩
  e8 := by have := S.cl; simp [Cat.m]; omega
def EntOk (c : Cat) (f g : Int) : Prop := (c.T f ≠ c.F g → c.M f g = -1) ∧ (c.T f = c.F g → c.Arr (c.M f g) ∧ c.F (c.M f g) = c.F f ∧ c.T (c.M f g) = c.T g)
def RowOk (c : Cat) (f : Int) : Prop := (gr c.cm f.toNat).length = c.fr.length ∧ ∀ g, c.Arr g → EntOk c f g
theorem Shape.ent {c : Cat} (S : Shape c) {f g : Int} (hf : c.Arr f) (hg : c.Arr g) : EntOk c f g := ⟨S.mN f g hf hg, S.mA f g hf hg⟩
theorem Sh1.shape {c : Cat} (h : Sh1 c) (h1 : ∀ x, c.Obj x → c.F (c.I x) = x ∧ c.T (c.I x) = x) (h2 : ∀ f, c.Arr f → (gr c.cm f.toNat).length = c.fr.length)
    (h3 : ∀ f g, c.Arr f → c.Arr g → (c.T f ≠ c.F g → c.M f g = -1) ∧ (c.T f = c.F g → c.Arr (c.M f g) ∧ c.F (c.M f g) = c.F f ∧ c.T (c.M f g) = c.T g)) : Shape c := by
  obtain ⟨e1, e2, e3, e4, e5, e6, e7, e8⟩ := h
  simp [inR] at e1
  simp at e2
  simp [Cat.m] at e3
  simp at e6
  simp [Cat.m] at e8
  exact {
    n0 := e1.1, n8 := e1.2, m40 := e2, tl := by omega, il := e6, cl := by omega, iE := h1, rl := h2
    fO := fun f hf => allIn_at.1 e4 f hf.1 hf.2
    tO := fun f hf => allIn_at.1 e5 f hf.1 (by have := hf.2; unfold Cat.m at this; omega)
    iA := fun x hx => allIn_at.1 e7 x hx.1 (by have := hx.2; omega)
    mN := fun f g hf hg => (h3 f g hf hg).1
    mA := fun f g hf hg => (h3 f g hf hg).2 }
theorem Sh1.shape' {c : Cat} (h : Sh1 c) (h1 : ∀ x, c.Obj x → c.F (c.I x) = x ∧ c.T (c.I x) = x) (h2 : ∀ f, c.Arr f → RowOk c f) : Shape c := h.shape h1 (fun f hf => (h2 f hf).1) (fun f g hf hg => (h2 f hf).2 g hg)
end Go.Proofs.YtjlpmfimbgbcmaaDoor
