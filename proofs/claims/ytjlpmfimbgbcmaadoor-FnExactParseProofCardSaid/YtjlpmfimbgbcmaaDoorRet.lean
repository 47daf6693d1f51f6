/-
  Results that lie in a block of five cells: a category's result cell through regions that make memory, and the end of a call with a category and a code.
-/
import Derived.Test.YtjlpmfimbgbcmaaDoorCatRes
import Derived.Laws.ResultCell
import Derived.Laws.Rows
namespace Go.Proofs.YtjlpmfimbgbcmaaDoor
open Go.RowKit

/-- n zeros. -/
def zs (n : Nat) : List Int := List.replicate n 0
theorem zs_length (n : Nat) : (zs n).length = n := by simp [zs]
theorem zs_I64 (n : Nat) : AllI64 (zs n) := by
  intro x hx
  have := List.eq_of_mem_replicate hx
  subst this
  constructor <;> omega
theorem gi_zs {n i : Nat} (h : i < n) : gi (zs n) i = 0 := by
  rw [gi_lt (by rw [zs_length]; exact h)]; simp [zs]
theorem OwnT.zeros {E : TypeId} {w : World} {n m : Nat} (hn : n ≤ 4294967296) (hm : w.heap.size = m) : OwnT E m (m + 1) (w.alloc (.cells (madeCells #[.int .i64 0] n) E)) (.slice (some ⟨m, 0, none⟩) n n) (zs n) := by
  subst hm
  have h := Own.of_row (xs := zs n) (B := w.heap.size) (by rw [zs_length]; exact World.rowIs_made w (.int .i64 0) n E) (Nat.le_refl _) (fun i hi => by rw [gi_zs (by rw [zs_length] at hi; exact hi)]) (zs_I64 n) (by rw [zs_length]; exact hn)
  rw [zs_length] at h
  exact ⟨h, fun k hk => by simp [Value.ownBlock] at hk; omega⟩
theorem OwnT.lit1 {E : TypeId} {w : World} {a : Int} {m : Nat} (ha : I64 a) (hm : w.heap.size = m) : OwnT E m (m + 1) (w.alloc (.cells #[.int .i64 a] E)) (.slice (some ⟨m, 0, none⟩) 1 1) [a] := by
  subst hm
  refine ⟨⟨World.ownsRow_lit w _ 1 (Nat.le_refl _) (by simp [maxLen]) (by simp), ?_, by simp⟩, fun k hk => ?_⟩
  · intro x hx
    simp at hx
    subst hx; exact ha
  · have hk' : some w.heap.size = some k := hk
    injection hk' with hk'
    omega
/-- What block b's cell i holds. -/
def cv (w : World) (b i : Nat) : Value := (w.cell? ⟨b, i, none⟩).getD undef
/-- Block b holds five cells. -/
def Row5 (w : World) (b : Nat) (T : TypeId) : Prop := ∃ f, w.rowIs b T 5 f
theorem Row5.cell {w : World} {b i : Nat} {T : TypeId} (h : Row5 w b T) (hi : i < 5) : w.cell? ⟨b, i, none⟩ = some (cv w b i) := by
  obtain ⟨f, h⟩ := h
  unfold cv; rw [h.cell hi]; rfl
/-- What a region that makes memory and writes the result's block b in the end holds on to. -/
def RS (w : World) (b : Nat) (T : TypeId) (w' : World) : Prop := Below w.heap.size w w' ∧ w.heap.size ≤ b ∧ Row5 w' b T
theorem RS.all {w w' : World} {b : Nat} {T : TypeId} (h : RS w b T w') : RS w b T w' ∧ w'.cell? ⟨b, 0, none⟩ = some (cv w' b 0) ∧ w'.cell? ⟨b, 1, none⟩ = some (cv w' b 1) ∧ w'.cell? ⟨b, 2, none⟩ = some (cv w' b 2) ∧ w'.cell? ⟨b, 3, none⟩ = some (cv w' b 3) ∧ w'.cell? ⟨b, 4, none⟩ = some (cv w' b 4) ∧
    w'.frozen? ⟨b, 0, none⟩ = false ∧ w'.frozen? ⟨b, 1, none⟩ = false ∧ w'.frozen? ⟨b, 2, none⟩ = false ∧ w'.frozen? ⟨b, 3, none⟩ = false ∧ w'.frozen? ⟨b, 4, none⟩ = false := by
  obtain ⟨f, hf⟩ := h.2.2
  exact ⟨h, h.2.2.cell (by omega), h.2.2.cell (by omega), h.2.2.cell (by omega), h.2.2.cell (by omega), h.2.2.cell (by omega), hf.frozen _, hf.frozen _, hf.frozen _, hf.frozen _, hf.frozen _⟩
theorem RS.bel {w w' : World} {b : Nat} {T : TypeId} (h : RS w b T w') : Below w.heap.size w w' := h.1
theorem RS.drew {w w' : World} {b : Nat} {T : TypeId} (h : RS w b T w') : RS w b T w'.drew := ⟨h.1.trans (Drawn.below (by repeat (first | exact Drawn.refl _ | refine Drawn.step ?_ _ | refine Drawn.one ?_)) _), h.2.1, h.2.2⟩
theorem RS.un {w w' : World} {b : Nat} {T : TypeId} (h : RS w b T w'.drew) : RS w b T w' := ⟨h.1.trans ⟨rfl, rfl, rfl, Nat.le_refl _, fun _ _ => rfl⟩, h.2.1, h.2.2⟩
theorem RS.alloc {w w' : World} {b : Nat} {T : TypeId} (h : RS w b T w') (o : Obj) : RS w b T (w'.alloc o) := by
  obtain ⟨h1, h2, f, hf⟩ := h
  exact ⟨bel_alloc h1 o, h2, f, hf.of_block (Below.heap_alloc _ _ _ hf.lt)⟩
theorem RS.call {w w' w'' : World} {b : Nat} {T : TypeId} (h : RS w b T w') (hb : Below w'.heap.size w' w'') : RS w b T w'' := by
  obtain ⟨h1, h2, f, hf⟩ := h
  exact ⟨bel_next h1 hb, h2, f, hf.of_block (hb.block _ hf.lt)⟩
theorem RS.set {w w' : World} {b : Nat} {T : TypeId} (h : RS w b T w') (i : Nat) (v : Value) : RS w b T (w'.setCell ⟨b, i, none⟩ v) := by
  obtain ⟨h1, h2, f, hf⟩ := h
  exact ⟨h1.setCell h2 v, h2, _, hf.set i v⟩
theorem RS.start {w : World} {T : TypeId} {x0 x1 x2 x3 x4 : Value} (n : Nat) : RS w w.heap.size T ((w.alloc (.cells #[x0, x1, x2, x3, x4] T)).drewN n) :=
  ⟨(bel_alloc (Below.refl _ _) _).trans (Drawn.below (by repeat (first | exact Drawn.refl _ | refine Drawn.step ?_ _ | refine Drawn.one ?_)) _), Nat.le_refl _, _, (World.rowIs_alloc w #[x0, x1, x2, x3, x4] T (fun i => #[x0, x1, x2, x3, x4].getD i undef) (fun i hi => by simp only [Array.getD, hi, dif_pos]; exact Array.getElem?_eq_getElem hi)).of_block rfl⟩
theorem RS.lt {w W : World} {b : Nat} {T : TypeId} (h : RS w b T W) : b < W.heap.size := by
  obtain ⟨-, -, f, hf⟩ := h
  exact hf.lt
theorem rowIs_litR {w : World} {b : Nat} {t : TypeId} {cs : Array Value} {f : Nat → Value} (h : w.rowIs b t cs.size f) (hf : ∀ i, i < cs.size → cs[i]? = some (f i)) : w.heap[b]? = some (.cells cs t (0, 0)) := by
  obtain ⟨c, hb, hn, hc⟩ := h
  have : c = cs := by
    apply Array.ext hn
    intro i h1 h2
    have e1 := hc i (by omega)
    have e2 := hf i h2
    rw [← e2, Array.getElem?_eq_getElem h1, Array.getElem?_eq_getElem h2] at e1
    exact Option.some.inj e1
  rw [hb, this]
theorem five_rowsR (a0 a1 a2 a3 a4 : Value) {f : Nat → Value} : ∀ i, i < #[a0, a1, a2, a3, a4].size → #[a0, a1, a2, a3, a4][i]? = some (if i = 4 then a4 else if i = 3 then a3 else if i = 2 then a2 else if i = 1 then a1 else if i = 0 then a0 else f i) := by
  intro i hi
  have : i = 0 ∨ i = 1 ∨ i = 2 ∨ i = 3 ∨ i = 4 := by simp at hi; omega
  rcases this with rfl | rfl | rfl | rfl | rfl <;> rfl
/-- All five cells of block b written. -/
def set5 (w : World) (b : Nat) (a0 a1 a2 a3 a4 : Value) : World := ((((w.setCell ⟨b, 0, none⟩ a0).setCell ⟨b, 1, none⟩ a1).setCell ⟨b, 2, none⟩ a2).setCell ⟨b, 3, none⟩ a3).setCell ⟨b, 4, none⟩ a4
theorem set5_size (w : World) (b : Nat) (a0 a1 a2 a3 a4 : Value) : (set5 w b a0 a1 a2 a3 a4).heap.size = w.heap.size := by simp [set5, World.setCell]
theorem set5_within (w : World) (b : Nat) (a0 a1 a2 a3 a4 : Value) : Within b (b + 1) w (set5 w b a0 a1 a2 a3 a4) :=
  (((((Within.refl b (b + 1) w).setCell (p := ⟨b, 0, none⟩) (by simp) (by simp) a0).setCell (p := ⟨b, 1, none⟩) (by simp) (by simp) a1).setCell (p := ⟨b, 2, none⟩) (by simp) (by simp) a2).setCell (p := ⟨b, 3, none⟩) (by simp) (by simp) a3).setCell (p := ⟨b, 4, none⟩) (by simp) (by simp) a4
theorem RS.five {w W : World} {b : Nat} {T : TypeId} (h : RS w b T W) (a0 a1 a2 a3 a4 : Value) : (set5 W b a0 a1 a2 a3 a4).heap[b]? = some (.cells #[a0, a1, a2, a3, a4] T (0, 0)) := by
  obtain ⟨-, -, f, hf⟩ := h
  exact rowIs_litR (((((hf.set 0 a0).set 1 a1).set 2 a2).set 3 a3).set 4 a4) (five_rowsR _ _ _ _ _)
theorem RS.five_bel {w W : World} {b : Nat} {T : TypeId} (h : RS w b T W) (a0 a1 a2 a3 a4 : Value) : Below w.heap.size w (set5 W b a0 a1 a2 a3 a4) :=
  ((((h.1.setCell (p := ⟨b, 0, none⟩) h.2.1 a0).setCell (p := ⟨b, 1, none⟩) h.2.1 a1).setCell (p := ⟨b, 2, none⟩) h.2.1 a2).setCell (p := ⟨b, 3, none⟩) h.2.1 a3).setCell (p := ⟨b, 4, none⟩) h.2.1 a4
theorem results_cell_row2 {P : Program} {fn : Func} {p u : Tmp} {ty : TypeId} (h : fn.results = #[.cell p ty, .tmp u]) (tmps : Array Value) (w : World) (g : Nat) (t : TypeId) (cs : Array Value) (fr : Nat × Nat) (d : TypeDesc)
    (hp : tmps.getD p undef = .pointer (some ⟨g, 0, none⟩)) (hg : w.heap[g]? = some (.cells cs t fr))
    (hu : P.underlying ty = some d) (hd : (match d with | .struct _ | .array _ _ => true | _ => false) = true) (hi : (P.info? ty).map (·.size) = some cs.size) :
    (results fn tmps).run P w = .ok (.tuple #[.agg cs, tmps.getD u undef]) w := by
  have hp' : tmps[p]?.getD undef = .pointer (some ⟨g, 0, none⟩) := by simpa using hp
  rw [results_cell_tmp h]
  simp [hp', asAddr, run_loadVar_row w g t ty cs fr d hg hu hd hi, Result.andThen]
theorem OwnT.up_alloc {E : TypeId} {B T : Nat} {w : World} {v : Value} {xs : List Int} (h : OwnT E B T w v xs) (o : Obj) : OwnT E B T (w.alloc o) v xs := h.keptB (bel_alloc (Below.refl _ _) o)
theorem OwnT.up_drew {E : TypeId} {B T : Nat} {w : World} {v : Value} {xs : List Int} (h : OwnT E B T w v xs) : OwnT E B T w.drew v xs := h.keptB (Drawn.below (Drawn.one (Drawn.refl w)) _)
theorem OwnT.un_drew {E : TypeId} {B T : Nat} {w : World} {v : Value} {xs : List Int} (h : OwnT E B T w v xs) : OwnT E B T w.drew v xs := h.up_drew
theorem OF.up_alloc {E E' : TypeId} {B T : Nat} {w : World} {v : Value} {n : Nat} {D : Nat → List Int} (h : OF E E' B T w v n D) (o : Obj) : OF E E' B T (w.alloc o) v n D := h.keptB (bel_alloc (Below.refl _ _) o)
theorem OF.up_drew {E E' : TypeId} {B T : Nat} {w : World} {v : Value} {n : Nat} {D : Nat → List Int} (h : OF E E' B T w v n D) : OF E E' B T w.drew v n D := h.keptB (Drawn.below (Drawn.one (Drawn.refl w)) _)
/-- The end of a call that hands back a category of parts that lie apart. -/
theorem mkC_set5 {w W : World} {b : Nat} {T : TypeId} (hR : RS w b T W) (c : Cat) (code : Int) {vf vt vi vc : Value} {gf tf gt tt gi ti gc tc : Nat} (h1 : OwnT 2 gf tf W vf c.fr) (h2 : OwnT 2 gt tt W vt c.to) (h3 : OwnT 2 gi ti W vi c.id) (h4 : OwnSS 2 42 gc tc W vc c.cm)
    (hb : b < gf ∧ b < gt ∧ b < gi ∧ b < gc ∧ gf ≤ tf ∧ gt ≤ tt ∧ gi ≤ ti ∧ gc ≤ tc ∧ tf ≤ W.heap.size ∧ tt ≤ W.heap.size ∧ ti ≤ W.heap.size ∧ tc ≤ W.heap.size) (ha : (tf ≤ gt ∨ tt ≤ gf) ∧ (tf ≤ gi ∨ ti ≤ gf) ∧ (tt ≤ gi ∨ ti ≤ gt) ∧ (tf ≤ gc ∨ tc ≤ gf) ∧ (tt ≤ gc ∨ tc ≤ gt) ∧ (ti ≤ gc ∨ tc ≤ gi)) (hn : I64 c.n) :
    MkC w (c, code) (.returned (.tuple #[.agg #[.int .i64 c.n, vf, vt, vi, vc], .int .i64 code])) (set5 W b (.int .i64 c.n) vf vt vi vc) := by
  have hs := set5_size W b (.int .i64 c.n) vf vt vi vc
  have hw := set5_within W b (.int .i64 c.n) vf vt vi vc
  have hb2 := hR.2.1
  have hb3 := hR.1.size
  obtain ⟨b1, b2, b3, b4, l1, l2, l3, l4, t1, t2, t3, t4⟩ := hb
  refine ⟨_, rfl, ⟨⟨vf, vt, vi, vc, gf, tf, gt, tt, gi, ti, gc, tc, rfl, h1.kept hw ?_, h2.kept hw ?_, h3.kept hw ?_, h4.kept hw ?_, ?_, ha⟩, hn, Nat.le_refl _, ?_⟩, hR.five_bel _ _ _ _ _⟩ <;> clear ha
  · omega
  · omega
  · omega
  · omega
  · omega
  · omega
theorem mkC_lit {w W w9 : World} {b : Nat} {T : TypeId} (hR : RS w b T W) (c : Cat) (code : Int) {vc : Value} {mf mt mi gc tc nf nt ni kf kt ki : Nat} (h1 : OwnT 2 mf (mf + 1) W (.slice (some ⟨mf, 0, none⟩) nf kf) c.fr) (h2 : OwnT 2 mt (mt + 1) W (.slice (some ⟨mt, 0, none⟩) nt kt) c.to) (h3 : OwnT 2 mi (mi + 1) W (.slice (some ⟨mi, 0, none⟩) ni ki) c.id)
    (h4 : OF 2 42 gc tc w9 vc c.cm.length (gr c.cm)) (hbl : Below w9.heap.size w9 W) (hl : c.cm.length ≤ 1048576 ∧ pS (gr c.cm) c.cm.length ≤ 1099511627776)
    (hb : b < mf ∧ b < mt ∧ b < mi ∧ b < gc ∧ gc ≤ tc ∧ mf + 1 ≤ W.heap.size ∧ mt + 1 ≤ W.heap.size ∧ mi + 1 ≤ W.heap.size ∧ tc ≤ W.heap.size) (ha : mf ≠ mt ∧ mf ≠ mi ∧ mt ≠ mi ∧ (mf + 1 ≤ gc ∨ tc ≤ mf) ∧ (mt + 1 ≤ gc ∨ tc ≤ mt) ∧ (mi + 1 ≤ gc ∨ tc ≤ mi)) (hn : I64 c.n) :
    MkC w (c, code) (.returned (.tuple #[.agg #[.int .i64 c.n, .slice (some ⟨mf, 0, none⟩) nf kf, .slice (some ⟨mt, 0, none⟩) nt kt, .slice (some ⟨mi, 0, none⟩) ni ki, vc], .int .i64 code])) (set5 W b (.int .i64 c.n) (.slice (some ⟨mf, 0, none⟩) nf kf) (.slice (some ⟨mt, 0, none⟩) nt kt) (.slice (some ⟨mi, 0, none⟩) ni ki) vc) := by
  refine mkC_set5 hR c code h1 h2 h3 ⟨h4.keptB hbl, hl.1, hl.2⟩ ?_ ?_ hn
  · clear ha; omega
  · obtain ⟨a1, a2, a3, a4, a5, a6⟩ := ha
    clear hb
    refine ⟨?_, ?_, ?_, a4, a5, a6⟩ <;> omega
theorem mkC_own {w W : World} {c : Cat} {code : Int} {u : Value} (h : MkC w (c, code) (.returned (.tuple #[u, .int .i64 code])) W) : OwnC w.heap.size W.heap.size W u c ∧ Below w.heap.size w W := by
  obtain ⟨u', hu, ho, hb⟩ := h
  injection hu with hu
  injection hu with hu
  injection hu with hu
  injection hu with hu
  subst hu
  exact ⟨ho, hb⟩
theorem OwnC.shape5 {B T : Nat} {w : World} {v : Value} {c : Cat} (h : OwnC B T w v c) : ∃ n aF lF kF aT lT kT aI lI kI aC lC kC, v = .agg #[.int .i64 n, .slice aF lF kF, .slice aT lT kT, .slice aI lI kI, .slice aC lC kC] := by
  obtain ⟨aF, aT, aI, aC, kF, kT, kI, kC, rfl⟩ := h.shape
  exact ⟨_, _, _, _, _, _, _, _, _, _, _, _, _, rfl⟩
theorem OwnC.mono {B T B' T' : Nat} {w : World} {v : Value} {c : Cat} (h : OwnC B T w v c) (hB : B' ≤ B) (hT : T ≤ T') (hw : T' ≤ w.heap.size) : OwnC B' T' w v c := by
  obtain ⟨⟨vf, vt, vi, vc, gf, tf, gt, tt, gi, ti, gc, tc, rfl, h1, h2, h3, h4, h5, h6⟩, hn, htop, hbt⟩ := h
  exact ⟨⟨vf, vt, vi, vc, gf, tf, gt, tt, gi, ti, gc, tc, rfl, h1, h2, h3, h4, by clear h6; omega, h6⟩, hn, hw, by omega⟩
theorem OwnC.keptB {B T : Nat} {w w' : World} {v : Value} {c : Cat} (h : OwnC B T w v c) (hb : Below w.heap.size w w') : OwnC B T w' v c := h.kept (below_within hb w.heap.size) (.inl h.top)
/-- A category of the call's own is put into the result's cell. -/
theorem mkC_put {w W : World} {b B T' : Nat} {T : TypeId} (hR : RS w b T W) {c : Cat} (code : Int) {x0 x1 x2 x3 x4 : Value} (ho : OwnC B T' W (.agg #[x0, x1, x2, x3, x4]) c) (hb : b < B) :
    MkC w (c, code) (.returned (.tuple #[.agg #[x0, x1, x2, x3, x4], .int .i64 code])) (set5 W b x0 x1 x2 x3 x4) := by
  have hs := set5_size W b x0 x1 x2 x3 x4
  have hb2 := hR.2.1
  refine ⟨_, rfl, (ho.kept (set5_within W b x0 x1 x2 x3 x4) (.inr (by omega))).mono (by omega) (by have := ho.top; omega) (Nat.le_refl _), hR.five_bel _ _ _ _ _⟩
theorem RS.new {w W : World} {T : TypeId} {x0 x1 x2 x3 x4 : Value} (h : Below w.heap.size w W) : RS w W.heap.size T (W.alloc (.cells #[x0, x1, x2, x3, x4] T)) :=
  ⟨bel_alloc h _, h.size, _, World.rowIs_alloc W #[x0, x1, x2, x3, x4] T (fun i => #[x0, x1, x2, x3, x4].getD i undef) (fun i hi => by simp only [Array.getD, hi, dif_pos]; exact Array.getElem?_eq_getElem hi)⟩
theorem RS.drawn {w w' w'' : World} {b : Nat} {T : TypeId} (h : RS w b T w') (hd : Drawn w' w'') : RS w b T w'' := h.call (hd.below _)
theorem bel_up {B : Nat} {w w' : World} (h : Below B w w') (hB : B ≤ w.heap.size) (o : Obj) : Below B w (w'.alloc o) := h.alloc (Nat.le_trans hB h.size) o
theorem mkC_nil5 {w W : World} {b : Nat} {T : TypeId} {r : Cat × Int} {code : Int} (hR : RS w b T W) (hr : r = (nilC, code)) :
    MkC w r (.returned (.tuple #[.agg #[.int .i64 0, .slice none 0 0, .slice none 0 0, .slice none 0 0, .slice none 0 0], .int .i64 code])) (set5 W b (.int .i64 0) (.slice none 0 0) (.slice none 0 0) (.slice none 0 0) (.slice none 0 0)) :=
  mkC_nil hr (hR.five_bel _ _ _ _ _)
end Go.Proofs.YtjlpmfimbgbcmaaDoor
