/-
  (*Category).table with a function value: the rows of the composites are made and filled.
-/
import Derived.Test.YtllbjckbinolmaaSep
import Derived.Deep.RegionHeld3
import Derived.RegionTactic
namespace Go.Proofs.Ytllbjckbinolmaa
open Go.RowKit

theorem within_new {b r : Nat} {w W X : World} (h : Within b (b + 1) w W) (k : Within r (r + 1) W X) (hr : w.heap.size ≤ r) : Within b (b + 1) w X :=
  ⟨k.os.trans h.os, k.tape.trans h.tape, k.output.trans h.output, Nat.le_trans h.size k.size, fun i hi hs => (k.block i (.inl (by omega)) (Nat.lt_of_lt_of_le hs h.size)).trans (h.block i hi hs)⟩
theorem within_bel {b : Nat} {w W X : World} (h : Within b (b + 1) w W) (k : Below W.heap.size W X) : Within b (b + 1) w X := h.trans (below_within k b |>.mono (Nat.le_refl _) (Nat.le_refl _) |> fun q => ⟨q.os, q.tape, q.output, q.size, fun i hi hs => k.block i hs⟩)
theorem rowIs_within {b : Nat} {w W : World} {r n : Nat} {T : TypeId} {f : Nat → Value} (h : w.rowIs r T n f) (k : Within b (b + 1) w W) (hn : r ≠ b) : W.rowIs r T n f := h.of_block (k.block r (by omega) h.lt)
theorem rowIs_bel {w W : World} {r n : Nat} {T : TypeId} {f : Nat → Value} (h : w.rowIs r T n f) (k : Below w.heap.size w W) : W.rowIs r T n f := h.of_block (k.block r h.lt)
theorem is_block {w W : World} {v : Value} {xs : List Int} (h : IS w v xs) (hb : ∀ k, k < w.heap.size → W.heap[k]? = w.heap[k]?) : IS W v xs := by
  obtain ⟨ao, b, o, c, rfl, ha, hc⟩ := h.ex
  refine ⟨⟨ao, b, o, c, rfl, ha, fun i hi => ?_⟩, h.wf, h.len⟩
  have := hc i hi
  have hl := World.block_lt_of_cell? _ _ this
  simp only [World.cell?] at this ⊢
  rw [hb _ hl]
  exact this
theorem set_block (W : World) (p : Addr) (v : Value) (k : Nat) (h : k ≠ p.block) : (W.setCell p v).heap[k]? = W.heap[k]? := Below.heap_setCell _ _ _ _ h
/-- What the region of the call holds on to: the row r of the table C is being filled at l. -/
structure KT (W : World) (b C r k m l : Nat) (f : Nat → Value) (w' : World) : Prop where
  wi : Within r (r + 1) W w'
  c4 : w'.cell? ⟨b, 4, none⟩ = some (.slice (some ⟨C, 0, none⟩) m m)
  ck : w'.cell? ⟨C, k, none⟩ = some (.slice (some ⟨r, 0, none⟩) m m)
  rr : w'.rowIs r 2 m (fun j => if j = l then cv w' r l else f j)
  ne : b ≠ r ∧ C ≠ r ∧ l < m
section
variable {W w' w'' : World} {b C r k m l : Nat} {f : Nat → Value}
theorem KT.all (h : KT W b C r k m l f w') : KT W b C r k m l f w' ∧ w'.cell? ⟨b, 4, none⟩ = some (.slice (some ⟨C, 0, none⟩) m m) ∧ w'.cell? ⟨C, k, none⟩ = some (.slice (some ⟨r, 0, none⟩) m m) ∧ w'.cell? ⟨r, l, none⟩ = some (cv w' r l) ∧ w'.frozen? ⟨r, l, none⟩ = false := by
  have h1 := h.rr.cell h.ne.2.2
  simp only [if_true] at h1
  exact ⟨h, h.c4, h.ck, h1, h.rr.frozen l⟩
theorem KT.call (h : KT W b C r k m l f w') (hb : Below w'.heap.size w' w'') : KT W b C r k m l f w'' := by
  have h1 := h.rr.cell h.ne.2.2
  simp only [if_true] at h1
  have h2 := upc hb h1
  have e : cv w'' r l = cv w' r l := by unfold cv; rw [h2, h1]
  refine ⟨h.wi.trans ⟨hb.os, hb.tape, hb.output, hb.size, fun i _ hs => hb.block i hs⟩, upc hb h.c4, upc hb h.ck, ?_, h.ne⟩
  rw [e]
  exact rowIs_bel h.rr hb
theorem KT.alloc (h : KT W b C r k m l f w') (o : Obj) : KT W b C r k m l f (w'.alloc o) := h.call (bel_box _ _)
theorem KT.drew (h : KT W b C r k m l f w') : KT W b C r k m l f w'.drew := h.call (Drawn.below (Drawn.one (Drawn.refl _)) _)
theorem KT.un (h : KT W b C r k m l f w'.drew) : KT W b C r k m l f w' :=
  ⟨h.wi.trans ⟨rfl, rfl, rfl, Nat.le_refl _, fun _ _ _ => rfl⟩, h.c4, h.ck, h.rr.of_block rfl, h.ne⟩
theorem KT.row (h : KT W b C r k m l f w') (u : Value) : (w'.setCell ⟨r, l, none⟩ u).rowIs r 2 m (fun j => if j = l then u else f j) :=
  (h.rr.set l u).congr fun j _ => by
    by_cases e : j = l
    · rw [if_pos e, if_pos e]
    · rw [if_neg e, if_neg e, if_neg e]
theorem KT.set (h : KT W b C r k m l f w') (u : Value) : KT W b C r k m l f (w'.setCell ⟨r, l, none⟩ u) := by
  have hr := h.row u
  have h1 := hr.cell h.ne.2.2
  simp only [if_true] at h1
  have e : cv (w'.setCell ⟨r, l, none⟩ u) r l = u := by unfold cv; rw [h1]; rfl
  refine ⟨h.wi.setCell (p := ⟨r, l, none⟩) (Nat.le_refl _) (Nat.lt_succ_self _) u, ?_, ?_, ?_, h.ne⟩
  · have := set_block w' ⟨r, l, none⟩ u b h.ne.1
    have hc := h.c4
    simp only [World.cell?] at hc ⊢
    rw [this]; exact hc
  · have := set_block w' ⟨r, l, none⟩ u C h.ne.2.1
    have hc := h.ck
    simp only [World.cell?] at hc ⊢
    rw [this]; exact hc
  · rw [e]; exact hr
theorem KT.start {f' : Nat → Value} (h1 : W.cell? ⟨b, 4, none⟩ = some (.slice (some ⟨C, 0, none⟩) m m)) (h2 : W.cell? ⟨C, k, none⟩ = some (.slice (some ⟨r, 0, none⟩) m m)) (h3 : W.rowIs r 2 m f') (hf : ∀ j, j < m → j ≠ l → f' j = f j) (hn : b ≠ r ∧ C ≠ r ∧ l < m) : KT W b C r k m l f W := by
  have hc := h3.cell hn.2.2
  have e : cv W r l = f' l := by unfold cv; rw [hc]; rfl
  refine ⟨Within.refl _ _ _, h1, h2, h3.congr fun j hj => ?_, hn⟩
  rw [e]
  by_cases ej : j = l
  · subst ej; rw [if_pos rfl]
  · rw [if_neg ej]; exact hf j hj ej
end
theorem set_cell_ne {w : World} {p : Addr} {b i : Nat} {u v : Value} (h : w.cell? ⟨b, i, none⟩ = some v) (hn : b ≠ p.block) : (w.setCell p u).cell? ⟨b, i, none⟩ = some v := by
  have := set_block w p u b hn
  simp only [World.cell?] at h ⊢
  rw [this]; exact h
theorem within_high {b : Nat} {w X : World} (h : Within b (b + 1) w X) {p : Addr} (hp : w.heap.size ≤ p.block) (u : Value) : Within b (b + 1) w (X.setCell p u) :=
  ⟨h.os, h.tape, h.output, by have := h.size; simpa [World.setCell] using this, fun i hi hs => (set_block X p u i (by omega)).trans (h.block i hi hs)⟩
theorem c_arrowsL {w : World} {b m k : Nat} {ao : Option Addr} (h : w.cell? ⟨b, 1, none⟩ = some (.slice ao m k)) : Calls Try.prog 38 #[.pointer (some ⟨b, 0, none⟩)] w (Ret w (.int .i64 (m : Int))) := by
  go_enter Try.func38, Try.ntmps38
  go_wp2_with fail
  go_ret
  exact ⟨rfl, Below.refl _ _⟩

end Go.Proofs.Ytllbjckbinolmaa
