/-
  Several growing slices in one memory: no two lie in one block. A list of pairs of the call's own.
-/
import Derived.Test.YtjlpmfimbgbcmaaDoorRet
namespace Go.Proofs.YtjlpmfimbgbcmaaDoor
open Go.RowKit

/-- Values that lie in blocks of the heap, no two in one. -/
structure Sep (w : World) (vs : List Value) : Prop where
  lt : ∀ v ∈ vs, ∀ k, v.ownBlock = some k → k < w.heap.size
  pw : vs.Pairwise Dj
/-- A value that stands for block k. -/
def blk (k : Nat) : Value := .slice (some ⟨k, 0, none⟩) 0 0
theorem blk_own (k : Nat) : (blk k).ownBlock = some k := rfl
theorem Sep.dj {w : World} {vs : List Value} (h : Sep w vs) (i j : Nat) {u v : Value} (hi : vs[i]? = some u) (hj : vs[j]? = some v) (hn : i ≠ j) : Dj u v := by
  obtain ⟨hi1, hi2⟩ := List.getElem?_eq_some_iff.1 hi
  obtain ⟨hj1, hj2⟩ := List.getElem?_eq_some_iff.1 hj
  have H := List.pairwise_iff_getElem.1 h.pw
  rcases Nat.lt_or_gt_of_ne hn with hlt | hlt
  · have := H i j hi1 hj1 hlt
    rwa [hi2, hj2] at this
  · have := H j i hj1 hi1 hlt
    rw [hi2, hj2] at this
    exact this.symm
theorem Sep.at {w : World} {vs : List Value} (h : Sep w vs) (i : Nat) {u : Value} (hi : vs[i]? = some u) : ∀ k, u.ownBlock = some k → k < w.heap.size := by
  obtain ⟨hi1, hi2⟩ := List.getElem?_eq_some_iff.1 hi
  exact h.lt u (by rw [← hi2]; exact List.getElem_mem hi1)
theorem Sep.ne {w : World} {vs : List Value} (h : Sep w vs) (i j : Nat) {u v : Value} (hi : vs[i]? = some u) (hj : vs[j]? = some v) (hn : i ≠ j) {k l : Nat} (hk : u.ownBlock = some k) (hl : v.ownBlock = some l) : k ≠ l := by
  have := h.dj i j hi hj hn
  rcases this with e | e
  · rw [hk] at e; cases e
  · rw [hk, hl] at e
    exact fun q => e (by rw [q])
theorem Sep.up {w w' : World} {vs : List Value} (h : Sep w vs) (hs : w.heap.size ≤ w'.heap.size) : Sep w' vs :=
  ⟨fun v hv k hk => Nat.lt_of_lt_of_le (h.lt v hv k hk) hs, h.pw⟩
theorem Sep.grew {w w' : World} {vs : List Value} (h : Sep w vs) (i : Nat) {v v' : Value} (hi : vs[i]? = some v) (hg : Grew w w' v v') (hlt : ∀ k, v'.ownBlock = some k → k < w'.heap.size) : Sep w' (vs.set i v') := by
  refine ⟨fun u hu k hk => ?_, ?_⟩
  · rcases List.mem_or_eq_of_mem_set hu with hu | hu
    · exact Nat.lt_of_lt_of_le (h.lt u hu k hk) hg.grown.size
    · subst hu; exact hlt k hk
  · apply List.pairwise_iff_getElem.2
    intro a b ha hb hab
    rw [List.length_set] at ha hb
    have e1 : vs[a]? = some vs[a] := List.getElem?_eq_getElem ha
    have e2 : vs[b]? = some vs[b] := List.getElem?_eq_getElem hb
    rw [List.getElem_set, List.getElem_set]
    by_cases ea : i = a <;> by_cases eb : i = b
    · omega
    · subst ea
      rw [if_pos rfl, if_neg eb]
      exact ((h.dj b i e2 hi (by omega)).grew hg (h.at b e2)).symm
    · subst eb
      rw [if_neg ea, if_pos rfl]
      exact (h.dj a i e1 hi (by omega)).grew hg (h.at a e1)
    · rw [if_neg ea, if_neg eb]
      exact h.dj a b e1 e2 (by omega)
theorem Sep.new {w w' : World} {vs : List Value} (h : Sep w vs) {v : Value} (hv : ∀ k, v.ownBlock = some k → w.heap.size ≤ k ∧ k < w'.heap.size) (hs : w.heap.size ≤ w'.heap.size) : Sep w' (v :: vs) := by
  refine ⟨fun u hu k hk => ?_, List.pairwise_cons.2 ⟨fun u hu => ?_, h.pw⟩⟩
  · rcases List.mem_cons.1 hu with rfl | hu
    · exact (hv k hk).2
    · exact Nat.lt_of_lt_of_le (h.lt u hu k hk) hs
  · exact (Dj.of_lt (N := w.heap.size) (fun k hk => h.lt u hu k hk) (fun k hk => (hv k hk).1)).symm
theorem Sep.nil {w : World} : Sep w [] := ⟨(fun v hv => (by cases hv)), List.Pairwise.nil⟩
theorem Sep.drop {w : World} {v : Value} {vs : List Value} (h : Sep w (v :: vs)) : Sep w vs := ⟨fun u hu => h.lt u (List.mem_cons_of_mem _ hu), (List.pairwise_cons.1 h.pw).2⟩
/-- A store into block k as growth. -/
theorem grew_set {w : World} {k i : Nat} (u : Value) : Grew w (w.setCell ⟨k, i, none⟩ u) (blk k) (blk k) :=
  ⟨⟨rfl, rfl, rfl, by simp [World.setCell], fun j hj hne => Below.heap_setCell _ _ _ _ (fun e => hne (by rw [e]; rfl))⟩, .inl rfl⟩
theorem rowIs_grew {w w' : World} {b n : Nat} {T : TypeId} {f : Nat → Value} {v v' : Value} (h : w.rowIs b T n f) (hg : Grew w w' v v') (hd : Dj (blk b) v) : w'.rowIs b T n f := by
  refine h.of_block (hg.grown.block b h.lt (fun e => ?_))
  rcases hd with hd | hd
  · cases hd
  · exact hd (by rw [blk_own, e])
theorem Own.keptG {E : TypeId} {w w' : World} {B : Nat} {u v v' : Value} {xs : List Int} (h : Own E w B u xs) (hg : Grew w w' v v') (hd : Dj u v) : Own E w' B u xs := h.grew hg hd
/-- The cells of a list of pairs. -/
def flP (P : List (Int × Int)) : List Value := P.flatMap fun x => [.int .i64 x.1, .int .i64 x.2]
theorem flP_snoc (P : List (Int × Int)) (x : Int × Int) : flP (P ++ [x]) = flP P ++ [.int .i64 x.1, .int .i64 x.2] := by simp [flP]
theorem flP_length : ∀ P : List (Int × Int), (flP P).length = P.length * 2
  | [] => rfl
  | x :: P => by
    have := flP_length P
    simp only [flP, List.flatMap_cons, List.length_append, List.length_cons, List.length_nil] at *
    omega
/-- v is a slice of pairs of the call's own, from block B on. -/
def OwnP (E : TypeId) (w : World) (B : Nat) (v : Value) (P : List (Int × Int)) : Prop := w.ownsRow B E 2 v P.length (flP P)
theorem OwnP.lt {E : TypeId} {w : World} {B : Nat} {v : Value} {P : List (Int × Int)} (h : OwnP E w B v P) : ∀ k, v.ownBlock = some k → B ≤ k ∧ k < w.heap.size := World.ownsRow.lt h
theorem OwnP.keptG {E : TypeId} {w w' : World} {B : Nat} {u v v' : Value} {P : List (Int × Int)} (h : OwnP E w B u P) (hg : Grew w w' v v') (hd : Dj u v) : OwnP E w' B u P := ownsRow_grew h hg hd
theorem OwnP.empty {E : TypeId} {w : World} {B n : Nat} (hB : B ≤ w.heap.size) (hn : w.heap.size = n) : OwnP E (w.alloc (.cells #[] E)) B (.slice (some ⟨n, 0, none⟩) 0 0) [] := by
  subst hn
  exact World.ownsRow_made w #[] 0 hB (by simp [maxLen]) (by simp)
theorem OwnP.shape {E : TypeId} {w : World} {B : Nat} {v : Value} {P : List (Int × Int)} (h : OwnP E w B v P) : ∃ ao c, v = .slice ao P.length c := by
  rcases h.2 with ⟨rfl, hn⟩ | ⟨g, cap, cur, rfl, -⟩
  · exact ⟨none, 0, by rw [hn]⟩
  · exact ⟨_, _, rfl⟩
section
variable {P : Program} {w : World}
/-- append(out, x), x a pair: behind the block of two cells that holds x. -/
theorem appP {B : Nat} {v : Value} {L : List (Int × Int)} {x y : Int} {e t : TypeId} (hown : OwnP e w B v L) (hl : L.length < 4294967296) (hB : B ≤ w.heap.size)
    (ht : P.underlying t = some (.slice e)) (hinfo : (P.info? e).map (fun i => (i.zero, i.size, i.bytes)) = some (some (.agg #[.int .i64 0, .int .i64 0]), 2, 16))
    {ops : Array Oper} {rest : List Oper} {o : Oper} {a : Act} {Q : Exit → Act → World → Prop} (hgd : o.guard = none) (s z : Operand)
    (ho : o.op = .call { callee := .builtin .append, args := #[s, z], argTypes := #[t, t] })
    (hs : a.eval s = v) (hy : a.eval z = .slice (some ⟨w.heap.size, 0, none⟩) 1 1)
    (h : ∀ v' w', OwnP e w' B v' (L ++ [(x, y)]) → Grew w w' v v' → wpList P ops Q rest (a.put o.dst v') w') : Hold (wpList P ops Q (o :: rest) a (w.alloc (.cells #[.int .i64 x, .int .i64 y] e))) := by
  show wpList P ops Q (o :: rest) a (w.alloc (.cells #[.int .i64 x, .int .i64 y] e))
  obtain ⟨i, hi, hz0, hz1, hz2⟩ := info_parts hinfo
  refine wpList_append_own2 hgd s z t ho B e i (.agg #[.int .i64 0, .int .i64 0]) 2 16 ht hi hz0 hz1 hz2 rfl (by decide) v L.length _ hs (World.ownsRow.alloc hown _) ⟨w.heap.size, 0, none⟩ 1 1 [.int .i64 x, .int .i64 y] hy rfl ?_ ?_ ?_ ?_ ?_ ?_
  · intro j u hj
    match j, hj with
    | 0, hj => simp at hj; subst hj; simp [Addr.add]
    | 1, hj => simp at hj; subst hj; simp [Addr.add]
  · intro u hu; simp at hu; rcases hu with rfl | rfl <;> rfl
  · unfold maxLen; omega
  · omega
  · simp; omega
  · intro v' w' h2 h3
    refine h v' w' ?_ h3.of_alloc
    unfold OwnP
    rw [flP_snoc, List.length_append]
    exact h2
end
end Go.Proofs.YtjlpmfimbgbcmaaDoor
