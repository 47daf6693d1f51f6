/-
  Slices of slices of int64 that the call makes: OF, and the laws' helpers toInt64SS, eqInt64SS, markInt64SS, heldInt64SS.
-/
import Derived.Test.YtjlpmfimbgbcmaaDoorLawLib
import Derived.Test.YtjlpmfimbgbcmaaDoorApp
namespace Go.Proofs.YtjlpmfimbgbcmaaDoor
open Go.RowKit

theorem infoInts : (Tryd.prog.info? 42).map (fun i => (i.zero, i.size, i.bytes)) = some (some (.slice none 0 0), 1, 24) := by kernel_rfl

theorem OwnT.mono {E : TypeId} {B T B' T' : Nat} {w : World} {v : Value} {xs : List Int} (h : OwnT E B T w v xs) (hB : B' ≤ B) (hT : T ≤ T') : OwnT E B' T' w v xs :=
  ⟨h.own.base hB, fun k hk => Nat.lt_of_lt_of_le (h.top k hk) hT⟩
theorem OwnT.lt {E : TypeId} {B T : Nat} {w : World} {v : Value} {xs : List Int} (h : OwnT E B T w v xs) : ∀ k, v.ownBlock = some k → B ≤ k ∧ k < T := fun k hk => ⟨(h.own.lt k hk).1, h.top k hk⟩
theorem OwnT.keptB {E : TypeId} {B T : Nat} {w w' : World} {v : Value} {xs : List Int} (h : OwnT E B T w v xs) (hb : Below w.heap.size w w') : OwnT E B T w' v xs := ⟨h.own.kept hb, h.top⟩
theorem OwnT.grew {E : TypeId} {B T : Nat} {w w' : World} {u v v' : Value} {xs : List Int} (h : OwnT E B T w u xs) (hg : Grew w w' v v') (hd : Dj u v) : OwnT E B T w' u xs := ⟨h.own.grew hg hd, h.top⟩
theorem Dj.of_lt {u v : Value} {N : Nat} (hu : ∀ k, u.ownBlock = some k → k < N) (hv : ∀ k, v.ownBlock = some k → N ≤ k) : Dj u v := by
  unfold Dj
  cases h : u.ownBlock with
  | none => exact .inl rfl
  | some k =>
    refine .inr (fun e => ?_)
    have := hu k h
    have := hv k e.symm
    omega

/-- v is a slice of n slices of int64 of the call's own, in blocks from B on, below T; the i-th reads D i. -/
def OF (E E' : TypeId) (B T : Nat) (w : World) (v : Value) (n : Nat) (D : Nat → List Int) : Prop :=
  ∃ V : Nat → Value, w.ownsRow B E' 1 v n ((List.range n).map V) ∧ (∀ k, v.ownBlock = some k → k < T) ∧ (∀ i, i < n → OwnT E B T w (V i) (D i)) ∧ (∀ i j, i < n → j < n → i ≠ j → Dj (V i) (V j)) ∧ ∀ i, i < n → Dj (V i) v
theorem OF.congr {E E' : TypeId} {B T : Nat} {w : World} {v : Value} {n : Nat} {D D' : Nat → List Int} (h : OF E E' B T w v n D) (e : ∀ i, i < n → D i = D' i) : OF E E' B T w v n D' := by
  obtain ⟨V, h1, h2, h3, h4, h5⟩ := h
  exact ⟨V, h1, h2, fun i hi => by rw [← e i hi]; exact h3 i hi, h4, h5⟩
theorem OF.mono {E E' : TypeId} {B T B' T' : Nat} {w : World} {v : Value} {n : Nat} {D : Nat → List Int} (h : OF E E' B T w v n D) (hB : B' ≤ B) (hT : T ≤ T') : OF E E' B' T' w v n D := by
  obtain ⟨V, h1, h2, h3, h4, h5⟩ := h
  refine ⟨V, ⟨h1.1, ?_⟩, fun k hk => Nat.lt_of_lt_of_le (h2 k hk) hT, fun i hi => (h3 i hi).mono hB hT, h4, h5⟩
  rcases h1.2 with hn | ⟨g, cap, cur, hv, hBg, rest⟩
  · exact .inl hn
  · exact .inr ⟨g, cap, cur, hv, by omega, rest⟩
theorem ownsRow_within {E : TypeId} {B n : Nat} {sz : Nat} {w w' : World} {v : Value} {xs : List Value} {B' T' : Nat} (h : w.ownsRow B E sz v n xs) (hb : Within B' T' w w') (hd : ∀ k, v.ownBlock = some k → k < B' ∨ T' ≤ k) : w'.ownsRow B E sz v n xs := by
  refine ⟨h.1, ?_⟩
  rcases h.2 with hn | ⟨g, cap, cur, hv, hBg, hg, rest⟩
  · exact .inl hn
  · refine .inr ⟨g, cap, cur, hv, hBg, ?_, rest⟩
    rw [hb.block g (hd g (by rw [hv]; rfl)) (Array.getElem?_eq_some_iff.1 hg).1]
    exact hg
theorem OF.kept {E E' : TypeId} {B T B' T' : Nat} {w w' : World} {v : Value} {n : Nat} {D : Nat → List Int} (h : OF E E' B T w v n D) (hb : Within B' T' w w') (hd : T ≤ B' ∨ T' ≤ B) : OF E E' B T w' v n D := by
  obtain ⟨V, h1, h2, h3, h4, h5⟩ := h
  refine ⟨V, ownsRow_within h1 hb (fun k hk => ?_), h2, fun i hi => (h3 i hi).kept hb hd, h4, h5⟩
  have := h2 k hk
  have := (h1.lt k hk).1
  omega
theorem OF.keptB {E E' : TypeId} {B T : Nat} {w w' : World} {v : Value} {n : Nat} {D : Nat → List Int} (h : OF E E' B T w v n D) (hb : Below w.heap.size w w') : OF E E' B T w' v n D :=
  h.kept (below_within hb B) (.inr (Nat.le_refl _))
theorem OF.nil {E E' : TypeId} {B T : Nat} {w : World} {D : Nat → List Int} : OF E E' B T w (.slice none 0 0) 0 D :=
  ⟨fun _ => undef, World.ownsRow_nil _ _ _ _, (fun k hk => by simp [Value.ownBlock] at hk), (fun i hi => by omega), (fun i j hi => by omega), fun i hi => by omega⟩
theorem OF.empty {E E' : TypeId} {B m : Nat} {w : World} {D : Nat → List Int} (hB : B ≤ w.heap.size) (hm : w.heap.size = m) : OF E E' B (m + 1) (w.alloc (.cells #[] E')) (.slice (some ⟨m, 0, none⟩) 0 0) 0 D := by
  subst hm
  exact ⟨fun _ => undef, World.ownsRow_made w #[] 0 hB (by simp [maxLen]) (by simp), (fun k hk => by simp [Value.ownBlock] at hk; omega), (fun i hi => by omega), (fun i j hi => by omega), fun i hi => by omega⟩
theorem OF.iss {E E' : TypeId} {B T : Nat} {w : World} {v : Value} {xss : List (List Int)} (h : OF E E' B T w v xss.length (gr xss)) (hl : xss.length ≤ 4294967296) : ISS w v xss := by
  obtain ⟨V, h1, h2, h3, h4, h5⟩ := h
  refine ⟨?_, hl⟩
  rcases h1.2 with ⟨rfl, hn⟩ | ⟨g, cap, cur, rfl, hB, hg, hn, hc, hs, ht⟩
  · exact ⟨none, 0, 0, 0, V, by rw [hn], fun h0 => by omega, fun i hi => by omega, fun i hi => by omega⟩
  · refine ⟨some ⟨g, 0, none⟩, g, 0, cap, V, rfl, fun _ => rfl, fun i hi => ?_, fun i hi => (h3 i hi).is⟩
    rw [Nat.zero_add, h1.cellAt i (by omega)]
    simp [hi]
theorem OF.opened {E E' : TypeId} {B T : Nat} {w : World} {v : Value} {n : Nat} {D : Nat → List Int} (h : OF E E' B T w v n D) :
    ∃ (ao : Option Addr) (g c : Nat) (V : Nat → Value), v = .slice ao n c ∧ (0 < n → ao = some ⟨g, 0, none⟩ ∧ B ≤ g ∧ g < T) ∧ (∀ i, i < n → w.cell? ⟨g, i, none⟩ = some (V i)) ∧ ∀ i, i < n → OwnT E B T w (V i) (D i) := by
  obtain ⟨V, h1, h2, h3, h4, h5⟩ := h
  rcases h1.2 with ⟨rfl, hn⟩ | ⟨g, cap, cur, rfl, hB, hg, hn, hc, hs, ht⟩
  · subst hn
    exact ⟨none, 0, 0, V, rfl, fun h0 => by omega, fun i hi => by omega, fun i hi => by omega⟩
  · refine ⟨some ⟨g, 0, none⟩, g, cap, V, rfl, fun _ => ⟨rfl, hB, h2 g rfl⟩, fun i hi => ?_, h3⟩
    rw [h1.cellAt i (by omega)]
    simp [hi]
theorem Within.zero {w w' : World} (h : Within 0 0 w w') (B T : Nat) : Within B T w w' := ⟨h.os, h.tape, h.output, h.size, fun k _ hs => h.block k (.inr (Nat.zero_le _)) hs⟩
theorem OwnT.tight {E : TypeId} {B T : Nat} {w : World} {v : Value} {xs : List Int} (h : OwnT E B T w v xs) : ∃ g t, OwnT E g t w v xs ∧ ((v.ownBlock = some g ∧ t = g + 1) ∨ (v = .slice none 0 0 ∧ g = 0 ∧ t = 0)) := by
  have h0 := h
  obtain ⟨⟨⟨hl, hr⟩, hwf, hlen⟩, htop⟩ := h
  rcases hr with ⟨rfl, hn⟩ | ⟨g, cap, cur, rfl, hB, rest⟩
  · exact ⟨0, 0, ⟨⟨⟨hl, .inl ⟨rfl, hn⟩⟩, hwf, hlen⟩, fun k hk => by simp [Value.ownBlock] at hk⟩, .inr ⟨rfl, rfl, rfl⟩⟩
  · exact ⟨g, g + 1, ⟨⟨⟨hl, .inr ⟨g, cap, cur, rfl, Nat.le_refl _, rest⟩⟩, hwf, hlen⟩, fun k hk => by simp only [Value.ownBlock, Option.some.injEq] at hk; omega⟩, .inl ⟨rfl, rfl⟩⟩
/-- One of the inner slices is written, and reads as said. -/
theorem OF.put {E E' : TypeId} {B T : Nat} {w w' : World} {v : Value} {n : Nat} {D : Nat → List Int} {V : Nat → Value} (h1 : w.ownsRow B E' 1 v n ((List.range n).map V)) (h2 : ∀ k, v.ownBlock = some k → k < T)
    (h3 : ∀ i, i < n → OwnT E B T w (V i) (D i)) (h4 : ∀ i j, i < n → j < n → i ≠ j → Dj (V i) (V j)) (h5 : ∀ i, i < n → Dj (V i) v) {i g t : Nat} (hi : i < n) {ys : List Int}
    (hg : ((V i).ownBlock = some g ∧ t = g + 1) ∨ (V i = .slice none 0 0 ∧ g = 0 ∧ t = 0)) (hw : Within g t w w') (ho : OwnT E g t w' (V i) ys) : OF E E' B T w' v n (fun j => if j = i then ys else D j) := by
  have key : ∀ u : Value, (∀ k, u.ownBlock = some k → k < T) → Dj (V i) u → ∀ k, u.ownBlock = some k → k < g ∨ t ≤ k := by
    intro u hu hd k hk
    rcases hg with ⟨hg, rfl⟩ | ⟨_, _, hg⟩
    · rcases hd with hd | hd
      · rw [hg] at hd; cases hd
      · rw [hg, hk] at hd
        have : k ≠ g := fun e => hd (by rw [e])
        omega
    · omega
  refine ⟨V, ownsRow_within h1 hw (key v h2 (h5 i hi)), h2, fun j hj => ?_, h4, h5⟩
  dsimp only
  by_cases e : j = i
  · rw [if_pos e, e]
    rcases hg with ⟨hg, rfl⟩ | ⟨hg, _⟩
    · have hb := (h3 i hi).lt g hg
      exact ho.mono hb.1 (by omega)
    · have hrow := ho.own.row
      rw [hg] at hrow ⊢
      refine ⟨⟨⟨hrow.1, ?_⟩, ho.own.wf, ho.own.len⟩, fun k hk => by simp [Value.ownBlock] at hk⟩
      rcases hrow.2 with hh | ⟨g', c', cu, hh, _⟩
      · exact .inl hh
      · cases hh
  · rw [if_neg e]
    have hk := h3 j hj
    refine ⟨⟨ownsRow_within hk.own.row hw (key (V j) hk.top (h4 i j hi hj (Ne.symm e))), hk.own.wf, hk.own.len⟩, hk.top⟩
theorem ownsRow_of_row {E : TypeId} {w : World} {B b n : Nat} {f : Nat → Value} (hr : w.rowIs b E n f) (hB : B ≤ b) (hn : n ≤ 4294967296) : w.ownsRow B E 1 (.slice (some ⟨b, 0, none⟩) n n) n ((List.range n).map f) := by
  obtain ⟨c, hb, hcn, hc⟩ := hr
  refine ⟨by simp, .inr ⟨b, n, c, rfl, hB, hb, Nat.le_refl _, by unfold maxLen; omega, by omega, ?_⟩⟩
  rw [List.take_of_length_le (by simp; omega)]
  apply List.ext_getElem?
  intro i
  by_cases hi : i < n
  · have := hc i hi
    rw [Array.getElem?_toList, this]
    simp [hi]
  · rw [List.getElem?_eq_none (by simp; omega), List.getElem?_eq_none (by simp; omega)]
/-- Two own rows of different types do not lie in one block. -/
theorem dj_types {E E' : TypeId} {w : World} {B B' n : Nat} {u v : Value} {xs : List Int} {ys : List Value} (hne : E ≠ E') (hu : Own E w B u xs) (hv : w.ownsRow B' E' 1 v n ys) : Dj u v := by
  unfold Dj
  rcases hu.row.2 with ⟨rfl, _⟩ | ⟨g, cap, cur, rfl, _, hg, _⟩
  · exact .inl rfl
  · rcases hv.2 with ⟨rfl, _⟩ | ⟨g', cap', cur', rfl, _, hg', _⟩
    · exact .inr (fun e => by simp [Value.ownBlock] at e)
    · refine .inr (fun e => ?_)
      simp only [Value.ownBlock, Option.some.injEq] at e
      subst e
      rw [hg] at hg'
      injection hg' with h
      injection h with h1 h2
      exact hne h2

section
variable {P : Program} {w : World}
/-- append(out, u), u a slice of int64 of the call's own that is younger than out. -/
theorem appSS {E E' t : TypeId} {B N : Nat} {u v : Value} {n : Nat} {D : Nat → List Int} {ys : List Int} (hne : E ≠ E') (hv : OF E E' B N w v n D) (hu : OwnT E N w.heap.size w u ys) (hBN : B ≤ N) (hNw : N ≤ w.heap.size) (hl : n < 4294967296)
    (ht : P.underlying t = some (.slice E')) (hinfo : (P.info? E').map (fun i => (i.zero, i.size, i.bytes)) = some (some (.slice none 0 0), 1, 24))
    {ops : Array Oper} {rest : List Oper} {o : Oper} {a : Act} {Q : Exit → Act → World → Prop} (hgd : o.guard = none) (s y : Operand)
    (ho : o.op = .call { callee := .builtin .append, args := #[s, y], argTypes := #[t, t] })
    (hs : a.eval s = v) {m : Nat} (hy : a.eval y = .slice (some ⟨m, 0, none⟩) 1 1) (hm : w.heap.size = m)
    (h : ∀ v' w', OF E E' B w'.heap.size w' v' (n + 1) (fun i => if i < n then D i else ys) → Grew w w' v v' → wpList P ops Q rest (a.put o.dst v') w') : Hold (wpList P ops Q (o :: rest) a (w.alloc (.cells #[u] E'))) := by
  subst hm
  show wpList P ops Q (o :: rest) a (w.alloc (.cells #[u] E'))
  obtain ⟨i, hi, hz0, hz1, hz2⟩ := info_parts hinfo
  obtain ⟨V, h1, h2, h3, h4, h5⟩ := hv
  refine wpList_append_own2 hgd s y t ho B E' i (.slice none 0 0) 1 24 ht hi hz0 hz1 hz2 rfl (by decide) v n _ hs (h1.alloc _) ⟨w.heap.size, 0, none⟩ 1 1 [u] hy rfl ?_ ?_ ?_ ?_ ?_ ?_
  · intro j x hj
    match j, hj with
    | 0, hj => simp at hj; subst hj; simp [Addr.add]
  · intro x hx
    simp at hx; subst hx
    rcases hu.own.row.2 with ⟨rfl, _⟩ | ⟨g, cap, cur, rfl, _⟩ <;> rfl
  · unfold maxLen; omega
  · omega
  · simp; omega
  · intro v' w' k2 k3
    have k3' := k3.of_alloc
    have hsz := k3'.grown.size
    refine h v' w' ?_ k3'
    have duv : Dj u v := dj_types hne hu.own h1
    refine ⟨fun j => if j < n then V j else u, ?_, fun k hk => (k2.lt k hk).2, fun j hj => ?_, fun j j' hj hj' hjj => ?_, fun j hj => ?_⟩ <;> (try dsimp only)
    · have e : (List.range (n + 1)).map (fun j => if j < n then V j else u) = (List.range n).map V ++ [u] := by
        rw [List.range_succ, List.map_append]
        congr 1
        · apply List.map_congr_left
          intro j hj
          rw [if_pos (List.mem_range.1 hj)]
        · simp
      rw [e]; exact k2
    · by_cases e : j < n
      · rw [if_pos e, if_pos e]
        exact ((h3 j e).grew k3' (h5 j e)).mono (Nat.le_refl _) (by omega)
      · rw [if_neg e, if_neg e]
        exact (hu.grew k3' duv).mono hBN hsz
    · have hlo : ∀ q, q < n → ∀ k, (V q).ownBlock = some k → k < N := fun q hq k hk => (h3 q hq).top k hk
      have hhi : ∀ k, u.ownBlock = some k → N ≤ k := fun k hk => (hu.lt k hk).1
      by_cases e : j < n <;> by_cases e' : j' < n
      · rw [if_pos e, if_pos e']; exact h4 j j' e e' hjj
      · rw [if_pos e, if_neg e']; exact Dj.of_lt (hlo j e) hhi
      · rw [if_neg e, if_pos e']; exact (Dj.of_lt (hlo j' e') hhi).symm
      · omega
    · have hlt : ∀ k, (if j < n then V j else u).ownBlock = some k → k < w.heap.size := by
        intro k hk
        by_cases e : j < n
        · rw [if_pos e] at hk; have := (h3 j e).top k hk; omega
        · rw [if_neg e] at hk; exact hu.top k hk
      have hd : Dj (if j < n then V j else u) v := by
        by_cases e : j < n
        · rw [if_pos e]; exact h5 j e
        · rw [if_neg e]; exact duv
      exact hd.grew k3' hlt
end

section
variable {P : Program} {w : World}
/-- append(out, u) as one step of a region that draws: u lies in the cell at block m. -/
theorem stepAppSS {E E' t : TypeId} {B N T m : Nat} {u v : Value} {n : Nat} {D : Nat → List Int} {ys : List Int} (hne : E ≠ E') (hv : OF E E' B N w v n D) (hu : OwnT E N T w u ys) (hcell : w.cell? ⟨m, 0, none⟩ = some u) (hBN : B ≤ N) (hNw : N ≤ w.heap.size) (hTw : T ≤ w.heap.size) (hl : n < 4294967296)
    (ht : P.underlying t = some (.slice E')) (hinfo : (P.info? E').map (fun i => (i.zero, i.size, i.bytes)) = some (some (.slice none 0 0), 1, 24))
    {ops : Array Oper} {o : Oper} {a : Act} {K : Act → World → Prop} {Q : Exit → Act → World → Prop} {F : Prop} (hgd : o.guard = none) (s y : Operand)
    (ho : o.op = .call { callee := .builtin .append, args := #[s, y], argTypes := #[t, t] })
    (hs : a.eval s = v) (hy : a.eval y = .slice (some ⟨m, 0, none⟩) 1 1)
    (h : ∀ v' w', OF E E' B w'.heap.size w' v' (n + 1) (fun i => if i < n then D i else ys) → Grew w w' v v' → K (a.put o.dst v') w') : if Region.wanted o (yielded ops a.tmps) = true then Oper.wp P o a w K Q else F := by
  have hw : Region.wanted o (yielded ops a.tmps) = true := by simp [Region.wanted, hgd]
  rw [if_pos hw]
  obtain ⟨i, hi, hz0, hz1, hz2⟩ := info_parts hinfo
  obtain ⟨V, h1, h2, h3, h4, h5⟩ := hv
  obtain ⟨v', w', hr, k2, k3⟩ := run_append_own2 (P := P) (w := w) B t o.type E' i (.slice none 0 0) 1 24 ht hi hz0 hz1 hz2 rfl (by decide) v n _ h1 ⟨m, 0, none⟩ 1 1 [u] rfl
    (by
      intro j x hj
      match j, hj with
      | 0, hj => simp at hj; subst hj; simpa [Addr.add] using hcell)
    (by
      intro x hx
      simp at hx; subst hx
      rcases hu.own.row.2 with ⟨rfl, _⟩ | ⟨g, cap, cur, rfl, _⟩ <;> rfl) (by unfold maxLen; omega) (by omega) (by omega)
  unfold Oper.wp execOp
  simp only [ho, resolve, invoke, builtin, Sem.run_bind, Sem.run_pure, Result.andThen_ok, List.map_toArray, List.map_cons, List.map_nil, hs, hy, hr]
  have hsz := k3.grown.size
  refine h v' w' ?_ k3
  have duv : Dj u v := dj_types hne hu.own h1
  refine ⟨fun j => if j < n then V j else u, ?_, fun k hk => (k2.lt k hk).2, fun j hj => ?_, fun j j' hj hj' hjj => ?_, fun j hj => ?_⟩ <;> (try dsimp only)
  · have e : (List.range (n + 1)).map (fun j => if j < n then V j else u) = (List.range n).map V ++ [u] := by
      rw [List.range_succ, List.map_append]
      congr 1
      · apply List.map_congr_left
        intro j hj
        rw [if_pos (List.mem_range.1 hj)]
      · simp
    rw [e]; exact k2
  · by_cases e : j < n
    · rw [if_pos e, if_pos e]
      exact ((h3 j e).grew k3 (h5 j e)).mono (Nat.le_refl _) (by omega)
    · rw [if_neg e, if_neg e]
      exact (hu.grew k3 duv).mono hBN (by omega)
  · have hlo : ∀ q, q < n → ∀ k, (V q).ownBlock = some k → k < N := fun q hq k hk => (h3 q hq).top k hk
    have hhi : ∀ k, u.ownBlock = some k → N ≤ k := fun k hk => (hu.lt k hk).1
    by_cases e : j < n <;> by_cases e' : j' < n
    · rw [if_pos e, if_pos e']; exact h4 j j' e e' hjj
    · rw [if_pos e, if_neg e']; exact Dj.of_lt (hlo j e) hhi
    · rw [if_neg e, if_pos e']; exact (Dj.of_lt (hlo j' e') hhi).symm
    · omega
  · have hlt : ∀ k, (if j < n then V j else u).ownBlock = some k → k < w.heap.size := by
      intro k hk
      by_cases e : j < n
      · rw [if_pos e] at hk; have := (h3 j e).top k hk; omega
      · rw [if_neg e] at hk; have := hu.top k hk; omega
    have hd : Dj (if j < n then V j else u) v := by
      by_cases e : j < n
      · rw [if_pos e]; exact h5 j e
      · rw [if_neg e]; exact duv
    exact hd.grew k3 hlt
end

/-- How many numbers lie in the first i lists. -/
def pS (D : Nat → List Int) : Nat → Nat
  | 0 => 0
  | i + 1 => pS D i + (D i).length
theorem pS_le (D : Nat → List Int) {i j : Nat} (h : i ≤ j) : pS D i ≤ pS D j := by
  induction j with
  | zero => have : i = 0 := by omega
            subst this; exact Nat.le_refl _
  | succ j ih =>
    by_cases e : i = j + 1
    · subst e; exact Nat.le_refl _
    · have := ih (by omega)
      simp only [pS]; omega
def mkSS (k : Int) (D : Nat → List Int) (n : Nat) : List (List Int) := (List.range n).map fun j => mkI (k + (pS D j : Int)) (D j).length
theorem mkSS_length (k : Int) (D : Nat → List Int) (n : Nat) : (mkSS k D n).length = n := by simp [mkSS]
theorem gr_mkSS {k : Int} {D : Nat → List Int} {n j : Nat} (h : j < n) : gr (mkSS k D n) j = mkI (k + (pS D j : Int)) (D j).length := by
  rw [gr_lt (by rw [mkSS_length]; exact h)]; simp [mkSS]

/-- A slice of slices of int64 of the call's own, with bounds. -/
structure OwnSS (E E' : TypeId) (B T : Nat) (w : World) (v : Value) (xss : List (List Int)) : Prop where
  of : OF E E' B T w v xss.length (gr xss)
  len : xss.length ≤ 1048576
  size : pS (gr xss) xss.length ≤ 1099511627776
theorem OwnSS.is {E E' : TypeId} {B T : Nat} {w : World} {v : Value} {xss : List (List Int)} (h : OwnSS E E' B T w v xss) : ISS w v xss := h.of.iss (by have := h.len; omega)
theorem OwnSS.kept {E E' : TypeId} {B T B' T' : Nat} {w w' : World} {v : Value} {xss : List (List Int)} (h : OwnSS E E' B T w v xss) (hb : Within B' T' w w') (hd : T ≤ B' ∨ T' ≤ B) : OwnSS E E' B T w' v xss := ⟨h.of.kept hb hd, h.len, h.size⟩
theorem pS_mkSS (k : Int) (D : Nat → List Int) (n : Nat) : ∀ i, i ≤ n → pS (gr (mkSS k D n)) i = pS D i := by
  intro i
  induction i with
  | zero => intro _; rfl
  | succ i ih =>
    intro hi
    simp only [pS]
    rw [ih (by omega), gr_mkSS (by omega), mkI_length]
end Go.Proofs.YtjlpmfimbgbcmaaDoor
