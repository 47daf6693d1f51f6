/-
  append on a slice of the call's own: what it leaves, said so that several growing slices can be told apart. Over any program.
-/
import Derived.Test.YtjlpmfimbgbcmaaDoorBase
import Derived.Deep.RegionLaw
namespace Go.Proofs.YtjlpmfimbgbcmaaDoor
open Go.RowKit

/-- What an append to v leaves: v' lies where v lay, or in a new block; nothing but v's block was written. -/
structure Grew (w w' : World) (v v' : Value) : Prop where
  grown : w.grownBy w' v.ownBlock
  blk : v'.ownBlock = v.ownBlock ∨ ∃ k, v'.ownBlock = some k ∧ w.heap.size ≤ k

/-- Two slices do not lie in one block. -/
def Dj (u v : Value) : Prop := u.ownBlock = none ∨ u.ownBlock ≠ v.ownBlock
theorem Dj.lit {a b n c n' c' : Nat} (h : a ≠ b) : Dj (.slice (some ⟨a, 0, none⟩) n c) (.slice (some ⟨b, 0, none⟩) n' c') := by
  refine .inr (fun e => ?_)
  simp only [Value.ownBlock, Option.some.injEq] at e
  exact h e
theorem Dj.nil {v : Value} : Dj (.slice none 0 0) v := .inl rfl
theorem Dj.symm {u v : Value} (h : Dj u v) : Dj v u := by
  unfold Dj at *
  cases hv : v.ownBlock with
  | none => exact .inl rfl
  | some k =>
    refine .inr ?_
    rcases h with h | h
    · rw [h]; exact fun e => by cases e
    · rw [hv] at h; exact fun e => h e.symm
theorem Dj.grew {u v v' : Value} {w w' : World} (h : Dj u v) (hg : Grew w w' v v') (hu : ∀ k, u.ownBlock = some k → k < w.heap.size) : Dj u v' := by
  unfold Dj at *
  rcases hg.blk with e | ⟨k, e, hk⟩
  · rw [e]; exact h
  · cases hu' : u.ownBlock with
    | none => exact .inl rfl
    | some j =>
      refine .inr ?_
      rw [e]
      intro ee
      have := hu j hu'
      cases ee
      omega
theorem Grew.of_alloc {w w' : World} {o : Obj} {v v' : Value} (h : Grew (w.alloc o) w' v v') : Grew w w' v v' := by
  refine ⟨⟨h.grown.os, h.grown.tape, h.grown.output, ?_, fun k hk hne => ?_⟩, ?_⟩
  · have := h.grown.size; simp at this; omega
  · rw [h.grown.block k (by simp; omega) hne]; exact Below.heap_alloc _ _ _ hk
  · rcases h.blk with e | ⟨k, e, hk⟩
    · exact .inl e
    · exact .inr ⟨k, e, by simp at hk; omega⟩
theorem Grew.below {B : Nat} {a w w' : World} {v v' : Value} (h : Grew w w' v v') (hb : Below B a w) (hB : B ≤ w.heap.size) (hv : ∀ k, v.ownBlock = some k → B ≤ k) : Below B a w' :=
  hb.grown h.grown hB hv
theorem Grew.within {B T : Nat} {w w' : World} {v v' : Value} (h : Grew w w' v v') (hv : ∀ k, v.ownBlock = some k → B ≤ k ∧ k < T) : Within B T w w' :=
  ⟨h.grown.os, h.grown.tape, h.grown.output, h.grown.size, fun k hk hs => h.grown.block k hs (fun e => by have := hv k e.symm; omega)⟩

theorem ownsRow_grew {E : TypeId} {w w' : World} {B n : Nat} {sz : Nat} {u v v' : Value} {xs : List Value} (h : w.ownsRow B E sz u n xs) (hg : Grew w w' v v') (hd : Dj u v) : w'.ownsRow B E sz u n xs :=
  h.kept hg.grown hd
theorem Own.grew {E : TypeId} {w w' : World} {B : Nat} {u v v' : Value} {xs : List Int} (h : Own E w B u xs) (hg : Grew w w' v v') (hd : Dj u v) : Own E w' B u xs :=
  ⟨ownsRow_grew h.row hg hd, h.wf, h.len⟩
theorem Own.lt {E : TypeId} {w : World} {B : Nat} {v : Value} {xs : List Int} (h : Own E w B v xs) : ∀ k, v.ownBlock = some k → B ≤ k ∧ k < w.heap.size := h.row.lt

theorem Own.shape {E : TypeId} {w : World} {B : Nat} {v : Value} {xs : List Int} (h : Own E w B v xs) : ∃ ao c, v = .slice ao xs.length c := by
  obtain ⟨ao, b, o, c, hv, -⟩ := h.is.ex
  exact ⟨ao, c, hv⟩
theorem Own.empty (E : TypeId) (w : World) (B : Nat) (hB : B ≤ w.heap.size) : Own E (w.alloc (.cells #[] E)) B (.slice (some ⟨w.heap.size, 0, none⟩) 0 0) [] :=
  ⟨World.ownsRow_made w #[] 0 hB (by simp [maxLen]) (by simp), (fun _ hx => by cases hx), by simp⟩
theorem Own.alloc {E : TypeId} {w : World} {B : Nat} {v : Value} {xs : List Int} (h : Own E w B v xs) (o : Obj) : Own E (w.alloc o) B v xs :=
  h.kept ((Below.refl _ _).alloc (Nat.le_refl _) o)
theorem IS.cellAt {w w' : World} {b o k : Nat} {z : Value} {B : Nat} (hb : Below B w w') (h : w.cell? ⟨b, o + k, none⟩ = some z) (hB : B = w.heap.size) : w'.cell? ⟨b, o + k, none⟩ = some z := by
  subst hB
  exact (hb.cell (World.block_lt_of_cell? _ _ h)).trans h
theorem bel_alloc {w w' : World} (h : Below w.heap.size w w') (o : Obj) : Below w.heap.size w (w'.alloc o) := h.alloc h.size o
theorem le_alloc (w : World) (o : Obj) : w.heap.size ≤ (w.alloc o).heap.size := by simp
theorem Own.empty' {E : TypeId} {w : World} {B n : Nat} (hB : B ≤ w.heap.size) (hn : w.heap.size = n) : Own E (w.alloc (.cells #[] E)) B (.slice (some ⟨n, 0, none⟩) 0 0) [] := by
  subst hn; exact Own.empty E w B hB
/-- The indexes below n that p takes. -/
def sel (p : Nat → Bool) (n : Nat) : List Int := ((List.range n).filter p).map fun (i : Nat) => (i : Int)
theorem sel_yes {p : Nat → Bool} {k : Nat} (h : p k = true) : sel p (k + 1) = sel p k ++ [(k : Int)] := by
  simp [sel, List.range_succ, List.filter_append, h]
theorem sel_no {p : Nat → Bool} {k : Nat} (h : p k = false) : sel p (k + 1) = sel p k := by
  simp [sel, List.range_succ, List.filter_append, h]
theorem sel_le (p : Nat → Bool) (n : Nat) : (sel p n).length ≤ n := by
  have := List.length_filter_le p (List.range n)
  simp [sel] at *; exact this
/-- g 0, .., g (n - 1) -/
def tab (g : Nat → Int) (n : Nat) : List Int := (List.range n).map g
theorem tab_succ (g : Nat → Int) (k : Nat) : tab g (k + 1) = tab g k ++ [g k] := by simp [tab, List.range_succ]
theorem tab_length (g : Nat → Int) (n : Nat) : (tab g n).length = n := by simp [tab]
theorem gi_tab {g : Nat → Int} {n i : Nat} (h : i < n) : gi (tab g n) i = g i := by
  rw [gi_lt (by rw [tab_length]; exact h)]; simp [tab]
theorem tab_gi (xs : List Int) : tab (gi xs) xs.length = xs := by
  apply List.ext_getElem (by simp [tab])
  intro i h1 h2
  simp [tab, gi_lt h2]
theorem tab_I64 {g : Nat → Int} {n : Nat} (h : ∀ i, i < n → I64 (g i)) : AllI64 (tab g n) := by
  intro x hx
  simp only [tab, List.mem_map, List.mem_range] at hx
  obtain ⟨i, hi, rfl⟩ := hx
  exact h i hi
/-- A goal at which the walk holds still: 'go_wp2_with (at_builtin; refine hold ?_)' stops ahead of an append. -/
def Hold (p : Prop) : Prop := p
theorem hold {p : Prop} (h : Hold p) : p := h
section
variable {P : Program} {w : World}
theorem run_append_own2 (base : Nat) (t ty e : TypeId) (i : TypeInfo) (z : Value) (size bytes : Nat) (ht : P.underlying t = some (.slice e)) (hi : P.info? e = some i) (hz : i.zero = some z)
    (hsize : i.size = size) (hby : i.bytes = bytes) (hzs : z.cells.size = size) (hsz : 0 < size)
    (v : Value) (n : Nat) (xs : List Value) (hown : w.ownsRow base e size v n xs)
    (a : Addr) (m c : Nat) (news : List Value) (hl : news.length = m * size) (hnews : ∀ j u, news[j]? = some u → w.cell? (a.add j) = some u) (h1 : ∀ u ∈ news, u.oneCell' = true)
    (h63 : n + m ≤ maxLen) (hbytes : (n + m) * bytes ≤ 140737488355328) (hbase : base ≤ w.heap.size) :
    ∃ v' w', (Builtin.append_ #[t, t] ty #[v, .slice (some a) m c]).run P w = .ok v' w' ∧ w'.ownsRow base e size v' (n + m) (xs ++ news) ∧ Grew w w' v v' := by
  obtain ⟨v', w', hr, h2, h3, h4⟩ := run_append_own (P := P) w base t ty e i z size bytes ht hi hz hsize hby hzs hsz v n xs hown a m c news hl hnews h1 h63 hbytes hbase
  refine ⟨v', w', hr, h2, h3, ?_⟩
  have hsmall : n + m ≤ 9223372036854775807 := by simp only [maxLen] at h63; omega
  subst hsize
  subst hby
  rcases hown.2 with ⟨rfl, rfl⟩ | ⟨g, cap, cur, rfl, hbg, hg, hnc, hcm, hcs, htake⟩
  · by_cases hm : m = 0
    · left; rw [h4.2 ⟨rfl, hm⟩]
    · have hr' := run_append_nil (P := P) w t ty e i z ht hi hz a m c news hl hnews (by omega) (by omega) (by have hb := hbytes; simp only [Nat.zero_add] at hb; omega)
      rw [hr'] at hr
      injection hr with hv hw
      right
      exact ⟨w.heap.size, by rw [← hv]; rfl, Nat.le_refl _⟩
  · by_cases hroom : n + m ≤ cap
    · have hfit : n * i.size + news.length ≤ cur.size := by rw [hl, hcs, ← Nat.add_mul]; exact Nat.mul_le_mul_right _ hroom
      have hr' := run_append_room (P := P) w t ty e i ht hi g n cap cur hg a m c news hl hnews h1 hroom hfit
      rw [hr'] at hr
      injection hr with hv hw
      left
      rw [← hv]; rfl
    · have holds : ∀ j u, xs[j]? = some u → w.cell? ((⟨g, 0, none⟩ : Addr).add j) = some u := hown.cells (g := g) rfl
      have hr' := run_append_grow (P := P) w t ty e i z ht hi hz ⟨g, 0, none⟩ n cap xs hown.1 holds a m c news hl hnews (by omega) (by omega) (growslice_fits (by omega) hbytes)
      rw [hr'] at hr
      injection hr with hv hw
      right
      exact ⟨w.heap.size, by rw [← hv]; rfl, Nat.le_refl _⟩

theorem wpList_append_own2 {ops : Array Oper} {rest : List Oper} {o : Oper} {a : Act} {Q : Exit → Act → World → Prop} (hgd : o.guard = none) (s x : Operand) (t : TypeId)
    (ho : o.op = .call { callee := .builtin .append, args := #[s, x], argTypes := #[t, t] })
    (base : Nat) (e : TypeId) (i : TypeInfo) (z : Value) (size bytes : Nat) (ht : P.underlying t = some (.slice e)) (hi : P.info? e = some i) (hz : i.zero = some z)
    (hsize : i.size = size) (hby : i.bytes = bytes) (hzs : z.cells.size = size) (hsz : 0 < size)
    (v : Value) (n : Nat) (xs : List Value) (hs : a.eval s = v) (hown : w.ownsRow base e size v n xs)
    (ad : Addr) (m c : Nat) (news : List Value) (hx : a.eval x = .slice (some ad) m c) (hl : news.length = m * size) (hnews : ∀ j u, news[j]? = some u → w.cell? (ad.add j) = some u) (h1 : ∀ u ∈ news, u.oneCell' = true)
    (h63 : n + m ≤ maxLen) (hbytes : (n + m) * bytes ≤ 140737488355328) (hbase : base ≤ w.heap.size)
    (h : ∀ v' w', w'.ownsRow base e size v' (n + m) (xs ++ news) → Grew w w' v v' → wpList P ops Q rest (a.put o.dst v') w') : wpList P ops Q (o :: rest) a w :=
  wpList_plain hgd fun K hK => by
    obtain ⟨v', w', hr, h2, h3⟩ := run_append_own2 (P := P) (w := w) base t o.type e i z size bytes ht hi hz hsize hby hzs hsz v n xs hown ad m c news hl hnews h1 h63 hbytes hbase
    unfold Oper.wp execOp
    simp only [ho, resolve, invoke, builtin, Sem.run_bind, Sem.run_pure, Result.andThen_ok, List.map_toArray, List.map_cons, List.map_nil, hs, hx, hr]
    exact hK _ _ (h v' w' h2 h3)

/-- append(out, x), x an int64: behind the one-cell block that holds x. -/
theorem app1 {B : Nat} {v : Value} {xs : List Int} {x : Int} {e t : TypeId} (hown : Own e w B v xs) (hx : I64 x) (hl : xs.length < 4294967296) (hB : B ≤ w.heap.size)
    (ht : P.underlying t = some (.slice e)) (hinfo : (P.info? e).map (fun i => (i.zero, i.size, i.bytes)) = some (some (.int .i64 0), 1, 8))
    {ops : Array Oper} {rest : List Oper} {o : Oper} {a : Act} {Q : Exit → Act → World → Prop} (hgd : o.guard = none) (s y : Operand)
    (ho : o.op = .call { callee := .builtin .append, args := #[s, y], argTypes := #[t, t] })
    (hs : a.eval s = v) (hy : a.eval y = .slice (some ⟨w.heap.size, 0, none⟩) 1 1)
    (h : ∀ v' w', Own e w' B v' (xs ++ [x]) → Grew w w' v v' → wpList P ops Q rest (a.put o.dst v') w') : Hold (wpList P ops Q (o :: rest) a (w.alloc (.cells #[.int .i64 x] e))) := by
  show wpList P ops Q (o :: rest) a (w.alloc (.cells #[.int .i64 x] e))
  obtain ⟨i, hi, hz0, hz1, hz2⟩ := info_parts hinfo
  refine wpList_append_own2 hgd s y t ho B e i (.int .i64 0) 1 8 ht hi hz0 hz1 hz2 rfl (by decide) v xs.length _ hs (hown.row.alloc _) ⟨w.heap.size, 0, none⟩ 1 1 [.int .i64 x] hy rfl ?_ ?_ ?_ ?_ ?_ ?_
  · intro j u hj
    match j, hj with
    | 0, hj => simp at hj; subst hj; simp [Addr.add]
  · intro u hu; simp at hu; subst hu; rfl
  · unfold maxLen; omega
  · omega
  · simp; omega
  · intro v' w' h2 h3
    refine h v' w' ⟨?_, ?_, ?_⟩ h3.of_alloc
    · rw [List.length_append]; simpa using h2
    · intro z hz
      rcases List.mem_append.1 hz with hz | hz
      · exact hown.wf z hz
      · simp at hz; subst hz; exact hx
    · simp; omega
/-- append(out, x) as one step of a region that draws: x lies in the cell at block n. -/
theorem stepApp1 {B n : Nat} {v : Value} {xs : List Int} {x : Int} {e t : TypeId} (hown : Own e w B v xs) (hx : I64 x) (hcell : w.cell? ⟨n, 0, none⟩ = some (.int .i64 x)) (hl : xs.length < 4294967296) (hB : B ≤ w.heap.size)
    (ht : P.underlying t = some (.slice e)) (hinfo : (P.info? e).map (fun i => (i.zero, i.size, i.bytes)) = some (some (.int .i64 0), 1, 8))
    {ops : Array Oper} {o : Oper} {a : Act} {K : Act → World → Prop} {Q : Exit → Act → World → Prop} {E : Prop} (hgd : o.guard = none) (s y : Operand)
    (ho : o.op = .call { callee := .builtin .append, args := #[s, y], argTypes := #[t, t] })
    (hs : a.eval s = v) (hy : a.eval y = .slice (some ⟨n, 0, none⟩) 1 1)
    (h : ∀ v' w', Own e w' B v' (xs ++ [x]) → Grew w w' v v' → K (a.put o.dst v') w') : if Region.wanted o (yielded ops a.tmps) = true then Oper.wp P o a w K Q else E := by
  have hw : Region.wanted o (yielded ops a.tmps) = true := by simp [Region.wanted, hgd]
  rw [if_pos hw]
  obtain ⟨i, hi, hz0, hz1, hz2⟩ := info_parts hinfo
  obtain ⟨v', w', hr, h2, h3⟩ := run_append_own2 (P := P) (w := w) B t o.type e i (.int .i64 0) 1 8 ht hi hz0 hz1 hz2 rfl (by decide) v xs.length _ hown.row ⟨n, 0, none⟩ 1 1 [.int .i64 x] rfl
    (by
      intro j u hj
      match j, hj with
      | 0, hj => simp at hj; subst hj; simpa [Addr.add] using hcell)
    (by intro u hu; simp at hu; subst hu; rfl) (by unfold maxLen; omega) (by omega) hB
  unfold Oper.wp execOp
  simp only [ho, resolve, invoke, builtin, Sem.run_bind, Sem.run_pure, Result.andThen_ok, List.map_toArray, List.map_cons, List.map_nil, hs, hy, hr]
  refine h v' w' ⟨?_, ?_, ?_⟩ h3
  · rw [List.length_append]; simpa using h2
  · intro z hz
    rcases List.mem_append.1 hz with hz | hz
    · exact hown.wf z hz
    · simp at hz; subst hz; exact hx
  · simp; omega
end
end Go.Proofs.YtjlpmfimbgbcmaaDoor
