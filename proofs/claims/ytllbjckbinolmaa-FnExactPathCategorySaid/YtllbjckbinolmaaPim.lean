/-
  PathCategory of the program.
-/
import Derived.Test.YtllbjckbinolmaaPcm
import Derived.Test.YtllbjckbinolmaaTableP
namespace Go.Proofs.Ytllbjckbinolmaa
open Go.RowKit

theorem RS.grow {w w' w'' : World} {b : Nat} {T : TypeId} {v v' : Value} (h : RS w b T w') (hg : Grew w' w'' v v') (hd : Dj (blk b) v) (hv : ∀ k, v.ownBlock = some k → w.heap.size ≤ k) : RS w b T w'' := by
  obtain ⟨h1, h2, f, hf⟩ := h
  exact ⟨hg.below h1 h1.size hv, h2, f, rowIs_grew hf hg hd⟩
theorem size_set (w : World) (p : Addr) (v : Value) : (w.setCell p v).heap.size = w.heap.size := by simp [World.setCell]
/-- The cells of the category in the making. -/
def rowC (n : Int) (rf rt ri : Value) (i : Nat) : Value := if i = 0 then .int .i64 n else if i = 1 then rf else if i = 2 then rt else if i = 3 then ri else .slice none 0 0
theorem own_int {E : TypeId} {w : World} {B : Nat} {v : Value} {xs : List Int} (h : Own E w B v xs) (hB : B ≤ w.heap.size) :
    ∃ g t, OwnT E g t w v xs ∧ B ≤ g ∧ g ≤ t ∧ t ≤ w.heap.size ∧ ((v.ownBlock = some g ∧ t = g + 1) ∨ (v.ownBlock = none ∧ g = B ∧ t = B)) := by
  have h0 := h
  obtain ⟨⟨hl, hr⟩, hwf, hlen⟩ := h
  rcases hr with ⟨rfl, hn⟩ | ⟨g, cap, cur, rfl, hg, rest⟩
  · refine ⟨B, B, ⟨⟨⟨hl, .inl ⟨rfl, hn⟩⟩, hwf, hlen⟩, fun k hk => by simp [Value.ownBlock] at hk⟩, by omega, by omega, hB, .inr ⟨rfl, rfl, rfl⟩⟩
  · refine ⟨g, g + 1, ⟨⟨⟨hl, .inr ⟨g, cap, cur, rfl, Nat.le_refl _, rest⟩⟩, hwf, hlen⟩, fun k hk => by simp only [Value.ownBlock, Option.some.injEq] at hk; omega⟩, hg, by omega, (h0.lt g rfl).2, .inl ⟨rfl, rfl⟩⟩
theorem int_apart {u v : Value} {B g t g' t' : Nat} (h : (u.ownBlock = some g ∧ t = g + 1) ∨ (u.ownBlock = none ∧ g = B ∧ t = B)) (h' : (v.ownBlock = some g' ∧ t' = g' + 1) ∨ (v.ownBlock = none ∧ g' = B ∧ t' = B)) (hd : Dj u v) (hg : B ≤ g) (hg' : B ≤ g') : t ≤ g' ∨ t' ≤ g := by
  rcases h with ⟨e, rfl⟩ | ⟨-, rfl, rfl⟩
  · rcases h' with ⟨e', rfl⟩ | ⟨-, rfl, rfl⟩
    · have hn : g ≠ g' := by
        rcases hd with hd | hd
        · rw [e] at hd; cases hd
        · rw [e, e'] at hd; exact fun q => hd (by rw [q])
      omega
    · right; omega
  · left; omega
theorem int_off {u : Value} {B g t q : Nat} (h : (u.ownBlock = some g ∧ t = g + 1) ∨ (u.ownBlock = none ∧ g = B ∧ t = B)) (hd : Dj u (blk q)) (hB : B ≤ q) : t ≤ q ∨ q + 1 ≤ g := by
  rcases h with ⟨e, rfl⟩ | ⟨-, rfl, rfl⟩
  · have hn : g ≠ q := by
      rcases hd with hd | hd
      · rw [e] at hd; cases hd
      · rw [e] at hd; exact fun x => hd (by rw [x]; rfl)
    omega
  · left; omega
theorem own_off {E : TypeId} {w W : World} {B q : Nat} {v : Value} {xs : List Int} (h : Own E w B v xs) (hW : Within q (q + 1) w W) (hd : Dj v (blk q)) : Own E W B v xs :=
  ⟨ownsRow_within h.row hW (fun k hk => by
    have : k ≠ q := by
      rcases hd with hd | hd
      · rw [hk] at hd; cases hd
      · rw [hk] at hd; exact fun x => hd (by rw [x]; rfl)
    omega), h.wf, h.len⟩
/-- The category in block c while it grows; cell p holds the list of routes, row gi the identities, block q the result. -/
structure GP (w : World) (q c p gi n T : Nat) (lv : Value) (X : List RV) (wr : World) (rf rt vf vt : Value) (F G : List Int) (I : Nat → Int) : Prop where
  rs : RS w q 25 wr
  sep : Sep wr [blk q, blk c, blk p, blk gi, vf, vt]
  rc : wr.rowIs c 25 5 (rowC n rf rt (.slice (some ⟨gi, 0, none⟩) n n))
  rp : wr.rowIs p 39 1 (fun _ => lv)
  ri : wr.rowIs gi 2 n (fun x => .int .i64 (I x))
  of : Own 2 wr (c + 1) vf F
  ot : Own 2 wr (c + 1) vt G
  ol : ORt 45 (q + 1) T wr lv X
  lt : w.heap.size ≤ q ∧ q < T ∧ T ≤ p ∧ p < gi ∧ gi < c
section
variable {w wr w1 : World} {q c p gi n T : Nat} {lv rf rt vf vt : Value} {X : List RV} {F G : List Int} {I : Nat → Int}
theorem GP.facts (h : GP w q c p gi n T lv X wr rf rt vf vt F G I) : wr.cell? ⟨c, 0, none⟩ = some (.int .i64 n) ∧ wr.cell? ⟨c, 1, none⟩ = some rf ∧ wr.cell? ⟨c, 2, none⟩ = some rt ∧ wr.cell? ⟨c, 3, none⟩ = some (.slice (some ⟨gi, 0, none⟩) n n) ∧ wr.cell? ⟨p, 0, none⟩ = some lv ∧
    wr.frozen? ⟨c, 1, none⟩ = false ∧ wr.frozen? ⟨c, 2, none⟩ = false :=
  ⟨h.rc.cell (show 0 < 5 by omega), h.rc.cell (show 1 < 5 by omega), h.rc.cell (show 2 < 5 by omega), h.rc.cell (show 3 < 5 by omega), h.rp.cell (show 0 < 1 by omega), h.rc.frozen _, h.rc.frozen _⟩
theorem GP.call (h : GP w q c p gi n T lv X wr rf rt vf vt F G I) (hb : Below wr.heap.size wr w1) : GP w q c p gi n T lv X w1 rf rt vf vt F G I :=
  ⟨h.rs.call hb, h.sep.up hb.size, rowIs_bel h.rc hb, rowIs_bel h.rp hb, rowIs_bel h.ri hb, h.of.kept hb, h.ot.kept hb, h.ol.keptB hb, h.lt⟩
theorem GP.olg (h : GP w q c p gi n T lv X wr rf rt vf vt F G I) {v v' : Value} (hg : Grew wr w1 v v') (hv : ∀ k, v.ownBlock = some k → T ≤ k) : ORt 45 (q + 1) T w1 lv X :=
  h.ol.young hg (by have := h.rc.lt; have := h.lt; omega) hv
theorem GP.growF (h : GP w q c p gi n T lv X wr rf rt vf vt F G I) {vf' : Value} {F' : List Int} (ho : Own 2 w1 (c + 1) vf' F') (hg : Grew wr w1 vf vf') : GP w q c p gi n T lv X w1 rf rt vf' vt F' G I :=
  ⟨h.rs.grow hg (h.sep.dj 0 4 rfl rfl (by omega)) (fun k hk => by have := (h.of.lt k hk).1; have := h.lt; omega), h.sep.grew 4 rfl hg (fun k hk => ((Own.lt ho) k hk).2), rowIs_grew h.rc hg (h.sep.dj 1 4 rfl rfl (by omega)), rowIs_grew h.rp hg (h.sep.dj 2 4 rfl rfl (by omega)), rowIs_grew h.ri hg (h.sep.dj 3 4 rfl rfl (by omega)),
    ho, h.ot.keptG hg (h.sep.dj 5 4 rfl rfl (by omega)), h.olg hg (fun k hk => by have := (h.of.lt k hk).1; have := h.lt; omega), h.lt⟩
theorem GP.growT (h : GP w q c p gi n T lv X wr rf rt vf vt F G I) {vt' : Value} {G' : List Int} (ho : Own 2 w1 (c + 1) vt' G') (hg : Grew wr w1 vt vt') : GP w q c p gi n T lv X w1 rf rt vf vt' F G' I :=
  ⟨h.rs.grow hg (h.sep.dj 0 5 rfl rfl (by omega)) (fun k hk => by have := (h.ot.lt k hk).1; have := h.lt; omega), h.sep.grew 5 rfl hg (fun k hk => ((Own.lt ho) k hk).2), rowIs_grew h.rc hg (h.sep.dj 1 5 rfl rfl (by omega)), rowIs_grew h.rp hg (h.sep.dj 2 5 rfl rfl (by omega)), rowIs_grew h.ri hg (h.sep.dj 3 5 rfl rfl (by omega)),
    h.of.keptG hg (h.sep.dj 4 5 rfl rfl (by omega)), ho, h.olg hg (fun k hk => by have := (h.ot.lt k hk).1; have := h.lt; omega), h.lt⟩
theorem GP.setF (h : GP w q c p gi n T lv X wr rf rt vf vt F G I) : GP w q c p gi n T lv X (wr.setCell ⟨c, 1, none⟩ vf) vf rt vf vt F G I :=
  ⟨h.rs.grow (grew_set (k := c) (i := 1) vf) (h.sep.dj 0 1 rfl rfl (by omega)) (fun k hk => by have e : some c = some k := hk; injection e with e; have := h.lt; omega), h.sep.grew 1 rfl (grew_set (k := c) (i := 1) vf) (fun k hk => by have e : some c = some k := hk; injection e with e; subst e; have := h.rc.lt; simpa [World.setCell] using this),
    (h.rc.set 1 vf).congr fun k _ => by simp only [rowC]; by_cases e : k = 1 <;> simp [e], rowIs_grew h.rp (grew_set _) (h.sep.dj 2 1 rfl rfl (by omega)), rowIs_grew h.ri (grew_set _) (h.sep.dj 3 1 rfl rfl (by omega)),
    h.of.keptG (grew_set (k := c) (i := 1) vf) (h.sep.dj 4 1 rfl rfl (by omega)), h.ot.keptG (grew_set (k := c) (i := 1) vf) (h.sep.dj 5 1 rfl rfl (by omega)), h.olg (grew_set (k := c) (i := 1) vf) (fun k hk => by have e : some c = some k := hk; injection e with e; have := h.lt; omega), h.lt⟩
theorem GP.setT (h : GP w q c p gi n T lv X wr rf rt vf vt F G I) : GP w q c p gi n T lv X (wr.setCell ⟨c, 2, none⟩ vt) rf vt vf vt F G I :=
  ⟨h.rs.grow (grew_set (k := c) (i := 2) vt) (h.sep.dj 0 1 rfl rfl (by omega)) (fun k hk => by have e : some c = some k := hk; injection e with e; have := h.lt; omega), h.sep.grew 1 rfl (grew_set (k := c) (i := 2) vt) (fun k hk => by have e : some c = some k := hk; injection e with e; subst e; have := h.rc.lt; simpa [World.setCell] using this),
    (h.rc.set 2 vt).congr fun k _ => by simp only [rowC]; by_cases e : k = 2 <;> simp [e], rowIs_grew h.rp (grew_set _) (h.sep.dj 2 1 rfl rfl (by omega)), rowIs_grew h.ri (grew_set _) (h.sep.dj 3 1 rfl rfl (by omega)),
    h.of.keptG (grew_set (k := c) (i := 2) vt) (h.sep.dj 4 1 rfl rfl (by omega)), h.ot.keptG (grew_set (k := c) (i := 2) vt) (h.sep.dj 5 1 rfl rfl (by omega)), h.olg (grew_set (k := c) (i := 2) vt) (fun k hk => by have e : some c = some k := hk; injection e with e; have := h.lt; omega), h.lt⟩
theorem GP.setI (h : GP w q c p gi n T lv X wr rf rt vf vt F G I) (x : Nat) (z : Int) : GP w q c p gi n T lv X (wr.setCell ⟨gi, x, none⟩ (.int .i64 z)) rf rt vf vt F G (fun y => if y = x then z else I y) :=
  ⟨h.rs.grow (grew_set (k := gi) (i := x) (.int .i64 z)) (h.sep.dj 0 3 rfl rfl (by omega)) (fun k hk => by have e : some gi = some k := hk; injection e with e; have := h.lt; omega), h.sep.grew 3 rfl (grew_set (k := gi) (i := x) (.int .i64 z)) (fun k hk => by have e : some gi = some k := hk; injection e with e; subst e; have := h.ri.lt; simpa [World.setCell] using this),
    rowIs_grew h.rc (grew_set _) (h.sep.dj 1 3 rfl rfl (by omega)), rowIs_grew h.rp (grew_set _) (h.sep.dj 2 3 rfl rfl (by omega)), (h.ri.set x _).congr fun k _ => by by_cases e : k = x <;> simp [e],
    h.of.keptG (grew_set (k := gi) (i := x) (.int .i64 z)) (h.sep.dj 4 3 rfl rfl (by omega)), h.ot.keptG (grew_set (k := gi) (i := x) (.int .i64 z)) (h.sep.dj 5 3 rfl rfl (by omega)), h.olg (grew_set (k := gi) (i := x) (.int .i64 z)) (fun k hk => by have e : some gi = some k := hk; injection e with e; have := h.lt; omega), h.lt⟩
end
theorem GP.start {w W : World} {q n : Nat} {lv : Value} {X : List RV} (hR : RS w q 25 W) (hq : q + 1 ≤ W.heap.size) (hO : ORt 45 (q + 1) W.heap.size W lv X) :
    GP w q (W.heap.size + 1 + 1) W.heap.size (W.heap.size + 1) n W.heap.size lv X (((W.alloc (.cells #[lv] 39)).alloc (.cells (madeCells #[.int .i64 0] n) 2)).alloc (.cells #[.int .i64 n, .slice none 0 0, .slice none 0 0, .slice (some ⟨W.heap.size + 1, 0, none⟩) n n, .slice none 0 0] 25)) (.slice none 0 0) (.slice none 0 0) (.slice none 0 0) (.slice none 0 0) [] [] (fun _ => 0) := by
  have hlt := hR.lt
  have hq2 := hR.2.1
  have b1 := bel_box W (.cells #[lv] 39)
  have b2 := bel_box (W.alloc (.cells #[lv] 39)) (.cells (madeCells #[.int .i64 0] n) 2)
  have b3 := bel_box ((W.alloc (.cells #[lv] 39)).alloc (.cells (madeCells #[.int .i64 0] n) 2)) (.cells #[.int .i64 n, .slice none 0 0, .slice none 0 0, .slice (some ⟨W.heap.size + 1, 0, none⟩) n n, .slice none 0 0] 25)
  refine ⟨((hR.alloc _).alloc _).alloc _, ⟨?_, ?_⟩, ?_, ?_, ?_, Own.nil _ _ _, Own.nil _ _ _, ((hO.keptB b1).keptB b2).keptB b3, by omega⟩
  · intro v hv k hk
    simp only [List.mem_cons, List.not_mem_nil, or_false] at hv
    rcases hv with rfl | rfl | rfl | rfl | rfl | rfl <;> simp [blk, Value.ownBlock] at hk <;> simp <;> omega
  · simp [Dj, blk, Value.ownBlock]
    omega
  · have h := World.rowIs_alloc ((W.alloc (.cells #[lv] 39)).alloc (.cells (madeCells #[.int .i64 0] n) 2)) #[.int .i64 n, .slice none 0 0, .slice none 0 0, .slice (some ⟨W.heap.size + 1, 0, none⟩) n n, .slice none 0 0] 25 (rowC n (.slice none 0 0) (.slice none 0 0) (.slice (some ⟨W.heap.size + 1, 0, none⟩) n n)) (fun i hi => by
      have : i = 0 ∨ i = 1 ∨ i = 2 ∨ i = 3 ∨ i = 4 := by simp at hi; omega
      rcases this with rfl | rfl | rfl | rfl | rfl <;> rfl)
    simpa using h
  · have h : (W.alloc (.cells #[lv] 39)).rowIs W.heap.size 39 1 (fun _ => lv) := by
      refine World.rowIs_alloc W #[lv] 39 (fun _ => lv) (fun i hi => ?_)
      have h0 : i = 0 := by simpa using hi
      subst h0
      rfl
    exact rowIs_bel (rowIs_bel h b2) b3
  · have h := World.rowIs_made (W.alloc (.cells #[lv] 39)) (.int .i64 0) n 2
    have h2 := rowIs_bel h b3
    simpa using h2
theorem idx_hit (P : Nat → Bool) (N : Nat) : (Lib.idxBy (fun _ y => P y) (List.range N) default = -1 ∧ ∀ j, j < N → P j = false) ∨ (∃ k : Nat, Lib.idxBy (fun _ y => P y) (List.range N) default = k ∧ k < N ∧ P k = true) := by
  have e : (List.range N).take N = List.range N := by rw [List.take_of_length_le (by simp)]
  have hx : ∀ j, j < N → (List.range N)[j]! = j := fun j hj => by rw [getElem!_pos (List.range N) j (by simpa using hj), List.getElem_range]
  have hN : (∀ j, j < N → P j = false) ∨ ∃ k, k < N ∧ P k = true ∧ ∀ j, j < k → P j = false := by
    clear e hx
    induction N with
    | zero => exact .inl (fun j hj => by omega)
    | succ m ih =>
      rcases ih with h | ⟨k, h1, h2, h3⟩
      · cases hp : P m with
        | false => exact .inl (fun j hj => by
            by_cases e : j = m
            · rw [e]; exact hp
            · exact h j (by omega))
        | true => exact .inr ⟨m, by omega, hp, h⟩
      · exact .inr ⟨k, by omega, h2, h3⟩
  rcases hN with h | ⟨k, h1, h2, h3⟩
  · left
    refine ⟨?_, h⟩
    have := Lib.idxBy_miss (fun _ y => P y) (List.range N) N default (fun j hj => by show P _ = false; rw [hx j hj]; exact h j hj)
    rwa [e] at this
  · right
    refine ⟨k, ?_, h1, h2⟩
    have := Lib.idxBy_hit (fun _ y => P y) (List.range N) N k default h1 (by simp) (by show P _ = true; rw [hx k h1]; exact h2) (fun j hj => by show P _ = false; rw [hx j (by omega)]; exact h3 j hj)
    rwa [e] at this
def fS (X : List RV) (k : Nat) : List Int := ((X.map (·.1)).map (·.a)).take k
def tS (X : List RV) (k : Nat) : List Int := ((X.map (·.1)).map (·.b)).take k
theorem rt_rx (X : List RV) (k : Nat) : rt (X.map (·.1)) k = rx X k := by
  unfold rt rx
  simp only [List.getD_eq_getElem?_getD, List.getElem?_map]
  cases X[k]? <;> rfl
theorem int_off' {u : Value} {B g t q : Nat} (h : (u.ownBlock = some g ∧ t = g + 1) ∨ (u.ownBlock = none ∧ g = B ∧ t = B)) (hd : Dj u (blk q)) (hB : q < B) : t ≤ q ∨ q + 1 ≤ g := by
  rcases h with ⟨e, rfl⟩ | ⟨-, rfl, rfl⟩
  · have hn : g ≠ q := by
      rcases hd with hd | hd
      · rw [e] at hd; cases hd
      · rw [e] at hd; exact fun x => hd (by rw [x]; rfl)
    omega
  · right; omega
theorem fS_all {X : List RV} : fS X X.length = (X.map (·.1)).map (·.a) := by unfold fS; exact List.take_of_length_le (by simp)
theorem tS_all {X : List RV} : tS X X.length = (X.map (·.1)).map (·.b) := by unfold tS; exact List.take_of_length_le (by simp)
theorem gi_mapR (S : List Rt) (f : Rt → Int) {k : Nat} (h : k < S.length) : gi (S.map f) k = f (rt S k) := by
  rw [gi_lt (by simpa using h), rt_lt h]; simp
theorem cmL_size {S : List Rt} (h : S.length ≤ 72) : (cmL S).length ≤ 1048576 ∧ pS (gr (cmL S)) (cmL S).length ≤ 1099511627776 := by
  have h1 := pS_le_mul (gr (cmL S)) 72 (cmL S).length (fun i hi => by rw [cmL_len] at hi; rw [gr_cmL hi, tab_length]; exact h)
  rw [cmL_len] at h1 ⊢
  omega
theorem tab_congr {f g : Nat → Int} {n : Nat} (h : ∀ i, i < n → f i = g i) : tab f n = tab g n := by
  unfold tab
  apply List.map_congr_left
  intro i hi
  exact h i (List.mem_range.1 hi)
theorem fS_succ {X : List RV} {k : Nat} (h : k < X.length) : fS X (k + 1) = fS X k ++ [(rx X k).a] := by
  unfold fS
  rw [List.take_succ_eq_append_getElem (by simpa using h)]
  simp [rx_lt h]
theorem tS_succ {X : List RV} {k : Nat} (h : k < X.length) : tS X (k + 1) = tS X k ++ [(rx X k).b] := by
  unfold tS
  rw [List.take_succ_eq_append_getElem (by simpa using h)]
  simp [rx_lt h]
theorem fS_len {X : List RV} {k : Nat} (h : k ≤ X.length) : (fS X k).length = k := by unfold fS; rw [List.length_take]; simp; omega
theorem tS_len {X : List RV} {k : Nat} (h : k ≤ X.length) : (tS X k).length = k := by unfold tS; rw [List.length_take]; simp; omega
theorem idF_yes {S : List Rt} {k x : Nat} (h : (rt S k).path.length = 0) (hx : (rt S k).a = (x : Int)) : idF S (k + 1) = fun y => if y = x then (k : Int) else idF S k y := by
  funext y
  rw [idF]
  by_cases e : y = x
  · subst e; rw [if_pos ⟨h, hx⟩, if_pos rfl]
  · rw [if_neg e, if_neg (fun q => e (by have := q.2; omega))]
theorem idF_no {S : List Rt} {k : Nat} (h : ¬ (rt S k).path.length = 0) : idF S (k + 1) = idF S k := by
  funext y
  rw [idF, if_neg (fun q => h q.1)]
theorem pathR_1 {n : Int} {fr to : List Int} (h : fr.length ≠ to.length) : pathR n fr to = (nilC, 1) := by unfold pathR; rw [if_pos h]
theorem pathR_2 {n : Int} {fr to : List Int} (h : fr.length = to.length) (h2 : ¬ (inR n 0 8 = true ∧ allIn n fr = true ∧ allIn n to = true)) : pathR n fr to = (nilC, 2) := by unfold pathR; rw [if_neg (by simpa using h), if_pos h2]
theorem pathR_5 {n : Nat} {fr to : List Int} (h : fr.length = to.length) (h2 : inR n 0 8 = true ∧ allIn n fr = true ∧ allIn n to = true) (h3 : cycB n (lps fr to fr.length (n + 1))) : pathR n fr to = (nilC, 5) := by
  unfold pathR; rw [if_neg (by simpa using h), if_neg (by simpa using h2), Int.toNat_natCast, if_pos h3]
theorem pathR_3 {n : Nat} {fr to : List Int} (h : fr.length = to.length) (h2 : inR n 0 8 = true ∧ allIn n fr = true ∧ allIn n to = true) (h3 : ¬ cycB n (lps fr to fr.length (n + 1))) (h4 : ¬ (qall n fr to).length ≤ 40) : pathR n fr to = (nilC, 3) := by
  unfold pathR; rw [if_neg (by simpa using h), if_neg (by simpa using h2), Int.toNat_natCast, if_neg h3, if_pos h4]
theorem pathR_0 {n : Nat} {fr to : List Int} (h : fr.length = to.length) (h2 : inR n 0 8 = true ∧ allIn n fr = true ∧ allIn n to = true) (h3 : ¬ cycB n (lps fr to fr.length (n + 1))) (h4 : (qall n fr to).length ≤ 40) : pathR n fr to = (pathC n (sq n fr to), 0) := by
  unfold pathR; rw [if_neg (by simpa using h), if_neg (by simpa using h2), Int.toNat_natCast, if_neg h3, if_neg (by simpa using h4)]
theorem inR_0' {n : Int} (h : inR n 0 8 = true) : 0 ≤ n := by simp [inR] at h; exact h.1
theorem inR_8' {n : Int} (h : inR n 0 8 = true) : n ≤ 8 := by simp [inR] at h; exact h.2
end Go.Proofs.Ytllbjckbinolmaa
