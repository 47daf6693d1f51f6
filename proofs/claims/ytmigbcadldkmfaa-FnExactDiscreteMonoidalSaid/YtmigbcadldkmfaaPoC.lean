/-
  Chapter 3: PreorderCategory of the program.
-/
import Derived.Test.YtmigbcadldkmfaaIdx
import Derived.Test.YtmigbcadldkmfaaPre
namespace Go.Proofs.Ytmigbcadldkmfaa
open Go.RowKit

theorem infoPair : (Try.prog.info? 51).map (fun i => (i.zero, i.size, i.bytes)) = some (some (.agg #[.int .i64 0, .int .i64 0]), 2, 16) := by kernel_rfl
theorem size_set (w : World) (p : Addr) (v : Value) : (w.setCell p v).heap.size = w.heap.size := by simp [World.setCell]
/-- The cells of the category in the making. -/
def rowC (n : Int) (rf rt ri : Value) (i : Nat) : Value := if i = 0 then .int .i64 n else if i = 1 then rf else if i = 2 then rt else if i = 3 then ri else .slice none 0 0
/-- The category in block c and the pairs in cell p while they grow; the cells hold rf .. rp, owned are vf .. vp; block q holds the result. -/
structure PS (w : World) (q c p : Nat) (n : Int) (wr : World) (rf rt ri rp vf vt vi vp : Value) (F T I : List Int) (P : List (Int × Int)) : Prop where
  rs : RS w q 25 wr
  sep : Sep wr [blk q, blk c, blk p, vf, vt, vi, vp]
  rc : wr.rowIs c 25 5 (rowC n rf rt ri)
  rp : wr.rowIs p 49 1 (fun _ => rp)
  of : Own 2 wr (q + 1) vf F
  ot : Own 2 wr (q + 1) vt T
  oi : Own 2 wr (q + 1) vi I
  op : OwnP 51 wr (q + 1) vp P
  lt : w.heap.size ≤ q ∧ q < c ∧ q < p
theorem RS.grow {w w' w'' : World} {b : Nat} {T : TypeId} {v v' : Value} (h : RS w b T w') (hg : Grew w' w'' v v') (hd : Dj (blk b) v) (hv : ∀ k, v.ownBlock = some k → w.heap.size ≤ k) : RS w b T w'' := by
  obtain ⟨h1, h2, f, hf⟩ := h
  exact ⟨hg.below h1 h1.size hv, h2, f, rowIs_grew hf hg hd⟩
section
variable {w wr w1 : World} {q c p : Nat} {n : Int} {rf rt ri rp vf vt vi vp : Value} {F T I : List Int} {P : List (Int × Int)}
theorem PS.facts (h : PS w q c p n wr rf rt ri rp vf vt vi vp F T I P) : wr.cell? ⟨c, 0, none⟩ = some (.int .i64 n) ∧ wr.cell? ⟨c, 1, none⟩ = some rf ∧ wr.cell? ⟨c, 2, none⟩ = some rt ∧ wr.cell? ⟨c, 3, none⟩ = some ri ∧ wr.cell? ⟨c, 4, none⟩ = some (.slice none 0 0) ∧ wr.cell? ⟨p, 0, none⟩ = some rp ∧
    wr.frozen? ⟨c, 1, none⟩ = false ∧ wr.frozen? ⟨c, 2, none⟩ = false ∧ wr.frozen? ⟨c, 3, none⟩ = false ∧ wr.frozen? ⟨p, 0, none⟩ = false :=
  ⟨h.rc.cell (show 0 < 5 by omega), h.rc.cell (show 1 < 5 by omega), h.rc.cell (show 2 < 5 by omega), h.rc.cell (show 3 < 5 by omega), h.rc.cell (show 4 < 5 by omega), h.rp.cell (show 0 < 1 by omega), h.rc.frozen _, h.rc.frozen _, h.rc.frozen _, h.rp.frozen _⟩
theorem PS.drawn (h : PS w q c p n wr rf rt ri rp vf vt vi vp F T I P) {w1 : World} (hb : Below wr.heap.size wr w1) : PS w q c p n w1 rf rt ri rp vf vt vi vp F T I P :=
  ⟨h.rs.call hb, h.sep.up hb.size, rowIs_bel h.rc hb, rowIs_bel h.rp hb, h.of.kept hb, h.ot.kept hb, h.oi.kept hb, h.op.kept (row := none) ⟨hb.os, hb.tape, hb.output, hb.size, fun k hk _ => hb.block k hk⟩ (by cases h.op.shape with | intro a h2 => cases h2 with | intro k h3 => exact (by cases vp.ownBlock with | none => exact .inl rfl | some k => exact .inr (fun e => by cases e))), h.lt⟩
theorem PS.growF (h : PS w q c p n wr rf rt ri rp vf vt vi vp F T I P) {vf' : Value} {F' : List Int} (ho : Own 2 w1 (q + 1) vf' F') (hg : Grew wr w1 vf vf') : PS w q c p n w1 rf rt ri rp vf' vt vi vp F' T I P :=
  ⟨h.rs.grow hg (h.sep.dj 0 3 rfl rfl (by omega)) (fun k hk => by have := (h.of.lt k hk).1; have := h.lt; omega), h.sep.grew 3 rfl hg (fun k hk => ((Own.lt ho) k hk).2), rowIs_grew h.rc hg (h.sep.dj 1 3 rfl rfl (by omega)), rowIs_grew h.rp hg (h.sep.dj 2 3 rfl rfl (by omega)),
    ho, h.ot.keptG hg (h.sep.dj 4 3 rfl rfl (by omega)), h.oi.keptG hg (h.sep.dj 5 3 rfl rfl (by omega)), h.op.keptG hg (h.sep.dj 6 3 rfl rfl (by omega)), h.lt⟩
theorem PS.growT (h : PS w q c p n wr rf rt ri rp vf vt vi vp F T I P) {vt' : Value} {T' : List Int} (ho : Own 2 w1 (q + 1) vt' T') (hg : Grew wr w1 vt vt') : PS w q c p n w1 rf rt ri rp vf vt' vi vp F T' I P :=
  ⟨h.rs.grow hg (h.sep.dj 0 4 rfl rfl (by omega)) (fun k hk => by have := (h.ot.lt k hk).1; have := h.lt; omega), h.sep.grew 4 rfl hg (fun k hk => ((Own.lt ho) k hk).2), rowIs_grew h.rc hg (h.sep.dj 1 4 rfl rfl (by omega)), rowIs_grew h.rp hg (h.sep.dj 2 4 rfl rfl (by omega)),
    h.of.keptG hg (h.sep.dj 3 4 rfl rfl (by omega)), ho, h.oi.keptG hg (h.sep.dj 5 4 rfl rfl (by omega)), h.op.keptG hg (h.sep.dj 6 4 rfl rfl (by omega)), h.lt⟩
theorem PS.growI (h : PS w q c p n wr rf rt ri rp vf vt vi vp F T I P) {vi' : Value} {I' : List Int} (ho : Own 2 w1 (q + 1) vi' I') (hg : Grew wr w1 vi vi') : PS w q c p n w1 rf rt ri rp vf vt vi' vp F T I' P :=
  ⟨h.rs.grow hg (h.sep.dj 0 5 rfl rfl (by omega)) (fun k hk => by have := (h.oi.lt k hk).1; have := h.lt; omega), h.sep.grew 5 rfl hg (fun k hk => ((Own.lt ho) k hk).2), rowIs_grew h.rc hg (h.sep.dj 1 5 rfl rfl (by omega)), rowIs_grew h.rp hg (h.sep.dj 2 5 rfl rfl (by omega)),
    h.of.keptG hg (h.sep.dj 3 5 rfl rfl (by omega)), h.ot.keptG hg (h.sep.dj 4 5 rfl rfl (by omega)), ho, h.op.keptG hg (h.sep.dj 6 5 rfl rfl (by omega)), h.lt⟩
theorem PS.growP (h : PS w q c p n wr rf rt ri rp vf vt vi vp F T I P) {vp' : Value} {P' : List (Int × Int)} (ho : OwnP 51 w1 (q + 1) vp' P') (hg : Grew wr w1 vp vp') : PS w q c p n w1 rf rt ri rp vf vt vi vp' F T I P' :=
  ⟨h.rs.grow hg (h.sep.dj 0 6 rfl rfl (by omega)) (fun k hk => by have := (h.op.lt k hk).1; have := h.lt; omega), h.sep.grew 6 rfl hg (fun k hk => ((OwnP.lt ho) k hk).2), rowIs_grew h.rc hg (h.sep.dj 1 6 rfl rfl (by omega)), rowIs_grew h.rp hg (h.sep.dj 2 6 rfl rfl (by omega)),
    h.of.keptG hg (h.sep.dj 3 6 rfl rfl (by omega)), h.ot.keptG hg (h.sep.dj 4 6 rfl rfl (by omega)), h.oi.keptG hg (h.sep.dj 5 6 rfl rfl (by omega)), ho, h.lt⟩
theorem PS.setF (h : PS w q c p n wr rf rt ri rp vf vt vi vp F T I P) : PS w q c p n (wr.setCell ⟨c, 1, none⟩ vf) vf rt ri rp vf vt vi vp F T I P :=
  ⟨h.rs.grow (grew_set (k := c) (i := 1) vf) (h.sep.dj 0 1 rfl rfl (by omega)) (fun k hk => by have e : some c = some k := hk; injection e with e; have := h.lt; omega), h.sep.grew 1 rfl (grew_set (k := c) (i := 1) vf) (fun k hk => by have e : some c = some k := hk; injection e with e; subst e; have := h.rc.lt; simpa [World.setCell] using this),
    (h.rc.set 1 vf).congr fun k _ => by simp only [rowC]; by_cases e : k = 1 <;> simp [e], rowIs_grew h.rp (grew_set _) (h.sep.dj 2 1 rfl rfl (by omega)),
    h.of.keptG (grew_set (k := c) (i := 1) vf) (h.sep.dj 3 1 rfl rfl (by omega)), h.ot.keptG (grew_set (k := c) (i := 1) vf) (h.sep.dj 4 1 rfl rfl (by omega)), h.oi.keptG (grew_set (k := c) (i := 1) vf) (h.sep.dj 5 1 rfl rfl (by omega)), h.op.keptG (grew_set (k := c) (i := 1) vf) (h.sep.dj 6 1 rfl rfl (by omega)), h.lt⟩
theorem PS.setT (h : PS w q c p n wr rf rt ri rp vf vt vi vp F T I P) : PS w q c p n (wr.setCell ⟨c, 2, none⟩ vt) rf vt ri rp vf vt vi vp F T I P :=
  ⟨h.rs.grow (grew_set (k := c) (i := 2) vt) (h.sep.dj 0 1 rfl rfl (by omega)) (fun k hk => by have e : some c = some k := hk; injection e with e; have := h.lt; omega), h.sep.grew 1 rfl (grew_set (k := c) (i := 2) vt) (fun k hk => by have e : some c = some k := hk; injection e with e; subst e; have := h.rc.lt; simpa [World.setCell] using this),
    (h.rc.set 2 vt).congr fun k _ => by simp only [rowC]; by_cases e : k = 2 <;> simp [e], rowIs_grew h.rp (grew_set _) (h.sep.dj 2 1 rfl rfl (by omega)),
    h.of.keptG (grew_set (k := c) (i := 2) vt) (h.sep.dj 3 1 rfl rfl (by omega)), h.ot.keptG (grew_set (k := c) (i := 2) vt) (h.sep.dj 4 1 rfl rfl (by omega)), h.oi.keptG (grew_set (k := c) (i := 2) vt) (h.sep.dj 5 1 rfl rfl (by omega)), h.op.keptG (grew_set (k := c) (i := 2) vt) (h.sep.dj 6 1 rfl rfl (by omega)), h.lt⟩
theorem PS.setI (h : PS w q c p n wr rf rt ri rp vf vt vi vp F T I P) : PS w q c p n (wr.setCell ⟨c, 3, none⟩ vi) rf rt vi rp vf vt vi vp F T I P :=
  ⟨h.rs.grow (grew_set (k := c) (i := 3) vi) (h.sep.dj 0 1 rfl rfl (by omega)) (fun k hk => by have e : some c = some k := hk; injection e with e; have := h.lt; omega), h.sep.grew 1 rfl (grew_set (k := c) (i := 3) vi) (fun k hk => by have e : some c = some k := hk; injection e with e; subst e; have := h.rc.lt; simpa [World.setCell] using this),
    (h.rc.set 3 vi).congr fun k _ => by simp only [rowC]; by_cases e : k = 3 <;> simp [e], rowIs_grew h.rp (grew_set _) (h.sep.dj 2 1 rfl rfl (by omega)),
    h.of.keptG (grew_set (k := c) (i := 3) vi) (h.sep.dj 3 1 rfl rfl (by omega)), h.ot.keptG (grew_set (k := c) (i := 3) vi) (h.sep.dj 4 1 rfl rfl (by omega)), h.oi.keptG (grew_set (k := c) (i := 3) vi) (h.sep.dj 5 1 rfl rfl (by omega)), h.op.keptG (grew_set (k := c) (i := 3) vi) (h.sep.dj 6 1 rfl rfl (by omega)), h.lt⟩
theorem PS.setP (h : PS w q c p n wr rf rt ri rp vf vt vi vp F T I P) : PS w q c p n (wr.setCell ⟨p, 0, none⟩ vp) rf rt ri vp vf vt vi vp F T I P :=
  ⟨h.rs.grow (grew_set (k := p) (i := 0) vp) (h.sep.dj 0 2 rfl rfl (by omega)) (fun k hk => by have e : some p = some k := hk; injection e with e; have := h.lt; omega), h.sep.grew 2 rfl (grew_set (k := p) (i := 0) vp) (fun k hk => by have e : some p = some k := hk; injection e with e; subst e; have := h.rp.lt; simpa [World.setCell] using this),
    rowIs_grew h.rc (grew_set _) (h.sep.dj 1 2 rfl rfl (by omega)), (h.rp.set 0 vp).congr fun k hk => (if_pos (by omega)),
    h.of.keptG (grew_set (k := p) (i := 0) vp) (h.sep.dj 3 2 rfl rfl (by omega)), h.ot.keptG (grew_set (k := p) (i := 0) vp) (h.sep.dj 4 2 rfl rfl (by omega)), h.oi.keptG (grew_set (k := p) (i := 0) vp) (h.sep.dj 5 2 rfl rfl (by omega)), h.op.keptG (grew_set (k := p) (i := 0) vp) (h.sep.dj 6 2 rfl rfl (by omega)), h.lt⟩
end

theorem idxP_bd (P : List (Int × Int)) (x : Int × Int) : -1 ≤ idxP P x ∧ idxP P x ≤ P.length := by
  unfold idxP
  by_cases h : x ∈ P
  · rw [if_pos h]
    have := List.idxOf_le_length (a := x) (l := P)
    omega
  · rw [if_neg h]; omega
theorem own_int {E : TypeId} {w : World} {B : Nat} {v : Value} {xs : List Int} (h : Own E w B v xs) (hB : B ≤ w.heap.size) :
    ∃ g t, OwnT E g t w v xs ∧ B ≤ g ∧ g ≤ t ∧ t ≤ w.heap.size ∧ ((v.ownBlock = some g ∧ t = g + 1) ∨ (v.ownBlock = none ∧ g = B ∧ t = B)) := by
  have h0 := h
  obtain ⟨⟨hl, hr⟩, hwf, hlen⟩ := h
  rcases hr with ⟨rfl, hn⟩ | ⟨g, cap, cur, rfl, hg, rest⟩
  · refine ⟨B, B, ⟨⟨⟨hl, .inl ⟨rfl, hn⟩⟩, hwf, hlen⟩, fun k hk => by simp [Value.ownBlock] at hk⟩, by omega, by omega, hB, .inr ⟨rfl, rfl, rfl⟩⟩
  · refine ⟨g, g + 1, ⟨⟨⟨hl, .inr ⟨g, cap, cur, rfl, Nat.le_refl _, rest⟩⟩, hwf, hlen⟩, fun k hk => by simp only [Value.ownBlock, Option.some.injEq] at hk; omega⟩, hg, by omega, (h0.lt g rfl).2, .inl ⟨rfl, rfl⟩⟩
theorem int_apart {u v : Value} {B g t g' t' : Nat} (h : (u.ownBlock = some g ∧ t = g + 1) ∨ (u.ownBlock = none ∧ g = B ∧ t = B)) (h' : (v.ownBlock = some g' ∧ t' = g' + 1) ∨ (v.ownBlock = none ∧ g' = B ∧ t' = B)) (hd : Dj u v) (hg : B ≤ g) (hg' : B ≤ g') : t ≤ g' ∨ t' ≤ g := by
  rcases h with ⟨e, rfl⟩ | ⟨-, rfl, rfl⟩
  · rcases h' with ⟨e', rfl⟩ | ⟨-, rfl, rfl⟩
    · have hn : g ≠ g' := by
        rcases hd with hd | hd
        · rw [e] at hd; cases hd
        · rw [e, e'] at hd; exact fun q => hd (by rw [q])
      omega
    · right; omega
  · left; omega
theorem int_off {u : Value} {B g t q : Nat} (h : (u.ownBlock = some g ∧ t = g + 1) ∨ (u.ownBlock = none ∧ g = B ∧ t = B)) (hd : Dj u (blk q)) (hB : B ≤ q) : t ≤ q ∨ q + 1 ≤ g := by
  rcases h with ⟨e, rfl⟩ | ⟨-, rfl, rfl⟩
  · have hn : g ≠ q := by
      rcases hd with hd | hd
      · rw [e] at hd; cases hd
      · rw [e] at hd; exact fun x => hd (by rw [x]; rfl)
    omega
  · left; omega
theorem own_off {E : TypeId} {w W : World} {B q : Nat} {v : Value} {xs : List Int} (h : Own E w B v xs) (hW : Within q (q + 1) w W) (hd : Dj v (blk q)) : Own E W B v xs :=
  ⟨ownsRow_within h.row hW (fun k hk => by
    have : k ≠ q := by
      rcases hd with hd | hd
      · rw [hk] at hd; cases hd
      · rw [hk] at hd; exact fun x => hd (by rw [x]; rfl)
    omega), h.wf, h.len⟩
theorem ownP_off {E : TypeId} {w W : World} {B q : Nat} {v : Value} {P : List (Int × Int)} (h : OwnP E w B v P) (hW : Within q (q + 1) w W) (hd : Dj v (blk q)) : OwnP E W B v P :=
  ⟨h.1, by
    rcases h.2 with hn | ⟨g, cap, cur, hv, hBg, hg, rest⟩
    · exact .inl hn
    · refine .inr ⟨g, cap, cur, hv, hBg, ?_, rest⟩
      have : g ≠ q := by
        rcases hd with hd | hd
        · rw [hv] at hd; cases hd
        · rw [hv] at hd; exact fun x => hd (by rw [x]; rfl)
      rw [hW.block g (by omega) (Array.getElem?_eq_some_iff.1 hg).1]
      exact hg⟩
theorem preR_1 {t : List (List Int)} (h : ¬ dB (Pre t) = true) : preR t = (nilC, 1) := by unfold preR; rw [if_neg h]
theorem preR_2 {t : List (List Int)} (h : dB (Pre t) = true) (h2 : ¬ t.length ≤ 8) : preR t = (nilC, 2) := by unfold preR; rw [if_pos h, if_neg h2]
theorem preR_3 {t : List (List Int)} (h : dB (Pre t) = true) (h2 : t.length ≤ 8) (h3 : ¬ (prs t).length ≤ 40) : preR t = (nilC, 3) := by unfold preR; rw [if_pos h, if_pos h2, if_neg h3]
theorem preR_0 {t : List (List Int)} (h : dB (Pre t) = true) (h2 : t.length ≤ 8) (h3 : (prs t).length ≤ 40) : preR t = (posC t, 0) := by unfold preR; rw [if_pos h, if_pos h2, if_pos h3]
theorem posM_size {t : List (List Int)} (h : (prs t).length ≤ 72) : (posM t).length ≤ 1048576 ∧ pS (gr (posM t)) (posM t).length ≤ 1099511627776 := by
  have h1 := pS_le_mul (gr (posM t)) 72 (posM t).length (fun i hi => by rw [posM_len] at hi; rw [gr_posM hi, tab_length]; exact h)
  rw [posM_len] at h1 ⊢
  omega
theorem tab_congr {f g : Nat → Int} {n : Nat} (h : ∀ i, i < n → f i = g i) : tab f n = tab g n := by
  unfold tab
  apply List.map_congr_left
  intro i hi
  exact h i (List.mem_range.1 hi)
theorem PS.start {w W0 : World} {q c : Nat} (hR : RS w q 25 W0) (hc : W0.heap.size = c) (n : Int) :
    PS w q c (c + 1 + 1) n (((W0.alloc (.cells #[.int .i64 n, .slice none 0 0, .slice none 0 0, .slice none 0 0, .slice none 0 0] 25)).alloc (.cells #[] 51)).alloc (.cells #[.slice (some ⟨c + 1, 0, none⟩) 0 0] 49))
      (.slice none 0 0) (.slice none 0 0) (.slice none 0 0) (.slice (some ⟨c + 1, 0, none⟩) 0 0) (.slice none 0 0) (.slice none 0 0) (.slice none 0 0) (.slice (some ⟨c + 1, 0, none⟩) 0 0) [] [] [] [] := by
  have hq := hR.lt
  have hq2 := hR.2.1
  subst hc
  refine ⟨RS.alloc (RS.alloc (RS.alloc hR _) _) _, ⟨?_, ?_⟩, ?_, ?_, Own.nil _ _ _, Own.nil _ _ _, Own.nil _ _ _, ?_, by omega⟩
  · intro v hv k hk
    simp only [List.mem_cons, List.not_mem_nil, or_false] at hv
    rcases hv with rfl | rfl | rfl | rfl | rfl | rfl | rfl <;> simp [blk, Value.ownBlock] at hk <;> simp <;> omega
  · simp [Dj, blk, Value.ownBlock]
    omega
  · have h1 : (W0.alloc (.cells #[.int .i64 n, .slice none 0 0, .slice none 0 0, .slice none 0 0, .slice none 0 0] 25)).rowIs W0.heap.size 25 5 (rowC n (.slice none 0 0) (.slice none 0 0) (.slice none 0 0)) :=
      World.rowIs_alloc W0 #[.int .i64 n, .slice none 0 0, .slice none 0 0, .slice none 0 0, .slice none 0 0] 25 _ (fun i hi => by
        have : i = 0 ∨ i = 1 ∨ i = 2 ∨ i = 3 ∨ i = 4 := by simp at hi; omega
        rcases this with rfl | rfl | rfl | rfl | rfl <;> rfl)
    exact rowIs_bel (rowIs_bel h1 (bel_box _ _)) (bel_box _ _)
  · have h := World.rowIs_alloc ((W0.alloc (.cells #[.int .i64 n, .slice none 0 0, .slice none 0 0, .slice none 0 0, .slice none 0 0] 25)).alloc (.cells #[] 51)) #[.slice (some ⟨W0.heap.size + 1, 0, none⟩) 0 0] 49 (fun _ => .slice (some ⟨W0.heap.size + 1, 0, none⟩) 0 0) (fun i hi => by
      obtain rfl : i = 0 := by simp at hi; omega
      rfl)
    simp only [World.size_alloc] at h
    exact h
  · have h := OwnP.empty (E := 51) (w := W0.alloc (.cells #[.int .i64 n, .slice none 0 0, .slice none 0 0, .slice none 0 0, .slice none 0 0] 25)) (B := q + 1) (n := W0.heap.size + 1) (by simp; omega) (by simp)
    exact World.ownsRow.alloc h _
set_option maxHeartbeats 8000000 in
theorem i_PreorderCategory {w : World} {v : Value} {t : List (List Int)} (h : ISS w v t) : Calls Try.prog 14 #[v] w (MkC w (preR t)) := by
  have HP := Lib.hid (fun W (hW : Below w.heap.size w W) => c_isPreorder (h.kept hW))
  have hlen := h.len
  obtain ⟨ao, b, o, c, R, rfl, ha, hc, hr⟩ := h.ex
  clear h
  by_cases hM : dB (Pre t) = true
  · by_cases hl : t.length ≤ 8
    · have hlb : decide ((8 : Int) < (t.length : Int)) = false := decide_eq_false (by omega)
      have HPre := Lib.hid (dB_s hM)
      have HMb := Lib.hid hM
      obtain ⟨bR, oR, kR, hv⟩ := rows_view hr (fun i hi => ((dB_s hM).sq i hi).1)
      have HV := Lib.hid hv
      have hc2 : ∀ i, i < t.length → w.cell? ⟨b, o + i, none⟩ = some (.slice (some ⟨bR i, oR i, none⟩) t.length (kR i)) := fun i hi => by rw [hc i hi, (HV.out i hi).1]
      have HC := Lib.hid hc2
      clear hv hc hc2 hr
      go_enter Try.func14, Try.ntmps14
      go_wp2_with fail
      refine (HP.out _ (bel_alloc (Below.refl _ _) _)).mono ?_
      rintro e w' ⟨rfl, n1, rfl⟩
      rw [HMb.out]
      have B0 := RS.start (w := w) (T := 25) (x0 := .int .i64 0) (x1 := .slice none 0 0) (x2 := .slice none 0 0) (x3 := .slice none 0 0) (x4 := .slice none 0 0) n1
      generalize (w.alloc (.cells #[.int .i64 0, .slice none 0 0, .slice none 0 0, .slice none 0 0, .slice none 0 0] 25)).drewN n1 = W0 at *
      clear hM HP
      go_wp2_with fail
      have hps0 := PS.start B0 rfl (t.length : Int)
      clear B0
      generalize ((W0.alloc (.cells #[.int .i64 (t.length : Int), .slice none 0 0, .slice none 0 0, .slice none 0 0, .slice none 0 0] 25)).alloc (.cells #[] 51)).alloc (.cells #[.slice (some ⟨W0.heap.size + 1, 0, none⟩) 0 0] 49) = W1 at *
      generalize W0.heap.size = q at *
      have HPS0 := Lib.hid hps0
      clear hps0
      go_loopw [7, 8] (fun iv _ wr => ∃ (i : Nat) (vf vt vi vp : Value), i ≤ t.length ∧ iv = .int .i64 i ∧ PS w w.heap.size q (q + 1 + 1) t.length wr vf vt vi vp vf vt vi vp ((prTo t i).map Prod.fst) ((prTo t i).map Prod.snd) (tab (fun k => (cnt t k k : Int)) i) (prTo t i)) (fun iv _ _ => t.length - (intOf iv).toNat)
      case atStart => exact ⟨0, _, _, _, _, Nat.zero_le _, rfl, HPS0.out⟩
      case round =>
        obtain ⟨i, vf, vt, vi, vp, hi, rfl, hps⟩ := hrel
        by_cases hlt : i < t.length
        · have HPS := Lib.hid hps
          clear hps
          go_wp2_with fail
          go_loopw [8] (fun jv wr => ∃ (j : Nat) (vf vt vi vp : Value), j ≤ t.length ∧ jv = .int .i64 j ∧ PS w w.heap.size q (q + 1 + 1) t.length wr vf vt vi vp vf vt vi vp ((prTo t i ++ prRow t i j).map Prod.fst) ((prTo t i ++ prRow t i j).map Prod.snd) (tab (fun k => (cnt t k k : Int)) (if i < j then i + 1 else i)) (prTo t i ++ prRow t i j)) (fun jv _ => t.length - (intOf jv).toNat)
          case atStart => exact ⟨0, _, _, _, _, Nat.zero_le _, rfl, by simpa [prRow] using HPS.out⟩
          case round =>
            obtain ⟨j, vf, vt, vi, vp, hj, rfl, hp0⟩ := hrel
            by_cases hlj : j < t.length
            · obtain rfl := ha (by omega)
              have cr := upc hp0.rs.bel (HC.out i hlt)
              have ce := upc hp0.rs.bel ((HV.out i hlt).2 j hlj)
              have bij := HPre.out.sq.ent hlt hlj
              have hLn := prs_len hl hi hj
              obtain ⟨L, hL⟩ : ∃ L, L = prTo t i ++ prRow t i j := ⟨_, rfl⟩
              rw [← hL] at hp0 hLn
              have HL := Lib.hid hL
              obtain ⟨FF, hFF⟩ : ∃ X, X = L.map Prod.fst := ⟨_, rfl⟩
              obtain ⟨TT, hTT⟩ : ∃ X, X = L.map Prod.snd := ⟨_, rfl⟩
              rw [← hFF, ← hTT] at hp0
              have hfl : FF.length ≤ 72 := by rw [hFF, List.length_map]; exact hLn
              have htl : TT.length ≤ 72 := by rw [hTT, List.length_map]; exact hLn
              have HFF := Lib.hid hFF
              have HTT := Lib.hid hTT
              clear hL hFF hTT
              by_cases h0 : ge t i j = 0
              · have h0b : (ge t i j == 0) = true := by simp [h0]
                have hne : i ≠ j := fun e => by subst e; have := HPre.out.u i hlt; omega
                have H0 := Lib.hid h0
                have HP0 := Lib.hid hp0
                have HNE := Lib.hid hne
                clear h0 hp0 hne
                go_wp2_with fail
                go_roundw
                case rel => exact ⟨j + 1, _, _, _, _, by omega, by go_num, by
                  have e : (if i < j + 1 then i + 1 else i) = (if i < j then i + 1 else i) := by have := HNE.out; split <;> split <;> omega
                  rw [prRow_no H0.out, e, ← HL.out, ← HFF.out, ← HTT.out]; exact HP0.out⟩
                case measure => simp [intOf]; omega
              · have h0b : (ge t i j == 0) = false := by simp [h0]
                have H0 := Lib.hid h0
                clear h0
                obtain ⟨ap, cp, rfl⟩ := hp0.op.shape
                by_cases hij : i = j
                · subst hij
                  obtain ⟨II, hII⟩ : ∃ X, X = tab (fun k => (cnt t k k : Int)) i := ⟨_, rfl⟩
                  rw [if_neg (Nat.lt_irrefl _), ← hII] at hp0
                  have hil : II.length ≤ 8 := by rw [hII, tab_length]; omega
                  have HII := Lib.hid hII
                  obtain ⟨-, k1, k2, k3, -, k5, f1, f2, f3, f4⟩ := hp0.facts
                  clear hII
                  go_wp2_with (at_builtin; refine hold ?_)
                  refine app1 hp0.oi (by constructor <;> omega) (by omega) (by have := hp0.rs.lt; omega) Try.underlying22 infoInt64 (by rfl) _ _ (by rfl) (by rfl) (by first | rfl | (rw [size_set]; rfl)) ?_
                  intro v1 w1 o1 g1
                  obtain ⟨a1, n1, c1, rfl⟩ : ∃ a n c, v1 = .slice a n c := (by obtain ⟨a, c, e⟩ := o1.shape; exact ⟨_, _, _, e⟩)
                  have hq1 := hp0.growI o1 g1
                  have hp1 := hq1.setI
                  obtain ⟨-, k1, k2, k3, -, k5, f1, f2, f3, f4⟩ := hq1.facts
                  obtain ⟨-, m1, m2, m3, -, m5, l1, l2, l3, l4⟩ := hp1.facts
                  clear hp0 hq1 g1 o1
                  go_wp2_with (at_builtin; refine hold ?_)
                  try clear k1
                  try clear k2
                  try clear k3
                  try clear k5
                  try clear f1
                  try clear f2
                  try clear f3
                  try clear f4
                  try clear m1
                  try clear m2
                  try clear m3
                  try clear m5
                  try clear l1
                  try clear l2
                  try clear l3
                  try clear l4
                  refine appP hp1.op (by omega) (by have := hp1.rs.lt; omega) Try.underlying49 infoPair (by rfl) _ _ (by rfl) (by rfl) (by first | rfl | (rw [size_set]; rfl)) ?_
                  intro v2 w2 o2 g2
                  obtain ⟨a2, n2, c2, rfl⟩ : ∃ a n c, v2 = .slice a n c := (by obtain ⟨a, c, e⟩ := o2.shape; exact ⟨_, _, _, e⟩)
                  have hq2 := hp1.growP o2 g2
                  have hp2 := hq2.setP
                  obtain ⟨-, k1, k2, k3, -, k5, f1, f2, f3, f4⟩ := hq2.facts
                  obtain ⟨-, m1, m2, m3, -, m5, l1, l2, l3, l4⟩ := hp2.facts
                  clear hp1 hq2 g2 o2
                  go_wp2_with (at_builtin; refine hold ?_)
                  try clear k1
                  try clear k2
                  try clear k3
                  try clear k5
                  try clear f1
                  try clear f2
                  try clear f3
                  try clear f4
                  try clear m1
                  try clear m2
                  try clear m3
                  try clear m5
                  try clear l1
                  try clear l2
                  try clear l3
                  try clear l4
                  refine app1 hp2.of (by constructor <;> omega) (by omega) (by have := hp2.rs.lt; omega) Try.underlying22 infoInt64 (by rfl) _ _ (by rfl) (by rfl) (by first | rfl | (rw [size_set]; rfl)) ?_
                  intro v3 w3 o3 g3
                  obtain ⟨a3, n3, c3, rfl⟩ : ∃ a n c, v3 = .slice a n c := (by obtain ⟨a, c, e⟩ := o3.shape; exact ⟨_, _, _, e⟩)
                  have hq3 := hp2.growF o3 g3
                  have hp3 := hq3.setF
                  obtain ⟨-, k1, k2, k3, -, k5, f1, f2, f3, f4⟩ := hq3.facts
                  obtain ⟨-, m1, m2, m3, -, m5, l1, l2, l3, l4⟩ := hp3.facts
                  clear hp2 hq3 g3 o3
                  go_wp2_with (at_builtin; refine hold ?_)
                  try clear k1
                  try clear k2
                  try clear k3
                  try clear k5
                  try clear f1
                  try clear f2
                  try clear f3
                  try clear f4
                  try clear m1
                  try clear m2
                  try clear m3
                  try clear m5
                  try clear l1
                  try clear l2
                  try clear l3
                  try clear l4
                  refine app1 hp3.ot (by constructor <;> omega) (by omega) (by have := hp3.rs.lt; omega) Try.underlying22 infoInt64 (by rfl) _ _ (by rfl) (by rfl) (by first | rfl | (rw [size_set]; rfl)) ?_
                  intro v4 w4 o4 g4
                  obtain ⟨a4, n4, c4, rfl⟩ : ∃ a n c, v4 = .slice a n c := (by obtain ⟨a, c, e⟩ := o4.shape; exact ⟨_, _, _, e⟩)
                  have hq4 := hp3.growT o4 g4
                  have hp4 := hq4.setT
                  obtain ⟨-, k1, k2, k3, -, k5, f1, f2, f3, f4⟩ := hq4.facts
                  obtain ⟨-, m1, m2, m3, -, m5, l1, l2, l3, l4⟩ := hp4.facts
                  clear hp3 hq4 g4 o4
                  have HP0 := Lib.hid hp4
                  clear hp4
                  go_wp2_with fail
                  go_roundw
                  case rel => exact ⟨i + 1, _, _, _, _, by omega, by go_num, by
                    rw [prRow_yes H0.out, if_pos (Nat.lt_succ_self _), tab_succ, ← HII.out, ← List.append_assoc, ← HL.out, List.map_append, List.map_append, ← HFF.out, ← HTT.out, show (cnt t i i : Int) = (L.length : Int) by rw [HL.out]; rfl]
                    exact HP0.out⟩
                  case measure => simp [intOf]; omega
                · have e1 : ((i : Int) == (j : Int)) = false := by simp; omega
                  have e2 : (i == j) = false := by simp; omega
                  obtain ⟨II, hII⟩ : ∃ X, X = tab (fun k => (cnt t k k : Int)) (if i < j then i + 1 else i) := ⟨_, rfl⟩
                  rw [← hII] at hp0
                  have HII := Lib.hid hII
                  have HIJ := Lib.hid hij
                  obtain ⟨-, k1, k2, k3, -, k5, f1, f2, f3, f4⟩ := hp0.facts
                  clear hII
                  go_wp2_with (at_builtin; refine hold ?_)
                  refine appP hp0.op (by omega) (by have := hp0.rs.lt; omega) Try.underlying49 infoPair (by rfl) _ _ (by rfl) (by rfl) (by first | rfl | (rw [size_set]; rfl)) ?_
                  intro v1 w1 o1 g1
                  obtain ⟨a1, n1, c1, rfl⟩ : ∃ a n c, v1 = .slice a n c := (by obtain ⟨a, c, e⟩ := o1.shape; exact ⟨_, _, _, e⟩)
                  have hq1 := hp0.growP o1 g1
                  have hp1 := hq1.setP
                  obtain ⟨-, k1, k2, k3, -, k5, f1, f2, f3, f4⟩ := hq1.facts
                  obtain ⟨-, m1, m2, m3, -, m5, l1, l2, l3, l4⟩ := hp1.facts
                  clear hp0 hq1 g1 o1
                  go_wp2_with (at_builtin; refine hold ?_)
                  try clear k1
                  try clear k2
                  try clear k3
                  try clear k5
                  try clear f1
                  try clear f2
                  try clear f3
                  try clear f4
                  try clear m1
                  try clear m2
                  try clear m3
                  try clear m5
                  try clear l1
                  try clear l2
                  try clear l3
                  try clear l4
                  refine app1 hp1.of (by constructor <;> omega) (by omega) (by have := hp1.rs.lt; omega) Try.underlying22 infoInt64 (by rfl) _ _ (by rfl) (by rfl) (by first | rfl | (rw [size_set]; rfl)) ?_
                  intro v2 w2 o2 g2
                  obtain ⟨a2, n2, c2, rfl⟩ : ∃ a n c, v2 = .slice a n c := (by obtain ⟨a, c, e⟩ := o2.shape; exact ⟨_, _, _, e⟩)
                  have hq2 := hp1.growF o2 g2
                  have hp2 := hq2.setF
                  obtain ⟨-, k1, k2, k3, -, k5, f1, f2, f3, f4⟩ := hq2.facts
                  obtain ⟨-, m1, m2, m3, -, m5, l1, l2, l3, l4⟩ := hp2.facts
                  clear hp1 hq2 g2 o2
                  go_wp2_with (at_builtin; refine hold ?_)
                  try clear k1
                  try clear k2
                  try clear k3
                  try clear k5
                  try clear f1
                  try clear f2
                  try clear f3
                  try clear f4
                  try clear m1
                  try clear m2
                  try clear m3
                  try clear m5
                  try clear l1
                  try clear l2
                  try clear l3
                  try clear l4
                  refine app1 hp2.ot (by constructor <;> omega) (by omega) (by have := hp2.rs.lt; omega) Try.underlying22 infoInt64 (by rfl) _ _ (by rfl) (by rfl) (by first | rfl | (rw [size_set]; rfl)) ?_
                  intro v3 w3 o3 g3
                  obtain ⟨a3, n3, c3, rfl⟩ : ∃ a n c, v3 = .slice a n c := (by obtain ⟨a, c, e⟩ := o3.shape; exact ⟨_, _, _, e⟩)
                  have hq3 := hp2.growT o3 g3
                  have hp3 := hq3.setT
                  obtain ⟨-, k1, k2, k3, -, k5, f1, f2, f3, f4⟩ := hq3.facts
                  obtain ⟨-, m1, m2, m3, -, m5, l1, l2, l3, l4⟩ := hp3.facts
                  clear hp2 hq3 g3 o3
                  have HP0 := Lib.hid hp3
                  clear hp3
                  go_wp2_with fail
                  go_roundw
                  case rel => exact ⟨j + 1, _, _, _, _, by omega, by go_num, by
                    have e : (if i < j + 1 then i + 1 else i) = (if i < j then i + 1 else i) := by have := HIJ.out; split <;> split <;> omega
                    rw [prRow_yes H0.out, e, ← HII.out, ← List.append_assoc, ← HL.out, List.map_append, List.map_append, ← HFF.out, ← HTT.out]
                    exact HP0.out⟩
                  case measure => simp [intOf]; omega
            · have hjn : t.length = j := by omega
              have HP0 := Lib.hid hp0
              clear hp0
              subst hjn
              go_wp2_with fail
              go_roundw
              case rel => exact ⟨i + 1, _, _, _, _, by omega, by go_num, by
                have e := HP0.out
                rw [if_pos hlt] at e
                exact e⟩
              case measure => simp [intOf]; omega
        · have hin : t.length = i := by omega
          subst hin
          obtain ⟨L, hL⟩ : ∃ L, L = prTo t t.length := ⟨_, rfl⟩
          rw [← hL] at hps
          have HL : Hid (prs t = L) := hL.symm
          obtain ⟨FF, hFF⟩ : ∃ X, X = L.map Prod.fst := ⟨_, rfl⟩
          obtain ⟨TT, hTT⟩ : ∃ X, X = L.map Prod.snd := ⟨_, rfl⟩
          rw [← hFF, ← hTT] at hps
          have hfl : FF.length = L.length := by rw [hFF, List.length_map]
          have htl : TT.length = L.length := by rw [hTT, List.length_map]
          have HFF := Lib.hid hFF
          have HTT := Lib.hid hTT
          clear hL hFF hTT
          obtain ⟨aF, nF, kF, rfl⟩ : ∃ a n k, vf = .slice a n k := (by obtain ⟨a, c, e⟩ := hps.of.shape; exact ⟨_, _, _, e⟩)
          obtain ⟨aT, nT, kT, rfl⟩ : ∃ a n k, vt = .slice a n k := (by obtain ⟨a, c, e⟩ := hps.ot.shape; exact ⟨_, _, _, e⟩)
          obtain ⟨aI, nI, kI, rfl⟩ : ∃ a n k, vi = .slice a n k := (by obtain ⟨a, c, e⟩ := hps.oi.shape; exact ⟨_, _, _, e⟩)
          obtain ⟨ap, cp, rfl⟩ := hps.op.shape
          obtain ⟨-, -, -, -, -, k5, -, -, -, -⟩ := hps.facts
          by_cases h40 : L.length ≤ 40
          · have h40b : decide ((40 : Int) < (L.length : Int)) = false := decide_eq_false (by omega)
            have hIF : ∀ W, Within q (q + 1) wr W → IS W (.slice aF nF kF) FF := fun W hW => (own_off hps.of hW (hps.sep.dj 3 1 rfl rfl (by omega))).is
            have hIT : ∀ W, Within q (q + 1) wr W → IS W (.slice aT nT kT) TT := fun W hW => (own_off hps.ot hW (hps.sep.dj 4 1 rfl rfl (by omega))).is
            have hIP : ∀ W, Within q (q + 1) wr W → IPS W (.slice ap L.length cp) L := fun W hW => (ownP_off hps.op hW (hps.sep.dj 6 1 rfl rfl (by omega))).is
            have HT := Lib.hid (c_tablePre (p := q + 1 + 1) (V := fun f g => idxP L (gi FF f, gi TT g)) hps.rc hIF hIT hfl htl (by omega) (fun f g _ _ _ => by have := idxP_bd L (gi FF f, gi TT g); constructor <;> omega)
              (fun W f g hf hg _ hW k1 k2 => by
                obtain ⟨a1, b1, o1, c1, e1, e2, e3⟩ := (hIF W hW).ex
                obtain ⟨a2, b2, o2, c2, g1, g2, g3⟩ := (hIT W hW).ex
                rw [hfl] at e1 e2 e3
                rw [htl] at g1 g2 g3
                rw [e2 (by omega)] at e1
                rw [g2 (by omega)] at g1
                exact c_preClo (within_cell hW k5 (by omega)) (hIP W hW) (by omega) (k1.trans (congrArg some e1)) (k2.trans (congrArg some g1)) (e3 f hf) (g3 g hg) hf hg (by omega)))
            have HPS := Lib.hid hps
            have HFL := Lib.hid hfl
            have HTL := Lib.hid htl
            clear hps hIF hIT hIP hfl htl
            go_wp2_with fail
            refine HT.out.mono ?_
            rintro e w2 ⟨rfl, hW2, vc, hr2, hof⟩
            obtain ⟨aC, kC, rfl⟩ := hof.opened'
            have hps := HPS.out
            have hlt := hps.lt
            have hrl := hps.rs.lt
            have hsz2 := hW2.size
            have R2 : RS w w.heap.size 25 w2 := by
              obtain ⟨r1, r2, f, r3⟩ := hps.rs
              exact ⟨⟨hW2.os.trans r1.os, hW2.tape.trans r1.tape, hW2.output.trans r1.output, Nat.le_trans r1.size hW2.size, fun k hk => (hW2.block k (.inl (by omega)) (Nat.lt_of_lt_of_le hk r1.size)).trans (r1.block k hk)⟩, r2, f, rowIs_within r3 hW2 (by omega)⟩
            have z0 := hr2.cell (show 0 < 5 by omega)
            have z1 := hr2.cell (show 1 < 5 by omega)
            have z2 := hr2.cell (show 2 < 5 by omega)
            have z3 := hr2.cell (show 3 < 5 by omega)
            have z4 := hr2.cell (show 4 < 5 by omega)
            simp only [rowC, show ¬ (0 = 4) by omega, show ¬ (1 = 4) by omega, show ¬ (2 = 4) by omega, show ¬ (3 = 4) by omega, show ¬ (1 = 0) by omega, show ¬ (2 = 0) by omega, show ¬ (2 = 1) by omega, show ¬ (3 = 0) by omega, show ¬ (3 = 1) by omega, show ¬ (3 = 2) by omega, if_true, if_false] at z0 z1 z2 z3 z4
            obtain ⟨-, x0, x1, x2, x3, x4, f0, f1, f2, f3, f4⟩ := R2.all
            have HOF := Lib.hid hof
            have HW2 := Lib.hid hW2
            clear hps hr2 hof hW2 k5 HT
            go_wp2_with fail
            refine bodyPost_ret (results_cell_row2 rfl _ _ w.heap.size 25 #[_, _, _, _, _] (0, 0) _ (by rfl) (RS.five (w := w) R2 _ _ _ _ _) Try.underlying25 rfl (by kernel_rfl)) rfl ?_
            have hB : w.heap.size + 1 ≤ wr.heap.size := by omega
            obtain ⟨gf, tf, o1, p1, p2, p3, p4⟩ := own_int HPS.out.of hB
            obtain ⟨gt, tt, o2, q1, q2, q3, q4⟩ := own_int HPS.out.ot hB
            obtain ⟨gi', ti, o3, s1, s2, s3, s4⟩ := own_int HPS.out.oi hB
            have hsep := HPS.out.sep
            have d1 := int_apart p4 q4 (hsep.dj 3 4 rfl rfl (by omega)) p1 q1
            have d2 := int_apart p4 s4 (hsep.dj 3 5 rfl rfl (by omega)) p1 s1
            have d3 := int_apart q4 s4 (hsep.dj 4 5 rfl rfl (by omega)) q1 s1
            have l1 := int_off p4 (hsep.dj 3 1 rfl rfl (by omega)) (show w.heap.size + 1 ≤ q by omega)
            have l2 := int_off q4 (hsep.dj 4 1 rfl rfl (by omega)) (show w.heap.size + 1 ≤ q by omega)
            have l3 := int_off s4 (hsep.dj 5 1 rfl rfl (by omega)) (show w.heap.size + 1 ≤ q by omega)
            have hps72 : (prs t).length ≤ 40 := by rw [HL.out]; exact h40
            rw [preR_0 HMb.out hl hps72]
            have hcm : OF 2 22 wr.heap.size w2.heap.size w2 (.slice aC L.length kC) (posC t).cm.length (gr (posC t).cm) := by
              have e : (posC t).cm.length = L.length := by show (posM t).length = _; rw [posM_len, HL.out]
              rw [e]
              refine HOF.out.congr fun f hf => ?_
              show _ = gr (posM t) f
              have hf' : f < (prs t).length := by rw [HL.out]; exact hf
              rw [gr_posM hf', HL.out]
              refine tab_congr fun g hg => ?_
              have hg' : g < (prs t).length := by rw [HL.out]; exact hg
              rw [HFF.out, HTT.out, ← HL.out, gi_fst, gi_snd, gi_fst, gi_snd]
              by_cases e : (gp (prs t) f).2 = (gp (prs t) g).1
              · rw [if_pos e, posV_idx HPre.out hf' hg' e]
              · rw [if_neg e, posV_no e]
            have c1 : OwnT 2 gf tf w2 (.slice aF nF kF) (posC t).fr := by
              have := o1.kept HW2.out l1
              rw [HFF.out, ← HL.out] at this
              exact this
            have c2 : OwnT 2 gt tt w2 (.slice aT nT kT) (posC t).to := by
              have := o2.kept HW2.out l2
              rw [HTT.out, ← HL.out] at this
              exact this
            have c3 : OwnT 2 gi' ti w2 (.slice aI nI kI) (posC t).id := o3.kept HW2.out l3
            refine mkC_set5 R2 (posC t) 0 c1 c2 c3 ⟨hcm, (posM_size (by omega)).1, (posM_size (by omega)).2⟩ ?_ ?_ ?_
            · clear d1 d2 d3 l1 l2 l3
              refine ⟨?_, ?_, ?_, ?_, p2, q2, s2, hsz2, ?_, ?_, ?_, Nat.le_refl _⟩ <;> omega
            · exact ⟨d1, d2, d3, .inl p3, .inl q3, .inl s3⟩
            · show I64 (t.length : Int)
              constructor <;> omega
          · have h40b : decide ((40 : Int) < (L.length : Int)) = true := decide_eq_true (by omega)
            have hr := preR_3 HMb.out hl (by rw [HL.out]; exact h40)
            have R1 := hps.rs
            obtain ⟨-, x0, x1, x2, x3, x4, f0, f1, f2, f3, f4⟩ := R1.all
            clear hps
            go_wp2_with fail
            refine bodyPost_ret (results_cell_row2 rfl _ _ w.heap.size 25 #[_, _, _, _, _] (0, 0) _ (by rfl) (RS.five (w := w) R1 _ _ _ _ _) Try.underlying25 rfl (by kernel_rfl)) rfl ?_
            exact mkC_nil5 R1 hr
    · have hlb : decide ((8 : Int) < (t.length : Int)) = true := decide_eq_true (by omega)
      have hr := preR_2 hM hl
      go_enter Try.func14, Try.ntmps14
      go_wp2_with fail
      refine (HP.out _ (bel_alloc (Below.refl _ _) _)).mono ?_
      rintro e w' ⟨rfl, n1, rfl⟩
      rw [hM]
      have B0 := RS.start (w := w) (T := 25) (x0 := .int .i64 0) (x1 := .slice none 0 0) (x2 := .slice none 0 0) (x3 := .slice none 0 0) (x4 := .slice none 0 0) n1
      generalize (w.alloc (.cells #[.int .i64 0, .slice none 0 0, .slice none 0 0, .slice none 0 0, .slice none 0 0] 25)).drewN n1 = W0 at *
      obtain ⟨-, x0, x1, x2, x3, x4, f0, f1, f2, f3, f4⟩ := B0.all
      go_wp2_with fail
      refine bodyPost_ret (results_cell_row2 rfl _ _ w.heap.size 25 #[_, _, _, _, _] (0, 0) _ (by rfl) (RS.five (w := w) B0 _ _ _ _ _) Try.underlying25 rfl (by kernel_rfl)) rfl ?_
      exact mkC_nil5 B0 hr
  · have hr := preR_1 hM
    simp only [Bool.not_eq_true] at hM
    go_enter Try.func14, Try.ntmps14
    go_wp2_with fail
    refine (HP.out _ (bel_alloc (Below.refl _ _) _)).mono ?_
    rintro e w' ⟨rfl, n1, rfl⟩
    rw [hM]
    have B0 := RS.start (w := w) (T := 25) (x0 := .int .i64 0) (x1 := .slice none 0 0) (x2 := .slice none 0 0) (x3 := .slice none 0 0) (x4 := .slice none 0 0) n1
    generalize (w.alloc (.cells #[.int .i64 0, .slice none 0 0, .slice none 0 0, .slice none 0 0, .slice none 0 0] 25)).drewN n1 = W0 at *
    obtain ⟨-, x0, x1, x2, x3, x4, f0, f1, f2, f3, f4⟩ := B0.all
    go_wp2_with fail
    refine bodyPost_ret (results_cell_row2 rfl _ _ w.heap.size 25 #[_, _, _, _, _] (0, 0) _ (by rfl) (RS.five (w := w) B0 _ _ _ _ _) Try.underlying25 rfl (by kernel_rfl)) rfl ?_
    exact mkC_nil5 B0 hr
end Go.Proofs.Ytmigbcadldkmfaa
