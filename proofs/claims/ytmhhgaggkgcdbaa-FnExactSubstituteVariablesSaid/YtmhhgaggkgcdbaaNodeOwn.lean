/-
  Slices of nodes that the call makes by appends: ONF; append of one node, of a whole own slice; markNodeS, heldNodeS with the marks told.
-/
import Derived.Test.YtmhhgaggkgcdbaaNodeLaw2
import Derived.Test.YtmhhgaggkgcdbaaCopy
namespace Go.Proofs.Ytmhhgaggkgcdbaa
open Go.ChangeShapes Go.WideShapes Go.ChangeAt Go.RowKit Go.Deep

/-- The cells of n nodes. -/
def cN (D : Nat → Nd) (V : Nat → Value) : Nat → List Value
  | 0 => []
  | n + 1 => cN D V n ++ [.int .i64 (D n).kd, .int .i64 (D n).sy, V n]
theorem cN_length (D : Nat → Nd) (V : Nat → Value) (n : Nat) : (cN D V n).length = n * 3 := by
  induction n with
  | zero => rfl
  | succ n ih => simp [cN, ih]; omega
theorem cN_congr {D D' : Nat → Nd} {V V' : Nat → Value} {n : Nat} (h : ∀ i, i < n → (D i).kd = (D' i).kd ∧ (D i).sy = (D' i).sy ∧ V i = V' i) : cN D V n = cN D' V' n := by
  induction n with
  | zero => rfl
  | succ n ih =>
    obtain ⟨h1, h2, h3⟩ := h n (by omega)
    simp only [cN]
    rw [ih (fun i hi => h i (by omega)), h1, h2, h3]
theorem cN_get (D : Nat → Nd) (V : Nat → Value) {n i : Nat} (hi : i < n) : (cN D V n)[i * 3]? = some (.int .i64 (D i).kd) ∧ (cN D V n)[i * 3 + 1]? = some (.int .i64 (D i).sy) ∧ (cN D V n)[i * 3 + 2]? = some (V i) := by
  induction n with
  | zero => omega
  | succ n ih =>
    have hl := cN_length D V n
    by_cases e : i = n
    · subst e
      simp only [cN]
      refine ⟨?_, ?_, ?_⟩
      · rw [List.getElem?_append_right (by omega), hl, Nat.sub_self]; rfl
      · rw [List.getElem?_append_right (by omega), hl, show i * 3 + 1 - i * 3 = 1 by omega]; rfl
      · rw [List.getElem?_append_right (by omega), hl, show i * 3 + 2 - i * 3 = 2 by omega]; rfl
    · obtain ⟨h1, h2, h3⟩ := ih (by omega)
      simp only [cN]
      refine ⟨?_, ?_, ?_⟩
      · rw [List.getElem?_append_left (by omega)]; exact h1
      · rw [List.getElem?_append_left (by omega)]; exact h2
      · rw [List.getElem?_append_left (by omega)]; exact h3
theorem cN_add (D : Nat → Nd) (V : Nat → Value) (n m : Nat) : cN D V (n + m) = cN D V n ++ cN (fun i => D (n + i)) (fun i => V (n + i)) m := by
  induction m with
  | zero => simp [cN]
  | succ m ih => rw [show n + (m + 1) = n + m + 1 from rfl]; simp only [cN]; rw [ih, List.append_assoc]
theorem cN_one (D : Nat → Nd) (V : Nat → Value) (m : Nat) : ∀ u ∈ cN D V m, (∀ i, i < m → (V i).oneCell' = true) → u.oneCell' = true := by
  intro u hu hV
  induction m with
  | zero => cases hu
  | succ m ih =>
    rcases List.mem_append.1 hu with h | h
    · exact ih h (fun i hi => hV i (by omega))
    · simp at h
      rcases h with rfl | rfl | rfl
      · rfl
      · rfl
      · exact hV m (by omega)
/-- v is a slice of n nodes of the call's own, in blocks from B on, below T. -/
def ONF (B T : Nat) (w : World) (v : Value) (n : Nat) (D : Nat → Nd) : Prop :=
  ∃ V : Nat → Value, w.ownsRow B 45 3 v n (cN D V n) ∧ (∀ k, v.ownBlock = some k → k < T) ∧ (∀ i, i < n → OwnT 2 B T w (V i) (D i).ag) ∧ (∀ i j, i < n → j < n → i ≠ j → Dj (V i) (V j)) ∧ (∀ i, i < n → Dj (V i) v) ∧ ∀ i, i < n → I64 (D i).kd ∧ I64 (D i).sy
theorem ONF.congr {B T : Nat} {w : World} {v : Value} {n : Nat} {D D' : Nat → Nd} (h : ONF B T w v n D) (e : ∀ i, i < n → D i = D' i) : ONF B T w v n D' := by
  obtain ⟨V, h1, h2, h3, h4, h5, h6⟩ := h
  exact ⟨V, by rw [← cN_congr (D := D) (D' := D') (V := V) (V' := V) (fun i hi => by rw [e i hi]; exact ⟨rfl, rfl, rfl⟩)]; exact h1, h2, fun i hi => by rw [← e i hi]; exact h3 i hi, h4, h5, fun i hi => by rw [← e i hi]; exact h6 i hi⟩
theorem ONF.mono {B T B' T' : Nat} {w : World} {v : Value} {n : Nat} {D : Nat → Nd} (h : ONF B T w v n D) (hB : B' ≤ B) (hT : T ≤ T') : ONF B' T' w v n D := by
  obtain ⟨V, h1, h2, h3, h4, h5, h6⟩ := h
  refine ⟨V, ⟨h1.1, ?_⟩, fun k hk => Nat.lt_of_lt_of_le (h2 k hk) hT, fun i hi => (h3 i hi).mono hB hT, h4, h5, h6⟩
  rcases h1.2 with hn | ⟨g, cap, cur, hv, hBg, rest⟩
  · exact .inl hn
  · exact .inr ⟨g, cap, cur, hv, by omega, rest⟩
theorem ONF.kept {B T B' T' : Nat} {w w' : World} {v : Value} {n : Nat} {D : Nat → Nd} (h : ONF B T w v n D) (hb : Within B' T' w w') (hd : T ≤ B' ∨ T' ≤ B) : ONF B T w' v n D := by
  obtain ⟨V, h1, h2, h3, h4, h5, h6⟩ := h
  refine ⟨V, ownsRow_within h1 hb (fun k hk => ?_), h2, fun i hi => (h3 i hi).kept hb hd, h4, h5, h6⟩
  have := h2 k hk
  have := (h1.lt k hk).1
  omega
theorem ONF.keptB {B T : Nat} {w w' : World} {v : Value} {n : Nat} {D : Nat → Nd} (h : ONF B T w v n D) (hb : Below w.heap.size w w') : ONF B T w' v n D :=
  h.kept (below_within hb B) (.inr (Nat.le_refl _))
theorem ONF.lt {B T : Nat} {w : World} {v : Value} {n : Nat} {D : Nat → Nd} (h : ONF B T w v n D) : ∀ k, v.ownBlock = some k → B ≤ k ∧ k < T := by
  obtain ⟨V, h1, h2, -⟩ := h
  exact fun k hk => ⟨(h1.lt k hk).1, h2 k hk⟩
theorem ONF.nil {B T : Nat} {w : World} {D : Nat → Nd} : ONF B T w (.slice none 0 0) 0 D :=
  ⟨fun _ => undef, World.ownsRow_nil _ _ _ _, (fun k hk => by simp [Value.ownBlock] at hk), (fun i hi => by omega), (fun i j hi => by omega), (fun i hi => by omega), fun i hi => by omega⟩
theorem ONF.empty {B m : Nat} {w : World} {D : Nat → Nd} (hB : B ≤ w.heap.size) (hm : w.heap.size = m) : ONF B (m + 1) (w.alloc (.cells #[] 45)) (.slice (some ⟨m, 0, none⟩) 0 0) 0 D := by
  subst hm
  exact ⟨fun _ => undef, World.ownsRow_made w #[] 0 hB (by simp [maxLen]) (by simp), (fun k hk => by simp [Value.ownBlock] at hk; omega), (fun i hi => by omega), (fun i j hi => by omega), (fun i hi => by omega), fun i hi => by omega⟩
theorem ONF.opened {B T : Nat} {w : World} {v : Value} {n : Nat} {D : Nat → Nd} (h : ONF B T w v n D) : ∃ ao c, v = .slice ao n c := by
  obtain ⟨V, h1, -⟩ := h
  rcases h1.2 with ⟨rfl, hn⟩ | ⟨g, cap, cur, rfl, _⟩
  · subst hn; exact ⟨none, 0, rfl⟩
  · exact ⟨_, cap, rfl⟩
/-- .. the cells. -/
theorem ONF.cells {B T : Nat} {w : World} {v : Value} {n : Nat} {D : Nat → Nd} (h : ONF B T w v n D) :
    ∃ (ao : Option Addr) (g c : Nat) (V : Nat → Value), v = .slice ao n c ∧ (0 < n → ao = some ⟨g, 0, none⟩ ∧ B ≤ g ∧ g < T) ∧
      (∀ i, i < n → w.cell? ⟨g, i * 3, none⟩ = some (.int .i64 (D i).kd) ∧ w.cell? ⟨g, i * 3 + 1, none⟩ = some (.int .i64 (D i).sy) ∧ w.cell? ⟨g, i * 3 + 2, none⟩ = some (V i)) ∧ ∀ i, i < n → OwnT 2 B T w (V i) (D i).ag := by
  obtain ⟨V, h1, h2, h3, h4, h5, h6⟩ := h
  rcases h1.2 with ⟨rfl, hn⟩ | ⟨g, cap, cur, rfl, hB, hg, hn, hc, hs, ht⟩
  · subst hn
    exact ⟨none, 0, 0, V, rfl, fun h0 => by omega, fun i hi => by omega, fun i hi => by omega⟩
  · refine ⟨some ⟨g, 0, none⟩, g, cap, V, rfl, fun _ => ⟨rfl, hB, h2 g rfl⟩, fun i hi => ?_, h3⟩
    obtain ⟨c1, c2, c3⟩ := cN_get D V hi
    have hl := cN_length D V n
    refine ⟨?_, ?_, ?_⟩
    · rw [h1.cellAt (i * 3) (by omega)]; exact c1
    · rw [h1.cellAt (i * 3 + 1) (by omega)]; exact c2
    · rw [h1.cellAt (i * 3 + 2) (by omega)]; exact c3
/-- Two own rows of different types do not lie in one block. -/
theorem dj_typesN {E E' : TypeId} {sz : Nat} {w : World} {B B' n : Nat} {u v : Value} {xs : List Int} {ys : List Value} (hne : E ≠ E') (hu : Own E w B u xs) (hv : w.ownsRow B' E' sz v n ys) : Dj u v := by
  unfold Dj
  rcases hu.row.2 with ⟨rfl, _⟩ | ⟨g, cap, cur, rfl, _, hg, _⟩
  · exact .inl rfl
  · rcases hv.2 with ⟨rfl, _⟩ | ⟨g', cap', cur', rfl, _, hg', _⟩
    · exact .inr (fun e => by simp [Value.ownBlock] at e)
    · refine .inr (fun e => ?_)
      simp only [Value.ownBlock, Option.some.injEq] at e
      subst e
      rw [hg] at hg'
      injection hg' with h
      injection h with h1 h2
      exact hne h2
theorem oneCell_own {E : TypeId} {w : World} {B : Nat} {u : Value} {xs : List Int} (hu : Own E w B u xs) : u.oneCell' = true := by
  rcases hu.row.2 with ⟨rfl, _⟩ | ⟨g, cap, cur, rfl, _⟩ <;> rfl
theorem infoND : (Try.prog.info? 45).map (fun i => (i.zero, i.size, i.bytes)) = some (some (.agg #[.int .i64 0, .int .i64 0, .slice none 0 0]), 3, 40) := by kernel_rfl
/-- append(out, list...): the run, the new nodes' cells at a, m of them, whose slices are younger than out. -/
theorem run_appN {w : World} {B N T : Nat} {v : Value} {n m c : Nat} {D X : Nat → Nd} {U : Nat → Value} {a : Addr} {ty : TypeId} (hv : ONF B N w v n D) (hcell : ∀ j u, (cN X U m)[j]? = some u → w.cell? (a.add j) = some u)
    (hU : ∀ i, i < m → OwnT 2 N T w (U i) (X i).ag) (hUU : ∀ i j, i < m → j < m → i ≠ j → Dj (U i) (U j)) (hwf : ∀ i, i < m → I64 (X i).kd ∧ I64 (X i).sy) (hBN : B ≤ N) (hNw : N ≤ w.heap.size) (hTw : T ≤ w.heap.size) (hl : n + m ≤ 1048576) :
    ∃ v' w', (Builtin.append_ #[24, 24] ty #[v, .slice (some a) m c]).run Try.prog w = .ok v' w' ∧ ONF B w'.heap.size w' v' (n + m) (fun i => if i < n then D i else X (i - n)) ∧ Grew w w' v v' := by
  obtain ⟨i, hi, hz0, hz1, hz2⟩ := info_parts infoND
  obtain ⟨V, h1, h2, h3, h4, h5, h6⟩ := hv
  obtain ⟨v', w', hr, k2, k3⟩ := run_append_own2 (P := Try.prog) (w := w) B 24 ty 45 i _ 3 40 Try.underlying24 hi hz0 hz1 hz2 rfl (by decide) v n _ h1 a m c (cN X U m) (by rw [cN_length]) hcell
    (fun u hu => cN_one X U m u hu (fun i hi => oneCell_own (hU i hi).own)) (by unfold maxLen; omega) (by omega) (by omega)
  have hsz := k3.grown.size
  refine ⟨v', w', hr, ?_, k3⟩
  have duv : ∀ i, i < m → Dj (U i) v := fun i hi => dj_typesN (by decide) (hU i hi).own h1
  refine ⟨fun j => if j < n then V j else U (j - n), ?_, fun k hk => (k2.lt k hk).2, fun j hj => ?_, fun j j' hj hj' hjj => ?_, fun j hj => ?_, fun j hj => ?_⟩ <;> (try dsimp only)
  · rw [cN_add, cN_congr (n := n) (D' := D) (V' := V) (fun i hi => by simp [hi]), cN_congr (n := m) (D' := X) (V' := U) (fun i hi => by rw [if_neg (by omega), if_neg (by omega), show n + i - n = i by omega]; exact ⟨rfl, rfl, rfl⟩)]
    exact k2
  · by_cases e : j < n
    · rw [if_pos e, if_pos e]
      exact (((h3 j e).grew k3 (h5 j e))).mono (Nat.le_refl _) (by omega)
    · rw [if_neg e, if_neg e]
      exact ((hU (j - n) (by omega)).grew k3 (duv _ (by omega))).mono hBN (by omega)
  · have hlo : ∀ q, q < n → ∀ k, (V q).ownBlock = some k → k < N := fun q hq k hk => (h3 q hq).top k hk
    have hhi : ∀ q, q < m → ∀ k, (U q).ownBlock = some k → N ≤ k := fun q hq k hk => ((hU q hq).lt k hk).1
    by_cases e : j < n <;> by_cases e' : j' < n
    · rw [if_pos e, if_pos e']; exact h4 j j' e e' hjj
    · rw [if_pos e, if_neg e']; exact Dj.of_lt (hlo j e) (hhi _ (by omega))
    · rw [if_neg e, if_pos e']; exact (Dj.of_lt (hlo j' e') (hhi _ (by omega))).symm
    · rw [if_neg e, if_neg e']; exact hUU _ _ (by omega) (by omega) (by omega)
  · have hlt : ∀ k, (if j < n then V j else U (j - n)).ownBlock = some k → k < w.heap.size := by
      intro k hk
      by_cases e : j < n
      · rw [if_pos e] at hk; have := (h3 j e).top k hk; omega
      · rw [if_neg e] at hk; have := (hU (j - n) (by omega)).top k hk; omega
    have hd : Dj (if j < n then V j else U (j - n)) v := by
      by_cases e : j < n
      · rw [if_pos e]; exact h5 j e
      · rw [if_neg e]; exact duv _ (by omega)
    exact hd.grew k3 hlt
  · by_cases e : j < n
    · rw [if_pos e]; exact h6 j e
    · rw [if_neg e]; exact hwf _ (by omega)
/-- append(out, Node{..}) as one step of a region that draws: the node's cells lie in block m. -/
theorem stepAppN {w : World} {B N T m : Nat} {v u : Value} {n : Nat} {kd sy : Int} {ag : List Int} {D : Nat → Nd} (hv : ONF B N w v n D) (hu : OwnT 2 N T w u ag) (c0 : w.cell? ⟨m, 0, none⟩ = some (.int .i64 kd)) (c1 : w.cell? ⟨m, 1, none⟩ = some (.int .i64 sy)) (c2 : w.cell? ⟨m, 2, none⟩ = some u) (hk : I64 kd) (hs : I64 sy)
    (hBN : B ≤ N) (hNw : N ≤ w.heap.size) (hTw : T ≤ w.heap.size) (hl : n < 1048576)
    {ops : Array Oper} {o : Oper} {a : Act} {K : Act → World → Prop} {Q : Exit → Act → World → Prop} {F : Prop} (hgd : o.guard = none) (s y : Operand)
    (ho : o.op = .call { callee := .builtin .append, args := #[s, y], argTypes := #[24, 24] })
    (hs' : a.eval s = v) (hy : a.eval y = .slice (some ⟨m, 0, none⟩) 1 1)
    (h : ∀ v' w', ONF B w'.heap.size w' v' (n + 1) (fun i => if i < n then D i else ⟨kd, sy, ag⟩) → Grew w w' v v' → K (a.put o.dst v') w') : if Region.wanted o (yielded ops a.tmps) = true then Oper.wp Try.prog o a w K Q else F := by
  have hw : Region.wanted o (yielded ops a.tmps) = true := by simp [Region.wanted, hgd]
  rw [if_pos hw]
  obtain ⟨v', w', hr, k2, k3⟩ := run_appN (w := w) (X := fun _ => ⟨kd, sy, ag⟩) (U := fun _ => u) (a := ⟨m, 0, none⟩) (m := 1) (c := 1) (ty := o.type) hv
    (by
      intro j x hj
      match j, hj with
      | 0, hj => simp [cN] at hj; subst hj; simpa [Addr.add] using c0
      | 1, hj => simp [cN] at hj; subst hj; simpa [Addr.add] using c1
      | 2, hj => simp [cN] at hj; subst hj; simpa [Addr.add] using c2)
    (fun _ _ => hu) (fun i j hi hj hne => by omega) (fun _ _ => ⟨hk, hs⟩) hBN hNw hTw (by omega)
  unfold Oper.wp execOp
  simp only [ho, resolve, invoke, builtin, Sem.run_bind, Sem.run_pure, Result.andThen_ok, List.map_toArray, List.map_cons, List.map_nil, hs', hy, hr]
  exact h v' w' (k2.congr (fun i hi => by by_cases e : i < n <;> simp [e])) k3
/-- append(out, list...), list a slice of the call's own that is younger than out. -/
theorem appNs {w : World} {B N T : Nat} {v y : Value} {n m : Nat} {D X : Nat → Nd} (hv : ONF B N w v n D) (hy' : ONF N T w y m X) (hBN : B ≤ N) (hNw : N ≤ w.heap.size) (hTw : T ≤ w.heap.size) (hl : n + m ≤ 1048576)
    {ops : Array Oper} {rest : List Oper} {o : Oper} {a : Act} {Q : Exit → Act → World → Prop} (hgd : o.guard = none) (s ys : Operand)
    (ho : o.op = .call { callee := .builtin .append, args := #[s, ys], argTypes := #[24, 24] })
    (hs : a.eval s = v) (hy : a.eval ys = y)
    (h : ∀ v' w', ONF B w'.heap.size w' v' (n + m) (fun i => if i < n then D i else X (i - n)) → Grew w w' v v' → wpList Try.prog ops Q rest (a.put o.dst v') w') : Hold (wpList Try.prog ops Q (o :: rest) a w) := by
  show wpList Try.prog ops Q (o :: rest) a w
  refine wpList_plain hgd fun K hK => ?_
  have key : ∃ v' w', (Builtin.append_ #[24, 24] o.type #[v, y]).run Try.prog w = .ok v' w' ∧ ONF B w'.heap.size w' v' (n + m) (fun i => if i < n then D i else X (i - n)) ∧ Grew w w' v v' := by
    obtain ⟨U, u1, u2, u3, u4, u5, u6⟩ := hy'
    rcases u1.2 with ⟨rfl, hn⟩ | ⟨g, cap, cur, rfl, hB, hg, hnc, hc, hsz, ht⟩
    · subst hn
      obtain ⟨V, h1, h2, h3, h4, h5, h6⟩ := hv
      obtain ⟨i, hi, -⟩ := info_parts infoND
      have hr := run_append_none (P := Try.prog) (w := w) 24 o.type 45 i 3 Try.underlying24 hi v n _ h1 0
      refine ⟨v, w, hr, ?_, Grew.refl w v⟩
      exact (ONF.mono ⟨V, h1, h2, h3, h4, h5, h6⟩ (Nat.le_refl _) (by omega)).congr (fun i hi => by rw [if_pos (by omega)])
    · exact run_appN (a := ⟨g, 0, none⟩) (c := cap) (ty := o.type) hv (u1.cells (g := g) rfl) u3 u4 u6 hBN hNw hTw hl
  obtain ⟨v', w', hr, k2, k3⟩ := key
  unfold Oper.wp execOp
  simp only [ho, resolve, invoke, builtin, Sem.run_bind, Sem.run_pure, Result.andThen_ok, List.map_toArray, List.map_cons, List.map_nil, hs, hy, hr]
  exact hK _ _ (h v' w' k2 k3)
end Go.Proofs.Ytmhhgaggkgcdbaa
