/-
  Lists of pairs of the call's own: appends of whole lists; joined, l35Pair.
-/
import Derived.Test.YtjlpmfimbgbcmaaDoorPdw
import Derived.Test.YtjlpmfimbgbcmaaDoorSS
namespace Go.Proofs.YtjlpmfimbgbcmaaDoor
open Go.RowKit

theorem OwnP.nil {E : TypeId} {w : World} {B : Nat} : OwnP E w B (.slice none 0 0) [] := World.ownsRow_nil w B E 2
theorem OwnP.lit1 {E : TypeId} {w : World} {m : Nat} {a b : Int} (hm : w.heap.size = m) : OwnP E (w.alloc (.cells #[.int .i64 a, .int .i64 b] E)) m (.slice (some ⟨m, 0, none⟩) 1 1) [(a, b)] := by
  subst hm
  exact World.ownsRow_lit (base := w.heap.size) (size := 2) (e := E) w #[.int .i64 a, .int .i64 b] 1 (Nat.le_refl _) (by simp [maxLen]) (by simp)
theorem OwnP.keptB {E : TypeId} {w w' : World} {B : Nat} {v : Value} {P : List (Int × Int)} (h : OwnP E w B v P) (hb : Below w.heap.size w w') : OwnP E w' B v P :=
  ownsRow_within h (below_within hb w.heap.size) (fun _ _ => by omega)
theorem OwnP.keptW {E : TypeId} {w w' : World} {B b : Nat} {v : Value} {P : List (Int × Int)} (h : OwnP E w B v P) (hb : Within b (b + 1) w w') (hB : b < B) : OwnP E w' B v P :=
  ownsRow_within h hb (fun k hk => .inr (by have := (h.lt k hk).1; omega))
theorem OwnP.mono {E : TypeId} {w : World} {B B' : Nat} {v : Value} {P : List (Int × Int)} (h : OwnP E w B v P) (hB : B' ≤ B) : OwnP E w B' v P := by
  refine ⟨h.1, ?_⟩
  rcases h.2 with hn | ⟨g, cap, cur, hv, hBg, rest⟩
  · exact .inl hn
  · exact .inr ⟨g, cap, cur, hv, by omega, rest⟩
theorem flP_append (P Q : List (Int × Int)) : flP (P ++ Q) = flP P ++ flP Q := by simp [flP]
theorem flP_one (P : List (Int × Int)) : ∀ u ∈ flP P, u.oneCell' = true := by
  intro u hu
  simp only [flP, List.mem_flatMap] at hu
  obtain ⟨x, -, hx⟩ := hu
  simp at hx
  rcases hx with rfl | rfl <;> rfl
theorem infoDN : (Tryd.prog.info? 73).map (fun i => (i.zero, i.size, i.bytes)) = some (some (.agg #[.int .i64 0, .int .i64 0]), 2, 16) := by kernel_rfl
/-- append(x, y...), lists of pairs. -/
theorem appPs {w : World} {B C : Nat} {v y : Value} {L M : List (Int × Int)} (hv : OwnP 73 w B v L) (hy' : OwnP 73 w C y M) (hB : B ≤ w.heap.size) (hl : L.length + M.length ≤ 1048576)
    {ops : Array Oper} {rest : List Oper} {o : Oper} {a : Act} {Q : Exit → Act → World → Prop} (hgd : o.guard = none) (s ys : Operand)
    (ho : o.op = .call { callee := .builtin .append, args := #[s, ys], argTypes := #[36, 36] })
    (hs : a.eval s = v) (hy : a.eval ys = y)
    (h : ∀ v' w', OwnP 73 w' B v' (L ++ M) → Grew w w' v v' → wpList Tryd.prog ops Q rest (a.put o.dst v') w') : Hold (wpList Tryd.prog ops Q (o :: rest) a w) := by
  show wpList Tryd.prog ops Q (o :: rest) a w
  obtain ⟨i, hi, hz0, hz1, hz2⟩ := info_parts infoDN
  rcases hy'.2 with ⟨rfl, hn⟩ | ⟨g, cap, cur, rfl, hB', hg, hnc, hc, hsz, ht⟩
  · obtain rfl : M = [] := List.length_eq_zero_iff.1 hn
    have hr := run_append_none (P := Tryd.prog) (w := w) 36 o.type 73 i 2 Tryd.underlying36 hi v L.length (flP L) hv 0
    refine wpList_plain hgd fun K hK => ?_
    unfold Oper.wp execOp
    simp only [ho, resolve, invoke, builtin, Sem.run_bind, Sem.run_pure, Result.andThen_ok, List.map_toArray, List.map_cons, List.map_nil, hs, hy, hr]
    exact hK _ _ (h v w (by rw [List.append_nil]; exact hv) (Grew.refl w v))
  · refine wpList_append_own2 hgd s ys _ ho B _ i _ 2 16 Tryd.underlying36 hi hz0 hz1 hz2 rfl (by decide) v L.length (flP L) hs hv ⟨g, 0, none⟩ M.length cap (flP M) hy (flP_length M) (World.ownsRow.cells hy' (g := g) rfl) (flP_one M) (by unfold maxLen; omega) (by omega) hB ?_
    intro v' w' h2 h3
    refine h v' w' ?_ h3
    unfold OwnP
    rw [flP_append, List.length_append]
    exact h2
/-- What joined and l35Pair answer. -/
def JNP (w : World) (kind : Int) (L M : List (Int × Int)) : Ending → World → Prop := Mk w fun w' v => OwnP 73 w' w.heap.size v ((kind, 0) :: (L ++ M))
theorem c_joined {w : World} {B C : Nat} {u v : Value} {k : Int} {a b : List (Int × Int)} (ha : OwnP 73 w B u a) (hb : OwnP 73 w C v b) (hl : a.length + b.length < 1048576) : Calls Tryd.prog 66 #[.int .i64 k, u, v] w (JNP w k a b) := by
  obtain ⟨au, cu, rfl⟩ := ha.shape
  obtain ⟨av, cv, rfl⟩ := hb.shape
  have h0 := OwnP.lit1 (E := 73) (w := w) (m := w.heap.size) (a := k) (b := 0) rfl
  have B0 := bel_alloc (Below.refl w.heap.size w) (.cells #[.int .i64 k, .int .i64 0] 73)
  have hz0 : (w.alloc (.cells #[.int .i64 k, .int .i64 0] 73)).heap.size = w.heap.size + 1 := by simp
  have HA := Lib.hid (ha.keptB B0)
  have HB := Lib.hid (hb.keptB B0)
  have HLt := Lib.hid (⟨ha.lt, hb.lt⟩ : _ ∧ _)
  have H0 := Lib.hid h0
  clear ha hb h0
  go_enter Tryd.func66, Tryd.ntmps66
  go_wp2_with (at_builtin; refine hold ?_)
  refine appPs (B := w.heap.size) H0.out HA.out (by omega) (by simp; omega) (by rfl) _ _ (by rfl) (by rfl) (by rfl) ?_
  intro v' w2 ho2 g2
  have hb2 : Below w.heap.size w w2 := g2.below B0 B0.size (fun q hq => (H0.out.lt q hq).1)
  obtain ⟨a2, c2, rfl⟩ := ho2.shape
  have HB2 := Lib.hid (HB.out.keptG g2 (Dj.of_lt (N := w.heap.size) (fun k hk => (HLt.out.2 k hk).2) (fun k hk => (H0.out.lt k hk).1)))
  have H2 := Lib.hid ho2
  have z2 := hb2.size
  clear ho2 g2
  go_wp2_with (at_builtin; refine hold ?_)
  refine appPs (B := w.heap.size) H2.out HB2.out (by omega) (by simp; omega) (by rfl) _ _ (by rfl) (by rfl) (by rfl) ?_
  intro v' w3 ho3 g3
  have hb3 : Below w.heap.size w w3 := g3.below hb2 hb2.size (fun q hq => (H2.out.lt q hq).1)
  obtain ⟨a3, c3, rfl⟩ := ho3.shape
  have H3 := Lib.hid ho3
  clear ho3 g3
  go_wp2_with fail
  go_ret
  exact ⟨_, rfl, (by have := H3.out; simpa using this), hb3⟩
theorem c_l35Pair {w : World} {B C : Nat} {u v : Value} {k : Int} {a b : List (Int × Int)} (ha : OwnP 73 w B u a) (hb : OwnP 73 w C v b) (hl : a.length + b.length < 1048576) : Calls Tryd.prog 63 #[.int .i64 k, u, v] w (JNP w k a b) := by
  obtain ⟨au, cu, rfl⟩ := ha.shape
  obtain ⟨av, cv, rfl⟩ := hb.shape
  have h0 := OwnP.lit1 (E := 73) (w := w) (m := w.heap.size) (a := k) (b := 0) rfl
  have B0 := bel_alloc (Below.refl w.heap.size w) (.cells #[.int .i64 k, .int .i64 0] 73)
  have hz0 : (w.alloc (.cells #[.int .i64 k, .int .i64 0] 73)).heap.size = w.heap.size + 1 := by simp
  have HA := Lib.hid (ha.keptB B0)
  have HB := Lib.hid (hb.keptB B0)
  have HLt := Lib.hid (⟨ha.lt, hb.lt⟩ : _ ∧ _)
  have H0 := Lib.hid h0
  clear ha hb h0
  go_enter Tryd.func63, Tryd.ntmps63
  go_wp2_with (at_builtin; refine hold ?_)
  refine appPs (B := w.heap.size) H0.out HA.out (by omega) (by simp; omega) (by rfl) _ _ (by rfl) (by rfl) (by rfl) ?_
  intro v' w2 ho2 g2
  have hb2 : Below w.heap.size w w2 := g2.below B0 B0.size (fun q hq => (H0.out.lt q hq).1)
  obtain ⟨a2, c2, rfl⟩ := ho2.shape
  have HB2 := Lib.hid (HB.out.keptG g2 (Dj.of_lt (N := w.heap.size) (fun k hk => (HLt.out.2 k hk).2) (fun k hk => (H0.out.lt k hk).1)))
  have H2 := Lib.hid ho2
  have z2 := hb2.size
  clear ho2 g2
  go_wp2_with (at_builtin; refine hold ?_)
  refine appPs (B := w.heap.size) H2.out HB2.out (by omega) (by simp; omega) (by rfl) _ _ (by rfl) (by rfl) (by rfl) ?_
  intro v' w3 ho3 g3
  have hb3 : Below w.heap.size w w3 := g3.below hb2 hb2.size (fun q hq => (H2.out.lt q hq).1)
  obtain ⟨a3, c3, rfl⟩ := ho3.shape
  have H3 := Lib.hid ho3
  clear ho3 g3
  go_wp2_with fail
  go_ret
  exact ⟨_, rfl, (by have := H3.out; simpa using this), hb3⟩
end Go.Proofs.YtjlpmfimbgbcmaaDoor
