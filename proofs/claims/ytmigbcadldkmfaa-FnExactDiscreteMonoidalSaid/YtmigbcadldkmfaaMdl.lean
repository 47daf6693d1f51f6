/-
  Monoidal categories as results: a value of eight cells whose tables lie apart, eqMonoidal, markMonoidal, heldMonoidal; a result block of eight cells through regions that make memory.
-/
import Derived.Test.YtmigbcadldkmfaaMono3
namespace Go.Proofs.Ytmigbcadldkmfaa
open Go.RowKit

structure Mdl where
  on : Cat
  u : Int
  ob : List (List Int)
  ar : List (List Int)
def szm (m : Mdl) : Nat := szc m.on + pS (gr m.ob) m.ob.length + pS (gr m.ar) m.ar.length
/-- One row in a block of its own, its slice in another block. -/
structure OwnS1 (g m : Nat) (w : World) (v : Value) (xs : List Int) : Prop where
  ex : ∃ c kc, v = .slice (some ⟨g, 0, none⟩) 1 c ∧ w.cell? ⟨g, 0, none⟩ = some (.slice (some ⟨m, 0, none⟩) xs.length kc) ∧ OwnT 2 m (m + 1) w (.slice (some ⟨m, 0, none⟩) xs.length kc) xs
  ne : g ≠ m
  lt : g < w.heap.size
theorem OwnS1.is {g m : Nat} {w : World} {v : Value} {xs : List Int} (h : OwnS1 g m w v xs) : ISS w v [xs] := by
  obtain ⟨⟨c, kc, rfl, hc, ho⟩, -⟩ := h
  refine ⟨⟨some ⟨g, 0, none⟩, g, 0, c, fun _ => .slice (some ⟨m, 0, none⟩) xs.length kc, rfl, fun _ => rfl, fun i hi => ?_, fun i hi => ?_⟩, by simp⟩
  · obtain rfl : i = 0 := by simp at hi; omega
    exact hc
  · obtain rfl : i = 0 := by simp at hi; omega
    exact ho.is
theorem OwnS1.kept {g m B' T' : Nat} {w w' : World} {v : Value} {xs : List Int} (h : OwnS1 g m w v xs) (hb : Within B' T' w w') (hg : g < B' ∨ T' ≤ g) (hm : m < B' ∨ T' ≤ m) : OwnS1 g m w' v xs := by
  obtain ⟨⟨c, kc, rfl, hc, ho⟩, hne, hlt⟩ := h
  exact ⟨⟨c, kc, rfl, within_cell hb hc hg, ho.kept hb (by omega)⟩, hne, Nat.lt_of_lt_of_le hlt hb.size⟩
theorem mkSS_one (k : Int) (xs : List Int) : mkSS k (gr [xs]) [xs].length = [mkI k xs.length] := by
  simp [mkSS, pS, gr]
theorem pS_one (xs : List Int) : pS (gr [xs]) [xs].length = xs.length := by simp [pS, gr]
theorem c_markInt64SS_one {g m : Nat} {w : World} {v : Value} {xs : List Int} (h : OwnS1 g m w v xs) (k : Int) (hk : 0 ≤ k) (hk' : k + (xs.length : Int) ≤ 4611686018427387904) :
    Calls Try.prog 16 #[v, .int .i64 k] w (fun e w' => e = .returned (.int .i64 (k + (xs.length : Int))) ∧ OwnS1 g m w' v (mkI k xs.length) ∧ Within m (m + 1) w w') := by
  obtain ⟨⟨c, kc, rfl, hc, ho⟩, hne, hlt⟩ := h
  have HO := Lib.hid ho
  clear ho
  go_enter Try.func16, Try.ntmps16
  go_wp2
  go_loopw [1, 5] (fun kv iv wr => (iv = .int .i64 0 ∧ kv = .int .i64 k ∧ wr = w) ∨ (iv = .int .i64 1 ∧ kv = .int .i64 (k + (xs.length : Int)) ∧ OwnS1 g m wr (.slice (some ⟨g, 0, none⟩) 1 c) (mkI k xs.length) ∧ Within m (m + 1) w wr)) (fun _ iv _ => 1 - (intOf iv).toNat)
  case atStart => exact .inl ⟨rfl, rfl, rfl⟩
  case round =>
    rcases hrel with ⟨rfl, rfl, rfl⟩ | ⟨rfl, rfl, h1, h2⟩
    · go_wp2_with fail
      refine (c_markInt64S HO.out _ (by omega) (by omega)).mono ?_
      rintro e w1 ⟨rfl, o1, n1⟩
      have hc1 := within_cell n1 hc (by omega)
      have hs1 := n1.size
      have HS := Lib.hid (show OwnS1 g m w1 (.slice (some ⟨g, 0, none⟩) 1 c) (mkI k xs.length) from ⟨⟨c, kc, rfl, by rw [mkI_length]; exact hc1, by rw [mkI_length]; exact o1⟩, hne, by omega⟩)
      have HN := Lib.hid n1
      clear o1 n1 hc
      go_wp2_with fail
      go_roundw
      case rel => exact .inr ⟨rfl, rfl, HS.out, HN.out⟩
      case measure => simp [intOf]
    · go_wp2_with fail
      go_ret
      exact ⟨rfl, h1, h2⟩
/-- The table of the objects: an interval of blocks, or one row; apart from the intervals of the category and of the arrows. -/
inductive ObP (b1 t1 b3 t3 B T : Nat) (w : World) (v : Value) (xss : List (List Int)) : Prop where
  | ss (b2 t2 : Nat) (h : OwnSS 2 22 b2 t2 w v xss) (hb : B ≤ b2 ∧ t2 ≤ T) (h1 : t1 ≤ b2 ∨ t2 ≤ b1) (h3 : t2 ≤ b3 ∨ t3 ≤ b2) : ObP b1 t1 b3 t3 B T w v xss
  | one (g m : Nat) (xs : List Int) (he : xss = [xs]) (h : OwnS1 g m w v xs) (hb : B ≤ g ∧ g < T ∧ B ≤ m ∧ m < T) (h1 : (g < b1 ∨ t1 ≤ g) ∧ (m < b1 ∨ t1 ≤ m)) (h3 : (g < b3 ∨ t3 ≤ g) ∧ (m < b3 ∨ t3 ≤ m)) : ObP b1 t1 b3 t3 B T w v xss
section
variable {b1 t1 b3 t3 B T : Nat} {w : World} {v : Value} {xss : List (List Int)}
theorem ObP.is (h : ObP b1 t1 b3 t3 B T w v xss) : ISS w v xss := by
  cases h with
  | ss b2 t2 h _ _ _ => exact h.is
  | one g m xs he h _ _ _ => subst he; exact h.is
theorem ObP.size (h : ObP b1 t1 b3 t3 B T w v xss) : pS (gr xss) xss.length ≤ 1099511627776 := by
  cases h with
  | ss b2 t2 h _ _ _ => exact h.size
  | one g m xs he h _ _ _ => subst he; rw [pS_one]; obtain ⟨⟨c, kc, -, -, ho⟩, -⟩ := h; have := ho.size; omega
theorem ObP.shape (h : ObP b1 t1 b3 t3 B T w v xss) : ∃ ao n c, v = .slice ao n c := by
  obtain ⟨ao, b, o, c, R, hv, -⟩ := h.is.ex
  exact ⟨ao, _, c, hv⟩
theorem ObP.kept {w' : World} {B' T' : Nat} (h : ObP b1 t1 b3 t3 B T w v xss) (hb : Within B' T' w w') (hd : T ≤ B' ∨ T' ≤ B) : ObP b1 t1 b3 t3 B T w' v xss := by
  cases h with
  | ss b2 t2 h a1 a2 a3 => exact .ss b2 t2 (h.kept hb (by clear a2 a3; omega)) a1 a2 a3
  | one g m xs he h a1 a2 a3 => exact .one g m xs he (h.kept hb (by omega) (by omega)) a1 a2 a3
theorem ObP.kept1 {w' : World} (h : ObP b1 t1 b3 t3 B T w v xss) (hb : Within b1 t1 w w') : ObP b1 t1 b3 t3 B T w' v xss := by
  cases h with
  | ss b2 t2 h a1 a2 a3 => exact .ss b2 t2 (h.kept hb (by omega)) a1 a2 a3
  | one g m xs he h a1 a2 a3 => exact .one g m xs he (h.kept hb a2.1 a2.2) a1 a2 a3
theorem ObP.kept3 {w' : World} (h : ObP b1 t1 b3 t3 B T w v xss) (hb : Within b3 t3 w w') : ObP b1 t1 b3 t3 B T w' v xss := by
  cases h with
  | ss b2 t2 h a1 a2 a3 => exact .ss b2 t2 (h.kept hb (by omega)) a1 a2 a3
  | one g m xs he h a1 a2 a3 => exact .one g m xs he (h.kept hb a3.1 a3.2) a1 a2 a3
theorem c_markOb (h : ObP b1 t1 b3 t3 B T w v xss) (k : Int) (hk : 0 ≤ k) (hk' : k + (pS (gr xss) xss.length : Int) ≤ 4611686018427387904) :
    Calls Try.prog 16 #[v, .int .i64 k] w (fun e w' => e = .returned (.int .i64 (k + (pS (gr xss) xss.length : Int))) ∧ ObP b1 t1 b3 t3 B T w' v (mkSS k (gr xss) xss.length) ∧ ∃ lo hi, Within lo hi w w' ∧ B ≤ lo ∧ hi ≤ T ∧ (t1 ≤ lo ∨ hi ≤ b1) ∧ (hi ≤ b3 ∨ t3 ≤ lo)) := by
  cases h with
  | ss b2 t2 h a1 a2 a3 =>
    refine (c_markInt64SS h k hk hk').mono ?_
    rintro e w' ⟨rfl, o, n⟩
    exact ⟨rfl, .ss b2 t2 o a1 a2 a3, b2, t2, n, a1.1, a1.2, a2, a3⟩
  | one g m xs he h a1 a2 a3 =>
    subst he
    rw [pS_one] at hk' ⊢
    refine (c_markInt64SS_one h k hk hk').mono ?_
    rintro e w' ⟨rfl, o, n⟩
    exact ⟨rfl, .one g m _ (mkSS_one _ _) o a1 a2 a3, m, m + 1, n, a1.2.2.1, by omega, by omega, by omega⟩
end
structure OwnM (B T : Nat) (w : World) (v : Value) (m : Mdl) : Prop where
  ex : ∃ (n : Int) (vf vt vi vc vo va : Value) (b1 t1 b3 t3 : Nat), v = .agg #[.int .i64 n, vf, vt, vi, vc, .int .i64 m.u, vo, va] ∧ OwnC b1 t1 w (.agg #[.int .i64 n, vf, vt, vi, vc]) m.on ∧ ObP b1 t1 b3 t3 B T w vo m.ob ∧ OwnSS 2 22 b3 t3 w va m.ar ∧
    (B ≤ b1 ∧ t1 ≤ T ∧ B ≤ b3 ∧ t3 ≤ T) ∧ (t1 ≤ b3 ∨ t3 ≤ b1)
  n : I64 m.u
  top : T ≤ w.heap.size
  bt : B ≤ T
structure IM (w : World) (v : Value) (m : Mdl) : Prop where
  ex : ∃ (n : Int) (vf vt vi vc vo va : Value), v = .agg #[.int .i64 n, vf, vt, vi, vc, .int .i64 m.u, vo, va] ∧ IC w (.agg #[.int .i64 n, vf, vt, vi, vc]) m.on ∧ ISS w vo m.ob ∧ ISS w va m.ar
theorem OwnM.is {B T : Nat} {w : World} {v : Value} {m : Mdl} (h : OwnM B T w v m) : IM w v m := by
  obtain ⟨⟨n, vf, vt, vi, vc, vo, va, b1, t1, b3, t3, rfl, h1, h2, h3, -, -⟩, hn, htop, hbt⟩ := h
  exact ⟨⟨n, vf, vt, vi, vc, vo, va, rfl, h1.is, h2.is, h3.is⟩⟩
theorem IM.kept {w w' : World} {v : Value} {m : Mdl} (h : IM w v m) (hb : Below w.heap.size w w') : IM w' v m := by
  obtain ⟨⟨n, vf, vt, vi, vc, vo, va, rfl, h1, h2, h3⟩⟩ := h
  exact ⟨⟨n, vf, vt, vi, vc, vo, va, rfl, h1.kept hb, h2.kept hb, h3.kept hb⟩⟩
theorem OwnM.size {B T : Nat} {w : World} {v : Value} {m : Mdl} (h : OwnM B T w v m) : szm m ≤ 4000000000000 := by
  obtain ⟨⟨n, vf, vt, vi, vc, vo, va, b1, t1, b3, t3, rfl, h1, h2, h3, -, -⟩, hn, htop, hbt⟩ := h
  have := h1.size; have := h2.size; have := h3.size
  unfold szm; omega
theorem OwnM.kept {B T B' T' : Nat} {w w' : World} {v : Value} {m : Mdl} (h : OwnM B T w v m) (hb : Within B' T' w w') (hd : T ≤ B' ∨ T' ≤ B) : OwnM B T w' v m := by
  obtain ⟨⟨n, vf, vt, vi, vc, vo, va, b1, t1, b3, t3, rfl, h1, h2, h3, h4, h5⟩, hn, htop, hbt⟩ := h
  have hs := hb.size
  refine ⟨⟨n, vf, vt, vi, vc, vo, va, b1, t1, b3, t3, rfl, h1.kept hb ?_, h2.kept hb hd, h3.kept hb ?_, h4, h5⟩, hn, by omega, hbt⟩ <;> (clear h5; omega)
theorem OwnM.shape5 {B T : Nat} {w : World} {v : Value} {m : Mdl} (h : OwnM B T w v m) : ∃ n aF lF kF aT lT kT aI lI kI aC lC kC u aO lO kO aA lA kA, v = .agg #[.int .i64 n, .slice aF lF kF, .slice aT lT kT, .slice aI lI kI, .slice aC lC kC, .int .i64 u, .slice aO lO kO, .slice aA lA kA] := by
  obtain ⟨⟨n, vf, vt, vi, vc, vo, va, b1, t1, b3, t3, rfl, h1, h2, h3, -, -⟩, -⟩ := h
  obtain ⟨n', aF, lF, kF, aT, lT, kT, aI, lI, kI, aC, lC, kC, he⟩ := h1.shape5
  simp only [Value.agg.injEq, Array.mk.injEq, List.cons.injEq, and_true] at he
  obtain ⟨-, rfl, rfl, rfl, rfl⟩ := he
  obtain ⟨aO, lO, kO, rfl⟩ := h2.shape
  obtain ⟨aA, kA, rfl⟩ := h3.shape
  exact ⟨_, _, _, _, _, _, _, _, _, _, _, _, _, _, _, _, _, _, _, _, rfl⟩
def nilM : Mdl := ⟨nilC, 0, [], []⟩
theorem OwnSS.nil {E E' : TypeId} {B T : Nat} {w : World} : OwnSS E E' B T w (.slice none 0 0) [] := ⟨OF.nil, by simp, by simp [pS]⟩
/-- The end of a call with a monoidal category and a code for results. -/
def MkM (w : World) (r : Mdl × Int) : Ending → World → Prop := fun e w' => ∃ u, e = .returned (.tuple #[u, .int .i64 r.2]) ∧ OwnM w.heap.size w'.heap.size w' u r.1 ∧ Below w.heap.size w w'
theorem OwnM.nil {B : Nat} {w : World} (hB : B ≤ w.heap.size) : OwnM B w.heap.size w (.agg #[.int .i64 0, .slice none 0 0, .slice none 0 0, .slice none 0 0, .slice none 0 0, .int .i64 0, .slice none 0 0, .slice none 0 0]) nilM :=
  ⟨⟨0, _, _, _, _, _, _, B, w.heap.size, B, B, rfl, OwnC.nil hB, .ss B B OwnSS.nil (by omega) (by omega) (by omega), OwnSS.nil, by omega, by omega⟩, by simp [I64, nilM], Nat.le_refl _, hB⟩
theorem c_eqMonoidal_refl {w : World} {u v : Value} {m : Mdl} (hu : IM w u m) (hv : IM w v m) : Calls Try.prog 19 #[u, v] w (Ret w (.bool true)) := by
  obtain ⟨⟨n, vf, vt, vi, vc, vo, va, rfl, h1, h2, h3⟩⟩ := hu
  obtain ⟨⟨n', vf', vt', vi', vc', vo', va', rfl, h1', h2', h3'⟩⟩ := hv
  have hb : (m.u != m.u) = false := by simp
  have H1 := Lib.hid (fun W (hW : Below w.heap.size w W) => c_eqCategory_refl (h1.kept hW) (h1'.kept hW))
  have H2 := Lib.hid (fun W (hW : Below w.heap.size w W) => c_eqInt64SS_refl (h2.kept hW) (h2'.kept hW))
  have H3 := Lib.hid (fun W (hW : Below w.heap.size w W) => c_eqInt64SS_refl (h3.kept hW) (h3'.kept hW))
  have B0 := bel_alloc (bel_alloc (Below.refl w.heap.size w) (.cells #[.int .i64 n, vf, vt, vi, vc, .int .i64 m.u, vo, va] 37)) (.cells #[.int .i64 n', vf', vt', vi', vc', .int .i64 m.u, vo', va'] 37)
  have hz : w.heap.size < ((w.alloc (.cells #[.int .i64 n, vf, vt, vi, vc, .int .i64 m.u, vo, va] 37)).alloc (.cells #[.int .i64 n', vf', vt', vi', vc', .int .i64 m.u, vo', va'] 37)).heap.size := by simp; omega
  have x0 : ((w.alloc (.cells #[.int .i64 n, vf, vt, vi, vc, .int .i64 m.u, vo, va] 37)).alloc (.cells #[.int .i64 n', vf', vt', vi', vc', .int .i64 m.u, vo', va'] 37)).cell? ⟨w.heap.size, 0, none⟩ = some (.int .i64 n) := by simp
  have x1 : ((w.alloc (.cells #[.int .i64 n, vf, vt, vi, vc, .int .i64 m.u, vo, va] 37)).alloc (.cells #[.int .i64 n', vf', vt', vi', vc', .int .i64 m.u, vo', va'] 37)).cell? ⟨w.heap.size, 1, none⟩ = some (vf) := by simp
  have x2 : ((w.alloc (.cells #[.int .i64 n, vf, vt, vi, vc, .int .i64 m.u, vo, va] 37)).alloc (.cells #[.int .i64 n', vf', vt', vi', vc', .int .i64 m.u, vo', va'] 37)).cell? ⟨w.heap.size, 2, none⟩ = some (vt) := by simp
  have x3 : ((w.alloc (.cells #[.int .i64 n, vf, vt, vi, vc, .int .i64 m.u, vo, va] 37)).alloc (.cells #[.int .i64 n', vf', vt', vi', vc', .int .i64 m.u, vo', va'] 37)).cell? ⟨w.heap.size, 3, none⟩ = some (vi) := by simp
  have x4 : ((w.alloc (.cells #[.int .i64 n, vf, vt, vi, vc, .int .i64 m.u, vo, va] 37)).alloc (.cells #[.int .i64 n', vf', vt', vi', vc', .int .i64 m.u, vo', va'] 37)).cell? ⟨w.heap.size, 4, none⟩ = some (vc) := by simp
  have x5 : ((w.alloc (.cells #[.int .i64 n, vf, vt, vi, vc, .int .i64 m.u, vo, va] 37)).alloc (.cells #[.int .i64 n', vf', vt', vi', vc', .int .i64 m.u, vo', va'] 37)).cell? ⟨w.heap.size, 5, none⟩ = some (.int .i64 m.u) := by simp
  have x6 : ((w.alloc (.cells #[.int .i64 n, vf, vt, vi, vc, .int .i64 m.u, vo, va] 37)).alloc (.cells #[.int .i64 n', vf', vt', vi', vc', .int .i64 m.u, vo', va'] 37)).cell? ⟨w.heap.size, 6, none⟩ = some (vo) := by simp
  have x7 : ((w.alloc (.cells #[.int .i64 n, vf, vt, vi, vc, .int .i64 m.u, vo, va] 37)).alloc (.cells #[.int .i64 n', vf', vt', vi', vc', .int .i64 m.u, vo', va'] 37)).cell? ⟨w.heap.size, 7, none⟩ = some (va) := by simp
  have y0 : ((w.alloc (.cells #[.int .i64 n, vf, vt, vi, vc, .int .i64 m.u, vo, va] 37)).alloc (.cells #[.int .i64 n', vf', vt', vi', vc', .int .i64 m.u, vo', va'] 37)).cell? ⟨w.heap.size + 1, 0, none⟩ = some (.int .i64 n') := by simp
  have y1 : ((w.alloc (.cells #[.int .i64 n, vf, vt, vi, vc, .int .i64 m.u, vo, va] 37)).alloc (.cells #[.int .i64 n', vf', vt', vi', vc', .int .i64 m.u, vo', va'] 37)).cell? ⟨w.heap.size + 1, 1, none⟩ = some (vf') := by simp
  have y2 : ((w.alloc (.cells #[.int .i64 n, vf, vt, vi, vc, .int .i64 m.u, vo, va] 37)).alloc (.cells #[.int .i64 n', vf', vt', vi', vc', .int .i64 m.u, vo', va'] 37)).cell? ⟨w.heap.size + 1, 2, none⟩ = some (vt') := by simp
  have y3 : ((w.alloc (.cells #[.int .i64 n, vf, vt, vi, vc, .int .i64 m.u, vo, va] 37)).alloc (.cells #[.int .i64 n', vf', vt', vi', vc', .int .i64 m.u, vo', va'] 37)).cell? ⟨w.heap.size + 1, 3, none⟩ = some (vi') := by simp
  have y4 : ((w.alloc (.cells #[.int .i64 n, vf, vt, vi, vc, .int .i64 m.u, vo, va] 37)).alloc (.cells #[.int .i64 n', vf', vt', vi', vc', .int .i64 m.u, vo', va'] 37)).cell? ⟨w.heap.size + 1, 4, none⟩ = some (vc') := by simp
  have y5 : ((w.alloc (.cells #[.int .i64 n, vf, vt, vi, vc, .int .i64 m.u, vo, va] 37)).alloc (.cells #[.int .i64 n', vf', vt', vi', vc', .int .i64 m.u, vo', va'] 37)).cell? ⟨w.heap.size + 1, 5, none⟩ = some (.int .i64 m.u) := by simp
  have y6 : ((w.alloc (.cells #[.int .i64 n, vf, vt, vi, vc, .int .i64 m.u, vo, va] 37)).alloc (.cells #[.int .i64 n', vf', vt', vi', vc', .int .i64 m.u, vo', va'] 37)).cell? ⟨w.heap.size + 1, 6, none⟩ = some (vo') := by simp
  have y7 : ((w.alloc (.cells #[.int .i64 n, vf, vt, vi, vc, .int .i64 m.u, vo, va] 37)).alloc (.cells #[.int .i64 n', vf', vt', vi', vc', .int .i64 m.u, vo', va'] 37)).cell? ⟨w.heap.size + 1, 7, none⟩ = some (va') := by simp
  clear h1 h1' h2 h2' h3 h3'
  go_enter Try.func19, Try.ntmps19
  go_wp2_with fail
  generalize (w.alloc (.cells #[.int .i64 n, vf, vt, vi, vc, .int .i64 m.u, vo, va] 37)).alloc (.cells #[.int .i64 n', vf', vt', vi', vc', .int .i64 m.u, vo', va'] 37) = W0 at *
  refine (H1.out _ B0).mono ?_
  rintro e w1 ⟨rfl, b1⟩
  have B1 := bel_next B0 b1
  replace x0 := up_cell b1 x0
  replace x1 := up_cell b1 x1
  replace x2 := up_cell b1 x2
  replace x3 := up_cell b1 x3
  replace x4 := up_cell b1 x4
  replace x5 := up_cell b1 x5
  replace x6 := up_cell b1 x6
  replace x7 := up_cell b1 x7
  replace y0 := up_cell b1 y0
  replace y1 := up_cell b1 y1
  replace y2 := up_cell b1 y2
  replace y3 := up_cell b1 y3
  replace y4 := up_cell b1 y4
  replace y5 := up_cell b1 y5
  replace y6 := up_cell b1 y6
  replace y7 := up_cell b1 y7
  clear b1
  go_wp2_with fail
  refine (H2.out _ B1).mono ?_
  rintro e w2 ⟨rfl, n2, rfl⟩
  go_wp2_with fail
  refine (H3.out _ (B1.trans (Drawn.below (by repeat (first | exact Drawn.refl _ | refine Drawn.step ?_ _ | refine Drawn.one ?_)) _))).mono ?_
  rintro e w3 ⟨rfl, n3, rfl⟩
  go_wp2_with fail
  go_ret
  exact ⟨rfl, B1.trans (Drawn.below (by repeat (first | exact Drawn.refl _ | refine Drawn.step ?_ _ | refine Drawn.one ?_)) _)⟩
def mkM (k : Int) (m : Mdl) : Mdl := ⟨mkC k m.on, m.u, mkSS (k + szc m.on) (gr m.ob) m.ob.length, mkSS (k + szc m.on + pS (gr m.ob) m.ob.length) (gr m.ar) m.ar.length⟩
set_option maxHeartbeats 800000 in
theorem c_markMonoidal {B T : Nat} {w : World} {v : Value} {m : Mdl} (h : OwnM B T w v m) (k : Int) (hk : 0 ≤ k) (hk' : k + (szm m : Int) ≤ 4611686018427387904) :
    Calls Try.prog 20 #[v, .int .i64 k] w (fun e w' => e = .returned (.int .i64 (k + (szm m : Int))) ∧ OwnM B T w' v (mkM k m) ∧ Within B T w w') := by
  obtain ⟨⟨n, vf, vt, vi, vc, vo, va, b1, t1, b3, t3, rfl, h1, h2, h3, h4, h5⟩, hn, htop, hbt⟩ := h
  have HN := Lib.hid hn
  have bb := bel_box w (.cells #[.int .i64 n, vf, vt, vi, vc, .int .i64 m.u, vo, va] 37)
  have x0 : (w.alloc (.cells #[.int .i64 n, vf, vt, vi, vc, .int .i64 m.u, vo, va] 37)).cell? ⟨w.heap.size, 0, none⟩ = some (.int .i64 n) := by simp
  have x1 : (w.alloc (.cells #[.int .i64 n, vf, vt, vi, vc, .int .i64 m.u, vo, va] 37)).cell? ⟨w.heap.size, 1, none⟩ = some (vf) := by simp
  have x2 : (w.alloc (.cells #[.int .i64 n, vf, vt, vi, vc, .int .i64 m.u, vo, va] 37)).cell? ⟨w.heap.size, 2, none⟩ = some (vt) := by simp
  have x3 : (w.alloc (.cells #[.int .i64 n, vf, vt, vi, vc, .int .i64 m.u, vo, va] 37)).cell? ⟨w.heap.size, 3, none⟩ = some (vi) := by simp
  have x4 : (w.alloc (.cells #[.int .i64 n, vf, vt, vi, vc, .int .i64 m.u, vo, va] 37)).cell? ⟨w.heap.size, 4, none⟩ = some (vc) := by simp
  have x5 : (w.alloc (.cells #[.int .i64 n, vf, vt, vi, vc, .int .i64 m.u, vo, va] 37)).cell? ⟨w.heap.size, 5, none⟩ = some (.int .i64 m.u) := by simp
  have x6 : (w.alloc (.cells #[.int .i64 n, vf, vt, vi, vc, .int .i64 m.u, vo, va] 37)).cell? ⟨w.heap.size, 6, none⟩ = some (vo) := by simp
  have x7 : (w.alloc (.cells #[.int .i64 n, vf, vt, vi, vc, .int .i64 m.u, vo, va] 37)).cell? ⟨w.heap.size, 7, none⟩ = some (va) := by simp
  have M0 := (below_within bb B).mono (Nat.le_refl _) (show B ≤ T by omega)
  have hsz : (szm m : Int) = szc m.on + pS (gr m.ob) m.ob.length + pS (gr m.ar) m.ar.length := by unfold szm; omega
  have HSZ := Lib.hid hsz
  have o1 := h1.kept (below_within bb w.heap.size) (by omega)
  have o2 := h2.kept (below_within bb w.heap.size) (by omega)
  have o3 := h3.kept (below_within bb w.heap.size) (by omega)
  have e1 : IntKind.i64.wrap 0 = 0 := rfl
  rw [hsz] at hk'
  clear hn hsz bb h1 h2 h3 e1
  go_enter Try.func20, Try.ntmps20
  go_wp2_with fail
  generalize w.alloc (.cells #[.int .i64 n, vf, vt, vi, vc, .int .i64 m.u, vo, va] 37) = W0 at *
  refine (c_markCategory o1 k hk (by omega)).mono ?_
  rintro e W1 ⟨rfl, p1, m1⟩
  replace o2 := o2.kept1 m1
  replace o3 := o3.kept m1 (by omega)
  replace x0 := within_cell m1 x0 (by omega)
  replace x1 := within_cell m1 x1 (by omega)
  replace x2 := within_cell m1 x2 (by omega)
  replace x3 := within_cell m1 x3 (by omega)
  replace x4 := within_cell m1 x4 (by omega)
  replace x5 := within_cell m1 x5 (by omega)
  replace x6 := within_cell m1 x6 (by omega)
  replace x7 := within_cell m1 x7 (by omega)
  have M1 := M0.trans (m1.mono (by omega) (by omega))
  clear M0 m1 o1
  go_wp2_with fail
  refine (c_markOb o2 _ (by omega) (by omega)).mono ?_
  rintro e W2 ⟨rfl, p2, lo, hi, m1, l1, l2, l3, l4⟩
  replace p1 := p1.kept m1 l3
  replace o3 := o3.kept m1 (by omega)
  replace x0 := within_cell m1 x0 (by omega)
  replace x1 := within_cell m1 x1 (by omega)
  replace x2 := within_cell m1 x2 (by omega)
  replace x3 := within_cell m1 x3 (by omega)
  replace x4 := within_cell m1 x4 (by omega)
  replace x5 := within_cell m1 x5 (by omega)
  replace x6 := within_cell m1 x6 (by omega)
  replace x7 := within_cell m1 x7 (by omega)
  have M2 := M1.trans (m1.mono l1 l2)
  clear M1 m1 o2 l1 l2 l3 l4
  go_wp2_with fail
  refine (c_markInt64SS o3 _ (by omega) (by omega)).mono ?_
  rintro e W3 ⟨rfl, p3, m1⟩
  replace p1 := p1.kept m1 (by omega)
  replace p2 := p2.kept3 m1
  have M3 := M2.trans (m1.mono (by omega) (by omega))
  have ht4 := M3.size
  clear M2 m1 o3
  go_wp2_with fail
  go_ret
  exact ⟨ret_i (by rw [HSZ.out]; omega), ⟨⟨n, vf, vt, vi, vc, vo, va, b1, t1, b3, t3, rfl, p1, p2, p3, h4, h5⟩, HN.out, by omega, hbt⟩, M3⟩
set_option maxHeartbeats 800000 in
theorem c_heldMonoidal {w : World} {v : Value} {k : Int} {m : Mdl} (h : IM w v (mkM k m)) (hk : 0 ≤ k) (hk' : k + (szm m : Int) ≤ 4611686018427387904) :
    Calls Try.prog 21 #[v, .int .i64 k] w (Ret w (.int .i64 (k + (szm m : Int)))) := by
  obtain ⟨⟨n, vf, vt, vi, vc, vo, va, rfl, h1, h2, h3⟩⟩ := h
  have hsz : (szm m : Int) = szc m.on + pS (gr m.ob) m.ob.length + pS (gr m.ar) m.ar.length := by unfold szm; omega
  have HSZ := Lib.hid hsz
  rw [hsz] at hk'
  have H1 := Lib.hid (fun W (hW : Below w.heap.size w W) => c_heldCategory (h1.kept hW) hk (by omega))
  have H2 := Lib.hid (fun W (hW : Below w.heap.size w W) => c_heldInt64SS (h2.kept hW) (by omega) (by omega))
  have H3 := Lib.hid (fun W (hW : Below w.heap.size w W) => c_heldInt64SS (h3.kept hW) (by omega) (by omega))
  have bl1 : decide (k + (szc m.on : Int) < 0) = false := by simp; omega
  have bl2 : decide (k + (szc m.on : Int) + (pS (gr m.ob) m.ob.length : Int) < 0) = false := by simp; omega
  have bl3 : decide (k + (szc m.on : Int) + (pS (gr m.ob) m.ob.length : Int) + (pS (gr m.ar) m.ar.length : Int) < 0) = false := by simp; omega
  have B0 := bel_box w (.cells #[.int .i64 n, vf, vt, vi, vc, .int .i64 (mkM k m).u, vo, va] 37)
  have x0 : (w.alloc (.cells #[.int .i64 n, vf, vt, vi, vc, .int .i64 (mkM k m).u, vo, va] 37)).cell? ⟨w.heap.size, 0, none⟩ = some (.int .i64 n) := by simp
  have x1 : (w.alloc (.cells #[.int .i64 n, vf, vt, vi, vc, .int .i64 (mkM k m).u, vo, va] 37)).cell? ⟨w.heap.size, 1, none⟩ = some (vf) := by simp
  have x2 : (w.alloc (.cells #[.int .i64 n, vf, vt, vi, vc, .int .i64 (mkM k m).u, vo, va] 37)).cell? ⟨w.heap.size, 2, none⟩ = some (vt) := by simp
  have x3 : (w.alloc (.cells #[.int .i64 n, vf, vt, vi, vc, .int .i64 (mkM k m).u, vo, va] 37)).cell? ⟨w.heap.size, 3, none⟩ = some (vi) := by simp
  have x4 : (w.alloc (.cells #[.int .i64 n, vf, vt, vi, vc, .int .i64 (mkM k m).u, vo, va] 37)).cell? ⟨w.heap.size, 4, none⟩ = some (vc) := by simp
  have x5 : (w.alloc (.cells #[.int .i64 n, vf, vt, vi, vc, .int .i64 (mkM k m).u, vo, va] 37)).cell? ⟨w.heap.size, 5, none⟩ = some (.int .i64 (mkM k m).u) := by simp
  have x6 : (w.alloc (.cells #[.int .i64 n, vf, vt, vi, vc, .int .i64 (mkM k m).u, vo, va] 37)).cell? ⟨w.heap.size, 6, none⟩ = some (vo) := by simp
  have x7 : (w.alloc (.cells #[.int .i64 n, vf, vt, vi, vc, .int .i64 (mkM k m).u, vo, va] 37)).cell? ⟨w.heap.size, 7, none⟩ = some (va) := by simp
  clear hsz h1 h2 h3
  go_enter Try.func21, Try.ntmps21
  go_wp2_with fail
  generalize w.alloc (.cells #[.int .i64 n, vf, vt, vi, vc, .int .i64 (mkM k m).u, vo, va] 37) = W0 at *
  refine (H1.out _ B0).mono ?_
  rintro e w1 ⟨rfl, b1⟩
  have B1 := bel_next B0 b1
  replace x0 := up_cell b1 x0
  replace x1 := up_cell b1 x1
  replace x2 := up_cell b1 x2
  replace x3 := up_cell b1 x3
  replace x4 := up_cell b1 x4
  replace x5 := up_cell b1 x5
  replace x6 := up_cell b1 x6
  replace x7 := up_cell b1 x7
  clear b1
  go_wp2_with fail
  refine (H2.out _ B1).mono ?_
  rintro e w2 ⟨rfl, n2, rfl⟩
  go_wp2_with fail
  refine (H3.out _ (B1.trans (Drawn.below (by repeat (first | exact Drawn.refl _ | refine Drawn.step ?_ _ | refine Drawn.one ?_)) _))).mono ?_
  rintro e w3 ⟨rfl, n3, rfl⟩
  go_wp2_with fail
  go_ret
  exact ⟨ret_i (by rw [HSZ.out]; omega), B1.trans (Drawn.below (by repeat (first | exact Drawn.refl _ | refine Drawn.step ?_ _ | refine Drawn.one ?_)) _)⟩
/-- Block b holds eight cells. -/
def Row8 (w : World) (b : Nat) (T : TypeId) : Prop := ∃ f, w.rowIs b T 8 f
theorem Row8.cell {w : World} {b i : Nat} {T : TypeId} (h : Row8 w b T) (hi : i < 8) : w.cell? ⟨b, i, none⟩ = some (cv w b i) := by
  obtain ⟨f, h⟩ := h
  unfold cv; rw [h.cell hi]; rfl
def RS8 (w : World) (b : Nat) (T : TypeId) (w' : World) : Prop := Below w.heap.size w w' ∧ w.heap.size ≤ b ∧ Row8 w' b T
theorem RS8.all {w w' : World} {b : Nat} {T : TypeId} (h : RS8 w b T w') : RS8 w b T w' ∧ w'.cell? ⟨b, 0, none⟩ = some (cv w' b 0) ∧ w'.cell? ⟨b, 1, none⟩ = some (cv w' b 1) ∧ w'.cell? ⟨b, 2, none⟩ = some (cv w' b 2) ∧ w'.cell? ⟨b, 3, none⟩ = some (cv w' b 3) ∧ w'.cell? ⟨b, 4, none⟩ = some (cv w' b 4) ∧ w'.cell? ⟨b, 5, none⟩ = some (cv w' b 5) ∧ w'.cell? ⟨b, 6, none⟩ = some (cv w' b 6) ∧ w'.cell? ⟨b, 7, none⟩ = some (cv w' b 7) ∧ w'.frozen? ⟨b, 0, none⟩ = false ∧ w'.frozen? ⟨b, 1, none⟩ = false ∧ w'.frozen? ⟨b, 2, none⟩ = false ∧ w'.frozen? ⟨b, 3, none⟩ = false ∧ w'.frozen? ⟨b, 4, none⟩ = false ∧ w'.frozen? ⟨b, 5, none⟩ = false ∧ w'.frozen? ⟨b, 6, none⟩ = false ∧ w'.frozen? ⟨b, 7, none⟩ = false := by
  obtain ⟨f, hf⟩ := h.2.2
  exact ⟨h, h.2.2.cell (by omega), h.2.2.cell (by omega), h.2.2.cell (by omega), h.2.2.cell (by omega), h.2.2.cell (by omega), h.2.2.cell (by omega), h.2.2.cell (by omega), h.2.2.cell (by omega), hf.frozen _, hf.frozen _, hf.frozen _, hf.frozen _, hf.frozen _, hf.frozen _, hf.frozen _, hf.frozen _⟩
theorem RS8.bel {w w' : World} {b : Nat} {T : TypeId} (h : RS8 w b T w') : Below w.heap.size w w' := h.1
theorem RS8.drew {w w' : World} {b : Nat} {T : TypeId} (h : RS8 w b T w') : RS8 w b T w'.drew := ⟨h.1.trans (Drawn.below (by repeat (first | exact Drawn.refl _ | refine Drawn.step ?_ _ | refine Drawn.one ?_)) _), h.2.1, h.2.2⟩
theorem RS8.un {w w' : World} {b : Nat} {T : TypeId} (h : RS8 w b T w'.drew) : RS8 w b T w' := ⟨h.1.trans ⟨rfl, rfl, rfl, Nat.le_refl _, fun _ _ => rfl⟩, h.2.1, h.2.2⟩
theorem RS8.alloc {w w' : World} {b : Nat} {T : TypeId} (h : RS8 w b T w') (o : Obj) : RS8 w b T (w'.alloc o) := by
  obtain ⟨h1, h2, f, hf⟩ := h
  exact ⟨bel_alloc h1 o, h2, f, hf.of_block (Below.heap_alloc _ _ _ hf.lt)⟩
theorem RS8.call {w w' w'' : World} {b : Nat} {T : TypeId} (h : RS8 w b T w') (hb : Below w'.heap.size w' w'') : RS8 w b T w'' := by
  obtain ⟨h1, h2, f, hf⟩ := h
  exact ⟨bel_next h1 hb, h2, f, hf.of_block (hb.block _ hf.lt)⟩
theorem RS8.drawn {w w' w'' : World} {b : Nat} {T : TypeId} (h : RS8 w b T w') (hd : Drawn w' w'') : RS8 w b T w'' := h.call (hd.below _)
theorem RS8.set {w w' : World} {b : Nat} {T : TypeId} (h : RS8 w b T w') (i : Nat) (v : Value) : RS8 w b T (w'.setCell ⟨b, i, none⟩ v) := by
  obtain ⟨h1, h2, f, hf⟩ := h
  exact ⟨h1.setCell h2 v, h2, _, hf.set i v⟩
theorem RS8.lt {w W : World} {b : Nat} {T : TypeId} (h : RS8 w b T W) : b < W.heap.size := by
  obtain ⟨-, -, f, hf⟩ := h
  exact hf.lt
theorem RS8.start {w : World} {T : TypeId} {a0 a1 a2 a3 a4 a5 a6 a7 : Value} : RS8 w w.heap.size T (w.alloc (.cells #[a0, a1, a2, a3, a4, a5, a6, a7] T)) :=
  ⟨bel_alloc (Below.refl _ _) _, Nat.le_refl _, _, World.rowIs_alloc w #[a0, a1, a2, a3, a4, a5, a6, a7] T (fun i => #[a0, a1, a2, a3, a4, a5, a6, a7].getD i undef) (fun i hi => by simp only [Array.getD, hi, dif_pos]; exact Array.getElem?_eq_getElem hi)⟩
theorem eight_rows (a0 a1 a2 a3 a4 a5 a6 a7 : Value) {f : Nat → Value} : ∀ i, i < #[a0, a1, a2, a3, a4, a5, a6, a7].size → #[a0, a1, a2, a3, a4, a5, a6, a7][i]? = some (if i = 7 then a7 else (if i = 6 then a6 else (if i = 5 then a5 else (if i = 4 then a4 else (if i = 3 then a3 else (if i = 2 then a2 else (if i = 1 then a1 else (if i = 0 then a0 else f i)))))))) := by
  intro i hi
  have : i = 0 ∨ i = 1 ∨ i = 2 ∨ i = 3 ∨ i = 4 ∨ i = 5 ∨ i = 6 ∨ i = 7 := by simp at hi; omega
  rcases this with rfl | rfl | rfl | rfl | rfl | rfl | rfl | rfl <;> rfl
def set8 (w : World) (b : Nat) (a0 a1 a2 a3 a4 a5 a6 a7 : Value) : World := ((((((((w.setCell ⟨b, 0, none⟩ a0).setCell ⟨b, 1, none⟩ a1).setCell ⟨b, 2, none⟩ a2).setCell ⟨b, 3, none⟩ a3).setCell ⟨b, 4, none⟩ a4).setCell ⟨b, 5, none⟩ a5).setCell ⟨b, 6, none⟩ a6).setCell ⟨b, 7, none⟩ a7)
theorem set8_size (w : World) (b : Nat) (a0 a1 a2 a3 a4 a5 a6 a7 : Value) : (set8 w b a0 a1 a2 a3 a4 a5 a6 a7).heap.size = w.heap.size := by simp [set8, World.setCell]
theorem set8_within (w : World) (b : Nat) (a0 a1 a2 a3 a4 a5 a6 a7 : Value) : Within b (b + 1) w (set8 w b a0 a1 a2 a3 a4 a5 a6 a7) :=
  (((((((((Within.refl b (b + 1) w).setCell (p := ⟨b, 0, none⟩) (by simp) (by simp) a0).setCell (p := ⟨b, 1, none⟩) (by simp) (by simp) a1).setCell (p := ⟨b, 2, none⟩) (by simp) (by simp) a2).setCell (p := ⟨b, 3, none⟩) (by simp) (by simp) a3).setCell (p := ⟨b, 4, none⟩) (by simp) (by simp) a4).setCell (p := ⟨b, 5, none⟩) (by simp) (by simp) a5).setCell (p := ⟨b, 6, none⟩) (by simp) (by simp) a6).setCell (p := ⟨b, 7, none⟩) (by simp) (by simp) a7)
theorem RS8.five {w W : World} {b : Nat} {T : TypeId} (h : RS8 w b T W) (a0 a1 a2 a3 a4 a5 a6 a7 : Value) : (set8 W b a0 a1 a2 a3 a4 a5 a6 a7).heap[b]? = some (.cells #[a0, a1, a2, a3, a4, a5, a6, a7] T (0, 0)) := by
  obtain ⟨-, -, f, hf⟩ := h
  exact rowIs_litR ((((((((hf.set 0 a0).set 1 a1).set 2 a2).set 3 a3).set 4 a4).set 5 a5).set 6 a6).set 7 a7) (eight_rows _ _ _ _ _ _ _ _)
theorem RS8.five_bel {w W : World} {b : Nat} {T : TypeId} (h : RS8 w b T W) (a0 a1 a2 a3 a4 a5 a6 a7 : Value) : Below w.heap.size w (set8 W b a0 a1 a2 a3 a4 a5 a6 a7) :=
  ((((((((h.1.setCell (p := ⟨b, 0, none⟩) h.2.1 a0).setCell (p := ⟨b, 1, none⟩) h.2.1 a1).setCell (p := ⟨b, 2, none⟩) h.2.1 a2).setCell (p := ⟨b, 3, none⟩) h.2.1 a3).setCell (p := ⟨b, 4, none⟩) h.2.1 a4).setCell (p := ⟨b, 5, none⟩) h.2.1 a5).setCell (p := ⟨b, 6, none⟩) h.2.1 a6).setCell (p := ⟨b, 7, none⟩) h.2.1 a7)
theorem mkM_nil8 {w W : World} {b : Nat} {T : TypeId} {r : Mdl × Int} {code : Int} (hR : RS8 w b T W) (hr : r = (nilM, code)) :
    MkM w r (.returned (.tuple #[.agg #[.int .i64 0, .slice none 0 0, .slice none 0 0, .slice none 0 0, .slice none 0 0, .int .i64 0, .slice none 0 0, .slice none 0 0], .int .i64 code])) (set8 W b (.int .i64 0) (.slice none 0 0) (.slice none 0 0) (.slice none 0 0) (.slice none 0 0) (.int .i64 0) (.slice none 0 0) (.slice none 0 0)) := by
  subst hr
  exact ⟨_, rfl, OwnM.nil (hR.five_bel _ _ _ _ _ _ _ _).size, hR.five_bel _ _ _ _ _ _ _ _⟩
/-- A category and two tables of the call's own are put into the result's cell. -/
theorem mkM_put {w W : World} {b b1 t1 b3 t3 : Nat} {T : TypeId} (hR : RS8 w b T W) {m : Mdl} (code : Int) {n : Int} {vf vt vi vc vo va : Value} (h1 : OwnC b1 t1 W (.agg #[.int .i64 n, vf, vt, vi, vc]) m.on) (h2 : ObP b1 t1 b3 t3 (b + 1) W.heap.size W vo m.ob) (h3 : OwnSS 2 22 b3 t3 W va m.ar)
    (hb : b < b1 ∧ b < b3 ∧ t1 ≤ W.heap.size ∧ t3 ≤ W.heap.size) (ha : t1 ≤ b3 ∨ t3 ≤ b1) (hu : I64 m.u) :
    MkM w (m, code) (.returned (.tuple #[.agg #[.int .i64 n, vf, vt, vi, vc, .int .i64 m.u, vo, va], .int .i64 code])) (set8 W b (.int .i64 n) vf vt vi vc (.int .i64 m.u) vo va) := by
  have hs := set8_size W b (.int .i64 n) vf vt vi vc (.int .i64 m.u) vo va
  have hw := set8_within W b (.int .i64 n) vf vt vi vc (.int .i64 m.u) vo va
  have hb2 := hR.2.1
  have hb3 := hR.1.size
  obtain ⟨l1, l3, k1, k3⟩ := hb
  have h2' := h2.kept hw (.inr (Nat.le_refl _))
  refine ⟨_, rfl, ⟨⟨n, vf, vt, vi, vc, vo, va, b1, t1, b3, t3, rfl, h1.kept hw (.inr (by omega)), ?_, h3.kept hw (.inr (by omega)), ?_, ha⟩, hu, Nat.le_refl _, ?_⟩, hR.five_bel _ _ _ _ _ _ _ _⟩
  · rw [hs]
    cases h2' with
    | ss b2 t2 h a1 a2 a3 => exact .ss b2 t2 h (by omega) a2 a3
    | one g mm xs he h a1 a2 a3 => exact .one g mm xs he h (by omega) a2 a3
  · omega
  · omega
theorem OwnS1.new {X : World} {g m : Nat} {xs : List Int} {c kc : Nat} (h : OwnT 2 m (m + 1) X (.slice (some ⟨m, 0, none⟩) xs.length kc) xs) (hg : X.heap.size = g) (hm : m < X.heap.size) : OwnS1 g m (X.alloc (.cells #[.slice (some ⟨m, 0, none⟩) xs.length kc] 22)) (.slice (some ⟨g, 0, none⟩) 1 c) xs := by
  subst hg
  exact ⟨⟨c, kc, rfl, by simp, h.up_alloc _⟩, by omega, by simp⟩
theorem OwnS1.call {g m : Nat} {w w' : World} {v : Value} {xs : List Int} (h : OwnS1 g m w v xs) (hb : Below w.heap.size w w') : OwnS1 g m w' v xs := by
  have hl := h.lt
  have hm : m < w.heap.size := by
    obtain ⟨⟨c, kc, rfl, hc, ho⟩, -⟩ := h
    exact (ho.own.lt m rfl).2
  exact h.kept (below_within hb w.heap.size) (.inl hl) (.inl hm)
theorem OwnS1.up_alloc {g m : Nat} {w : World} {v : Value} {xs : List Int} (h : OwnS1 g m w v xs) (o : Obj) : OwnS1 g m (w.alloc o) v xs := h.call (bel_alloc (Below.refl _ _) o)
theorem OwnS1.up_drew {g m : Nat} {w : World} {v : Value} {xs : List Int} (h : OwnS1 g m w v xs) : OwnS1 g m w.drew v xs := h.call (Drawn.below (Drawn.one (Drawn.refl w)) _)
/-- .. the objects' table one row, made of two blocks of its own. -/
theorem mkM_one {w W W2 w9 : World} {b b1 t1 b3 t3 g : Nat} {T : TypeId} {m : Mdl} {xs : List Int} (he : m.ob = [xs]) (hR : RS8 w b T W) (code : Int) {n : Int} {vf vt vi vc va : Value} {no ko : Nat} (h1 : OwnC b1 t1 W2 (.agg #[.int .i64 n, vf, vt, vi, vc]) m.on) (hb1 : Below W2.heap.size W2 W)
    (h2 : ∃ q, OwnS1 g q W (.slice (some ⟨g, 0, none⟩) no ko) xs ∧ b < q ∧ q < W.heap.size ∧ (q < b1 ∨ t1 ≤ q) ∧ (q < b3 ∨ t3 ≤ q))
    (h3 : OF 2 22 b3 t3 w9 va m.ar.length (gr m.ar)) (hb3 : Below w9.heap.size w9 W) (hl : m.ar.length ≤ 1048576 ∧ pS (gr m.ar) m.ar.length ≤ 1099511627776)
    (hb : b < b1 ∧ b < b3 ∧ t1 ≤ W.heap.size ∧ t3 ≤ W.heap.size ∧ b < g ∧ g < W.heap.size) (ha : t1 ≤ b3 ∨ t3 ≤ b1) (hg : (g < b1 ∨ t1 ≤ g) ∧ (g < b3 ∨ t3 ≤ g)) (hu : I64 m.u) :
    MkM w (m, code) (.returned (.tuple #[.agg #[.int .i64 n, vf, vt, vi, vc, .int .i64 m.u, .slice (some ⟨g, 0, none⟩) no ko, va], .int .i64 code])) (set8 W b (.int .i64 n) vf vt vi vc (.int .i64 m.u) (.slice (some ⟨g, 0, none⟩) no ko) va) := by
  obtain ⟨q, hq, q1, q2, q3, q4⟩ := h2
  refine mkM_put hR code (h1.keptB hb1) (.one g q xs he hq ?_ ⟨hg.1, q3⟩ ⟨hg.2, q4⟩) ⟨h3.keptB hb3, hl.1, hl.2⟩ ?_ ha hu
  · clear hg ha q3 q4; omega
  · clear hg ha q3 q4; omega
end Go.Proofs.Ytmigbcadldkmfaa
