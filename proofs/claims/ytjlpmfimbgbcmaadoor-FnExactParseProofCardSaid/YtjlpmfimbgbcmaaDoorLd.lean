/-
  longDigits: the program's reading of a number.
-/
import Derived.Test.YtjlpmfimbgbcmaaDoorShl
import Derived.Test.YtjlpmfimbgbcmaaDoorDgv
import Derived.Shelf.LaysC
import Derived.Shelf.LaysM
import Derived.Shelf.Strconv.ErrVarParseInt
import Derived.Shelf.Strconv.Itoa4
import Derived.Lib.AppendIntMem
namespace Go.Proofs.YtjlpmfimbgbcmaaDoor
open Go.RowKit Go.Shelf
shelf_lay LaysC.n174 Nm 174 at Tryd as laysC174
shelf_lay LaysM.n173 Nm 173 at Tryd as laysM173

/-- What the program's package variables hold. -/
structure PE (W : World) : Prop where
  syn : ∃ tp p, W.var? Tryd.prog "strconv.ErrSyntax" = some #[.iface tp p]
  rng : ∃ tp p, W.var? Tryd.prog "strconv.ErrRange" = some #[.iface tp p]
  tab : Lib.TabIs Tryd.prog W "internal/strconv.uint64pow10" .u64 Lib.pow10Tab

theorem var_keep {W W' : World} {n : String} {cs : Array Value} (h : W.var? Tryd.prog n = some cs) (hb : Below W.heap.size W W') : W'.var? Tryd.prog n = some cs := by
  unfold World.var? at *
  cases hg : Tryd.prog.globalNamed n with
  | none => rw [hg] at h; cases h
  | some g =>
    rw [hg] at h
    simp only [Option.bind_some] at *
    by_cases hl : g < W.heap.size
    · rw [hb.block g hl]; exact h
    · rw [Array.getElem?_eq_none (by omega)] at h; cases h
theorem PE.keep {W W' : World} (h : PE W) (hb : Below W.heap.size W W') : PE W' := by
  obtain ⟨⟨t1, p1, h1⟩, ⟨t2, p2, h2⟩, h3⟩ := h
  exact ⟨⟨t1, p1, var_keep h1 hb⟩, ⟨t2, p2, var_keep h2 hb⟩, by unfold Lib.TabIs at *; exact var_keep h3 hb⟩

theorem c_ParseInt {s : ByteArray} (hs : s.size ≤ 281474976710656) {w : World} (hp : PE w) :
    Calls Tryd.prog 77 #[.string s, .int .i64 10, .int .i64 64] w (fun e w' => ∃ (v : Int) (r : Value), e = .returned (.tuple #[.int .i64 v, r]) ∧ Below w.heap.size w w' ∧
      ((r = .nilIface ∧ Lib.parseIntB 64 s.data.toList = .ok v) ∨ ((∃ t p, r = .iface t (.pointer (some p))) ∧ ∀ v, Lib.parseIntB 64 s.data.toList ≠ .ok v))) := by
  obtain ⟨⟨t1, p1, h1⟩, ⟨t2, p2, h2⟩, -⟩ := hp
  cases h : Lib.parseIntB 64 s.data.toList with
  | ok v =>
    refine (Any.strconv_ParseInt_10_at64_ok laysC174 s (by omega) v h w).mono fun e w' ⟨he, hw⟩ => ⟨v, _, he, ?_, .inl ⟨rfl, rfl⟩⟩
    rcases hw with rfl | ⟨t, rfl⟩
    · exact Below.refl _ _
    · exact Lib.bytesWorld_below _ _ _
  | «syntax» =>
    refine (Any.strconv_ParseInt_10_at64_syntax_var laysC174 s hs h t1 p1 w h1).mono fun e w' ⟨N, he, _, _, hb⟩ => ⟨_, _, he, hb, .inr ⟨⟨_, _, rfl⟩, fun v e => by cases e⟩⟩
  | range =>
    refine (Any.strconv_ParseInt_10_at64_range_var laysC174 s hs h t2 p2 w h2).mono fun e w' ⟨N, he, _, _, hb⟩ => ⟨_, _, he, hb, .inr ⟨⟨_, _, rfl⟩, fun v e => by cases e⟩⟩

theorem c_FormatInt10 {n : Int} (h0 : -9223372036854775808 ≤ n) (h1 : n ≤ 9223372036854775807) {w : World} (hp : PE w) :
    Calls Tryd.prog 71 #[.int .i64 n, .int .i64 10] w (fun e w' => e = .returned (.string ⟨(Lib.itoa n).toArray⟩) ∧ Below w.heap.size w w') := by
  refine (Any.strconv_FormatInt_10 laysM173 n h0 h1 w hp.tab).mono fun e w' ⟨he, k, os, hw⟩ => ⟨he, ?_⟩
  rw [hw]
  exact Lib.below_grow _ _ (Nat.le_refl _) _ _

set_option maxRecDepth 100000 in
theorem c_longDigits {s : ByteArray} (hs : s.size ≤ 281474976710656) {w : World} (hp : PE w) :
    Calls Tryd.prog 57 #[.string s] w (fun e w' => ∃ v : Int, e = .returned (.tuple #[.int .i64 v, .bool (decide (0 ≤ val s))]) ∧ (0 ≤ val s → v = val s) ∧ Below w.heap.size w w') := by
  have HP := Lib.hid (c_ParseInt hs hp)
  obtain ⟨d, hd⟩ : ∃ d, d = decide (0 ≤ val s) := ⟨_, rfl⟩
  obtain ⟨V, hV⟩ : ∃ V, V = val s := ⟨_, rfl⟩
  rw [← hd, ← hV]
  have HV := Lib.hid (And.intro hd hV)
  clear hd hV
  go_enter Tryd.func57, Tryd.ntmps57
  go_wp2_with fail
  refine HP.out.mono ?_
  rintro e w1 ⟨v, r, rfl, hb1, h⟩
  rcases h with ⟨rfl, hk⟩ | ⟨⟨t, p, rfl⟩, hk⟩
  · have hv := Lib.atoiAll_bounds (by rw [← Lib.parseIntB_64]; exact hk)
    go_wp2_with fail
    · rename_i h9
      refine (c_FormatInt10 hv.1 hv.2 (hp.keep hb1)).mono ?_
      rintro e w2 ⟨rfl, hb2⟩
      have hb := hb1.trans (hb2.mono hb1.size)
      have hD : (decide ((⟨(Lib.itoa v).toArray⟩ : ByteArray) = s) && decide (0 ≤ v)) = d ∧ (0 ≤ V → v = V) := by
        obtain ⟨hd, hV⟩ := HV.out
        rw [hd, hV]
        by_cases h : 0 ≤ val s
        · obtain ⟨p1, p2, p3⟩ := val_parse h
          obtain rfl : val s = v := by rw [p1] at hk; injection hk
          exact ⟨by simp [p3, h], fun _ => rfl⟩
        · refine ⟨?_, fun h' => absurd h' h⟩
          rw [decide_eq_false h, Bool.and_eq_false_iff]
          by_cases he : (⟨(Lib.itoa v).toArray⟩ : ByteArray) = s
          · right
            exact decide_eq_false fun h0 => h (by rw [parse_val (by omega) he h0]; exact h0)
          · left; exact decide_eq_false he
      clear hk
      obtain ⟨u, hu⟩ : ∃ u : ByteArray, u = ⟨(Lib.itoa v).toArray⟩ := ⟨_, rfl⟩
      rw [← hu] at hD ⊢
      clear hu
      by_cases he : u = s
      · subst he
        have HD := Lib.hid hD
        clear hD
        go_wp2_with fail
        go_ret2
        exact ⟨v, by rw [← HD.out.1]; simp, HD.out.2, hb⟩
      · have hl : ¬ u.toList = s.toList := fun e => he (Go.WideShapes.bytes_inj (by rw [← ByteArray.toList_eq, ← ByteArray.toList_eq, e]))
        have hl2 : (u.toList == s.toList) = false := beq_eq_false_iff_ne.2 hl
        have hd0 : d = false := by rw [← hD.1]; simp [he]
        have HD := Lib.hid (And.intro hD hd0)
        clear hD hd0
        go_wp2_with fail
        go_ret2
        exact ⟨v, by rw [HD.out.2]; rfl, HD.out.1.2, hb⟩
    · rename_i h9
      obtain ⟨hd, hV⟩ := HV.out
      have hn : ¬ 0 ≤ V := fun h => by rw [hV] at h; have := (val_parse h).2.1; omega
      have hd0 : d = false := by rw [hd, ← hV, decide_eq_false hn]
      go_ret2
      exact ⟨v, by rw [hd0]; rfl, fun h => absurd h hn, hb1⟩
  · have HN := Lib.hid (show d = false ∧ ¬ 0 ≤ V by
      obtain ⟨hd, hV⟩ := HV.out
      have hn : ¬ 0 ≤ V := fun h => by rw [hV] at h; exact hk _ (val_parse h).1
      exact ⟨by rw [hd, ← hV, decide_eq_false hn], hn⟩)
    go_wp2_with fail
    go_ret2
    exact ⟨v, by rw [HN.out.1]; rfl, fun h => absurd h (by have := HN.out.2; omega), hb1⟩
end Go.Proofs.YtjlpmfimbgbcmaaDoor
