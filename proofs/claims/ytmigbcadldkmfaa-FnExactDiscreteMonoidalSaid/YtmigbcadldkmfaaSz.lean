/-
  Slices of slices that came in: RawISS, the size guards szInt64S, szInt64SS, and the copies that the law makes.
-/
import Derived.Test.YtmigbcadldkmfaaFrame
import Derived.Test.YtmigbcadldkmfaaSS
import Derived.Deep.Matrix
namespace Go.Proofs.Ytmigbcadldkmfaa
open Go.ChangeShapes Go.WideShapes Go.ChangeAt Go.RowKit Go.Deep

/-- A slice of slices of int64 that came in. -/
def RawISS (w : World) (v : Value) : Prop := ∃ (ao : Option Addr) (len cap b o : Nat) (V : Nat → Value), v = .slice ao len cap ∧ len ≤ 9223372036854775807 ∧ (0 < len → ao = some ⟨b, o, none⟩) ∧ (∀ i, i < len → w.cell? ⟨b, o + i, none⟩ = some (V i)) ∧ ∀ i, i < len → RawI w (V i)
section
variable {H : Type} {enc : TypeId × Value → H} {w : World} {base : Nat} {spare : Nat → Bool} {held : Bool}
theorem rawISS_trod {W : World} {a : Option Addr} {len cap : Nat} {fuel : Nat} {x : DataW H × List MemPlace}
    (h : DataW.trod enc Try.prog W 0 (fun _ => true) held fuel 23 (Value.slice a len cap).cells.toList = some x) : RawISS W (.slice a len cap) := by
  rcases open_int_rows Try.underlying23 Try.underlying22 Try.underlying2 (by kernel_rfl) (by kernel_rfl) h with ⟨hcs, _⟩ | ⟨x, l, c, A, L, C, Z, hcs, _, hl, hm, _, hr⟩
  · simp [Value.cells] at hcs
    obtain ⟨rfl, rfl, rfl⟩ := hcs
    exact ⟨none, 0, 0, 0, 0, fun _ => undef, rfl, by omega, fun h => by omega, fun i h => by omega, fun i h => by omega⟩
  · simp [Value.cells] at hcs
    obtain ⟨rfl, rfl, rfl⟩ := hcs
    have hrow : ∀ r, r < cap → RawI W (.slice (A r) (L r) (C r)) := by
      intro r hr0
      obtain ⟨_, h1, h2, h3, h4, h5, h6⟩ := hr r hr0
      cases hA : A r with
      | none =>
        have hc := h5 hA
        have hl0 : L r = 0 := by omega
        rw [hc, hl0]; exact rawI_none
      | some a' =>
        exact rawI_some h1 h2 h3 (fun i hi => (h6 a' hA).2 i (by rw [← h3]; exact hi)) h4
    have hml : len ≤ 9223372036854775807 := by unfold maxLen at hm; omega
    by_cases hp : 0 < len
    · obtain ⟨b, o, rfl, hc⟩ := cells_at (V := fun r => .slice (A r) (L r) (C r)) (fun r hr0 => (hr r hr0).1) (show 0 < cap by omega)
      exact ⟨_, len, cap, b, o, fun r => .slice (A r) (L r) (C r), rfl, hml, fun _ => rfl, fun i hi => hc i (by omega), fun i hi => hrow i (by omega)⟩
    · exact ⟨_, len, cap, 0, 0, fun _ => undef, rfl, hml, fun h => absurd h hp, fun i h => by omega, fun i h => by omega⟩
end
/-- A slice of slices that is not long. -/
structure BSS (w : World) (v : Value) (xss : List (List Int)) : Prop where
  is : ISS w v xss
  len : xss.length ≤ 1048576
  size : pS (gr xss) xss.length ≤ 1048576
theorem BSS.kept {w w' : World} {v : Value} {xss : List (List Int)} (h : BSS w v xss) (hb : Below w.heap.size w w') : BSS w' v xss := ⟨h.is.kept hb, h.len, h.size⟩
theorem c_szInt64S {w0 w : World} {v : Value} (h : RawI w0 v) (left : Int) (h0 : 0 ≤ left) (h1 : left ≤ 1048576) :
    Calls Try.prog 31 #[v, .int .i64 left] w (fun e w' => ∃ k, e = .returned (.int .i64 k) ∧ Drawn w w' ∧ (k < 0 ∨ (0 ≤ k ∧ k ≤ left ∧ ∃ xs : List Int, IS w0 v xs ∧ xs.length + k = left))) := by
  obtain ⟨ao, len, cap, rfl, hl, hx⟩ := h
  have HX := Lib.hid hx
  clear hx
  have hw : IntKind.i64.wrap (left - (len : Int)) = left - (len : Int) := IntWalk.i64_in _ (by omega)
  by_cases h : left < len
  · have hb : decide (left - (len : Int) < 0) = true := by simp; omega
    go_enter Try.func31, Try.ntmps31
    go_wp2_with fail
    go_ret
    exact ⟨-1, rfl, (by repeat (first | exact Drawn.refl _ | refine Drawn.step ?_ _ | refine Drawn.one ?_)), .inl (by omega)⟩
  · have hb : decide (left - (len : Int) < 0) = false := by simp; omega
    go_enter Try.func31, Try.ntmps31
    go_wp2_with fail
    go_ret
    refine ⟨left - len, rfl, (by repeat (first | exact Drawn.refl _ | refine Drawn.step ?_ _ | refine Drawn.one ?_)), .inr ⟨by omega, by omega, ?_⟩⟩
    obtain ⟨xs, e, hi⟩ := HX.out (by omega)
    exact ⟨xs, hi, by omega⟩
theorem c_szInt64SS {w0 w : World} {v : Value} (h : RawISS w0 v) (hbd : Below w0.heap.size w0 w) (left : Int) (h0 : 0 ≤ left) (h1 : left ≤ 1048576) :
    Calls Try.prog 11 #[v, .int .i64 left] w (fun e w' => ∃ k, e = .returned (.int .i64 k) ∧ Drawn w w' ∧ (k < 0 ∨ (0 ≤ k ∧ k ≤ left ∧ ∃ xss, BSS w0 v xss))) := by
  obtain ⟨ao, len, cap, b, o, V, rfl, hl, ha, hc, hr⟩ := h
  have HR := Lib.hid hr
  clear hr
  have hw : IntKind.i64.wrap (left - (len : Int)) = left - (len : Int) := IntWalk.i64_in _ (by omega)
  by_cases h : left < len
  · have hb : decide (left - (len : Int) < 0) = true := by simp; omega
    go_enter Try.func11, Try.ntmps11
    go_wp2_with fail
    go_ret
    exact ⟨-1, rfl, (by repeat (first | exact Drawn.refl _ | refine Drawn.step ?_ _ | refine Drawn.one ?_)), .inl (by omega)⟩
  · have hb : decide (left - (len : Int) < 0) = false := by simp; omega
    go_enter Try.func11, Try.ntmps11
    go_wp2_with fail
    go_loopw [1, 5] (fun lv i wr => ∃ (k : Nat) (q : Int) (xss : List (List Int)), k ≤ len ∧ i = .int .i64 k ∧ lv = .int .i64 q ∧ 0 ≤ q ∧ q ≤ left - len ∧ Drawn w wr ∧ Hid (xss.length = k ∧ (pS (gr xss) k : Int) + q = left - len ∧ ∀ i, i < k → IS w0 (V i) (gr xss i))) (fun _ i _ => len - (intOf i).toNat)
    case atStart => exact ⟨0, left - len, [], Nat.zero_le _, rfl, rfl, by omega, by omega, (by repeat (first | exact Drawn.refl _ | refine Drawn.step ?_ _ | refine Drawn.one ?_)), rfl, by simp [pS], fun i hi => by omega⟩
    case round =>
      obtain ⟨k, q, xss, hk, rfl, rfl, hq0, hq1, hdr, hp⟩ := hrel
      by_cases hlt : k < len
      · obtain rfl := ha (by omega)
        have cx := IS.cellAt (hbd.trans (hdr.below _)) (hc k hlt) rfl
        go_wp2_with fail
        refine (c_szInt64S (HR.out k hlt) q hq0 (by omega)).mono ?_
        rintro e w2 ⟨k2, rfl, d2, hk2⟩
        have hdr2 : Drawn w w2 := drawn_trans hdr d2
        clear d2 cx
        rcases hk2 with hneg | ⟨hp0, hpl, hex⟩
        · have hnb : decide (k2 < 0) = true := by simp [hneg]
          go_wp2_with fail
          go_ret
          exact ⟨-1, rfl, hdr2, .inl (by omega)⟩
        · have hnb : decide (k2 < 0) = false := by simp; omega
          have HEX := Lib.hid hex
          clear hex
          go_wp2_with fail
          go_roundw
          case rel =>
            obtain ⟨xs, hI, hle⟩ := HEX.out
            obtain ⟨e1, e2, e3⟩ := hp.out
            have hgr : ∀ i, i < k → gr (xss ++ [xs]) i = gr xss i := fun i hi => by
              rw [gr_lt (by simp; omega), gr_lt (by omega), List.getElem_append_left (by omega)]
            have hgk : gr (xss ++ [xs]) k = xs := by rw [gr_lt (by simp; omega)]; simp [← e1]
            refine ⟨k + 1, k2, xss ++ [xs], by omega, by go_num, rfl, hp0, by omega, hdr2, by simp [e1], ?_, fun i hi => ?_⟩
            · have hps : ∀ i, i ≤ k → pS (gr (xss ++ [xs])) i = pS (gr xss) i := by
                intro i
                induction i with
                | zero => intro _; rfl
                | succ i ih => intro hi; simp only [pS]; rw [ih (by omega), hgr i (by omega)]
              simp only [pS]
              rw [hps k (Nat.le_refl _), hgk]
              omega
            · by_cases e : i < k
              · rw [hgr i e]; exact e3 i e
              · have : i = k := by omega
                subst this
                rw [hgk]; exact hI
          case measure => simp [intOf]; omega
      · have hke : len = k := by omega
        subst hke
        go_wp2_with fail
        go_ret
        refine ⟨q, rfl, hdr, .inr ⟨hq0, by omega, xss, ?_⟩⟩
        obtain ⟨e1, e2, e3⟩ := hp.out
        subst e1
        exact ⟨⟨⟨ao, b, o, cap, V, rfl, ha, hc, e3⟩, by omega⟩, by omega, by omega⟩
theorem c_toInt64SS {w : World} {v : Value} {xss : List (List Int)} (h : BSS w v xss) : Calls Try.prog 13 #[v] w (Mk w fun w' u => OwnSS 2 22 w.heap.size w'.heap.size w' u xss) := by
  refine (d_toInt64SS h.is).mono ?_
  rintro e w' ⟨u, rfl, o, b⟩
  exact ⟨u, rfl, ⟨o, h.len, by have := h.size; omega⟩, b⟩
end Go.Proofs.Ytmigbcadldkmfaa
