/-
  The law's helpers on slices of nodes: szNodeS, toNodeS, eqNodeS; a slice of nodes that came in.
-/
import Derived.Test.YtjlpmfimbgbcmaaDoorNode
import Derived.Test.YtjlpmfimbgbcmaaDoorSz
import Derived.Deep.Slices
import Derived.Deep.SlicePairs
import Derived.Laws.Rows
import Derived.StillTailTactics
namespace Go.Proofs.YtjlpmfimbgbcmaaDoor
open Go.ChangeShapes Go.WideShapes Go.ChangeAt Go.RowKit Go.Deep

section
variable {H : Type} {enc : TypeId × Value → H} {P : Program} {w : World} {base : Nat} {spare : Nat → Bool} {held : Bool}
/-- A slice whose elements are structs of three one-cell fields, opened at every index. -/
theorem open_slice3 {t e : TypeId} {f0 f1 f2 : Field} {fuel : Nat} {cs : List Value} {x : DataW H × List MemPlace} (ht : P.underlying t = some (.slice e)) (he : P.underlying e = some (.struct #[f0, f1, f2]))
    (ce : P.cellsOf e = 3) (o0 : f0.offset = 0) (o1 : f1.offset = 1) (o2 : f2.offset = 2) (c0 : P.cellsOf f0.type = 1) (c1 : P.cellsOf f1.type = 1) (c2 : P.cellsOf f2.type = 1)
    (h : DataW.trod enc P w base spare held fuel t cs = some x) :
    cs = [.slice none 0 0] ∨
    ∃ (a : Addr) (len cap m n : Nat), cs = [.slice (some a) len cap] ∧ len ≤ cap ∧ cap ≤ maxLen ∧ len ≤ m ∧
      ∀ i, i < m → ∃ (v0 v1 v2 : Value) (y0 y1 y2 : DataW H × List MemPlace), w.cell? (a.add (i * 3)) = some v0 ∧ w.cell? (a.add (i * 3 + 1)) = some v1 ∧ w.cell? (a.add (i * 3 + 2)) = some v2 ∧
        DataW.trod enc P w base spare held n f0.type [v0] = some y0 ∧ DataW.trod enc P w base spare held n f1.type [v1] = some y1 ∧ DataW.trod enc P w base spare held n f2.type [v2] = some y2 := by
  rcases open_slice ht h with h0 | ⟨a, len, cap, m, n, D, Pl, rfl, hb, hl, hm, hmm, rfl, hx⟩
  · exact Or.inl h0.1
  right
  have hlm : len ≤ m := by rw [hmm]; split <;> omega
  refine ⟨a, len, cap, m, n - 1, rfl, hl, hm, hlm, fun i hi => ?_⟩
  obtain ⟨cs', h1, h2⟩ := hx i hi
  rw [ce] at h1
  obtain ⟨_, hlen, hcell⟩ := World.cells?_some h1
  obtain ⟨xs, k, hk, hxy, _, hxl, hf⟩ := DataW.trod_struct he h2
  have hk' : k = n - 1 := by omega
  subst hk'
  match xs, hxl, cs', hlen with
  | [y0, y1, y2], _, [v0, v1, v2], _ =>
    have g0 := hf 0 f0 rfl
    have g1 := hf 1 f1 rfl
    have g2 := hf 2 f2 rfl
    simp [o0, o1, o2, c0, c1, c2] at g0 g1 g2
    have e0 := hcell 0 (by omega)
    have e1 := hcell 1 (by omega)
    have e2 := hcell 2 (by omega)
    rw [add_add] at e0 e1 e2
    exact ⟨v0, v1, v2, y0, y1, y2, by simpa using e0, by simpa using e1, by simpa using e2, g0, g1, g2⟩
end
/-- A slice of nodes that came in. -/
def RawN (w : World) (v : Value) : Prop := ∃ (ao : Option Addr) (len cap b o : Nat) (K S : Nat → Int) (A : Nat → Value), v = .slice ao len cap ∧ len ≤ 9223372036854775807 ∧ (0 < len → ao = some ⟨b, o, none⟩) ∧
  ∀ i, i < len → w.cell? ⟨b, o + i * 3, none⟩ = some (.int .i64 (K i)) ∧ w.cell? ⟨b, o + i * 3 + 1, none⟩ = some (.int .i64 (S i)) ∧ w.cell? ⟨b, o + i * 3 + 2, none⟩ = some (A i) ∧ I64 (K i) ∧ I64 (S i) ∧ RawI w (A i)
section
variable {H : Type} {enc : TypeId × Value → H} {w : World} {base : Nat} {spare : Nat → Bool} {held : Bool}
theorem rawI_csN {W : World} {v : Value} {fuel : Nat} {x : DataW H × List MemPlace} (h : DataW.trod enc Tryd.prog W 0 (fun _ => true) held fuel 42 [v] = some x) : RawI W v := by
  rcases open_slice Tryd.underlying42 h with ⟨hcs, _⟩ | ⟨a, len, cap, m, n, D, Pl, hcs, _⟩
  · simp only [List.cons.injEq, and_true] at hcs
    subst hcs
    exact rawI_none
  · simp only [List.cons.injEq, and_true] at hcs
    subst hcs
    exact rawI_trod (by simpa [Value.cells] using h)
theorem rawN_trod {W : World} {a : Option Addr} {len cap : Nat} {fuel : Nat} {x : DataW H × List MemPlace}
    (h : DataW.trod enc Tryd.prog W 0 (fun _ => true) held fuel 22 (Value.slice a len cap).cells.toList = some x) : RawN W (.slice a len cap) := by
  rcases open_slice3 Tryd.underlying22 Tryd.underlying44 (by kernel_rfl) rfl rfl rfl (by kernel_rfl) (by kernel_rfl) (by kernel_rfl) h with hcs | ⟨x, l, c, m, n, hcs, hl, hm, hlm, hr⟩
  · simp [Value.cells] at hcs
    obtain ⟨rfl, rfl, rfl⟩ := hcs
    exact ⟨none, 0, 0, 0, 0, fun _ => 0, fun _ => 0, fun _ => undef, rfl, by omega, fun h => by omega, fun i h => by omega⟩
  · simp [Value.cells] at hcs
    obtain ⟨rfl, rfl, rfl⟩ := hcs
    have hrow : ∀ i, ∃ q : Int × Int × Value, i < len → W.cell? (x.add (i * 3)) = some (.int .i64 q.1) ∧ W.cell? (x.add (i * 3 + 1)) = some (.int .i64 q.2.1) ∧ W.cell? (x.add (i * 3 + 2)) = some q.2.2 ∧ I64 q.1 ∧ I64 q.2.1 ∧ RawI W q.2.2 := by
      intro i
      by_cases hi : i < len
      · obtain ⟨v0, v1, v2, y0, y1, y2, e0, e1, e2, g0, g1, g2⟩ := hr i (by omega)
        obtain ⟨p, hp, -, wp⟩ := DataW.trod_int (k := .i64) Tryd.underlying2 g0
        obtain ⟨q, hq, -, wq⟩ := DataW.trod_int (k := .i64) Tryd.underlying2 g1
        simp only [List.cons.injEq, and_true] at hp hq
        subst hp hq
        exact ⟨(p, q, v2), fun _ => ⟨e0, e1, e2, wf_I64 wp, wf_I64 wq, rawI_csN g2⟩⟩
      · exact ⟨(0, 0, undef), fun h => absurd h hi⟩
    have hml : len ≤ 9223372036854775807 := by unfold maxLen at hm; omega
    by_cases hp : 0 < len
    · obtain ⟨b, o, rfl, hc⟩ := cells_at (w := W) (n := len * 3) (V := fun j => if j % 3 = 0 then .int .i64 (hrow (j / 3)).choose.1 else if j % 3 = 1 then .int .i64 (hrow (j / 3)).choose.2.1 else (hrow (j / 3)).choose.2.2) (fun j hj => by
        obtain ⟨e1, e2, e3, -⟩ := (hrow (j / 3)).choose_spec (by omega)
        by_cases h0 : j % 3 = 0
        · rw [if_pos h0, ← e1]; congr 2; omega
        · rw [if_neg h0]
          by_cases h1 : j % 3 = 1
          · rw [if_pos h1, ← e2]; congr 2; omega
          · rw [if_neg h1, ← e3]; congr 2; omega) (by omega)
      refine ⟨_, len, cap, b, o, fun i => (hrow i).choose.1, fun i => (hrow i).choose.2.1, fun i => (hrow i).choose.2.2, rfl, hml, fun _ => rfl, fun i hi => ?_⟩
      obtain ⟨-, -, -, g1, g2, g3⟩ := (hrow i).choose_spec hi
      have k0 := hc (i * 3) (by omega)
      have k1 := hc (i * 3 + 1) (by omega)
      have k2 := hc (i * 3 + 2) (by omega)
      rw [if_pos (by omega), show i * 3 / 3 = i from by omega] at k0
      rw [if_neg (by omega), if_pos (by omega), show (i * 3 + 1) / 3 = i from by omega] at k1
      rw [if_neg (by omega), if_neg (by omega), show (i * 3 + 2) / 3 = i from by omega] at k2
      exact ⟨k0, k1, k2, g1, g2, g3⟩
    · exact ⟨_, len, cap, 0, 0, fun _ => 0, fun _ => 0, fun _ => undef, rfl, hml, fun h => absurd h hp, fun i h => by omega⟩
end
theorem c_szNode {w0 w : World} {a b : Int} {v : Value} (h : RawI w0 v) (left : Int) (h0 : 0 ≤ left) (h1 : left ≤ 1048576) :
    Calls Tryd.prog 21 #[.agg #[.int .i64 a, .int .i64 b, v], .int .i64 left] w (fun e w' => ∃ k, e = .returned (.int .i64 k) ∧ Below w.heap.size w w' ∧ (k < 0 ∨ (0 ≤ k ∧ k ≤ left ∧ ∃ xs : List Int, IS w0 v xs ∧ xs.length + k = left))) := by
  go_enter Tryd.func21, Tryd.ntmps21
  go_wp2_with fail
  refine (c_szInt64S h left h0 h1).mono ?_
  rintro e w2 ⟨k, rfl, d2, hk⟩
  have B := (bel_alloc (Below.refl w.heap.size w) (.cells #[.int .i64 a, .int .i64 b, v] 44)).trans (d2.below _)
  rcases hk with hneg | ⟨hp0, hpl, hex⟩
  · have hnb : decide (k < 0) = true := by simp [hneg]
    go_wp2_with fail
    go_ret
    exact ⟨-1, rfl, B, .inl (by omega)⟩
  · have hnb : decide (k < 0) = false := by simp; omega
    have HEX := Lib.hid hex
    clear hex
    go_wp2_with fail
    go_ret
    exact ⟨k, rfl, B, .inr ⟨hp0, hpl, HEX.out⟩⟩
set_option maxHeartbeats 800000 in
theorem c_szNodeS {w0 w : World} {v : Value} (h : RawN w0 v) (hbd : Below w0.heap.size w0 w) (left : Int) (h0 : 0 ≤ left) (h1 : left ≤ 1048576) :
    Calls Tryd.prog 6 #[v, .int .i64 left] w (fun e w' => ∃ k, e = .returned (.int .i64 k) ∧ Below w.heap.size w w' ∧ (k < 0 ∨ (0 ≤ k ∧ k ≤ left ∧ ∃ d, INS w0 v d))) := by
  obtain ⟨ao, len, cap, b, o, K, S, A, rfl, hl, ha, hr⟩ := h
  have HR := Lib.hid hr
  clear hr
  have hw : IntKind.i64.wrap (left - (len : Int)) = left - (len : Int) := IntWalk.i64_in _ (by omega)
  by_cases h : left < len
  · have hb : decide (left - (len : Int) < 0) = true := by simp; omega
    go_enter Tryd.func6, Tryd.ntmps6
    go_wp2_with fail
    go_ret
    exact ⟨-1, rfl, Below.refl _ _, .inl (by omega)⟩
  · have hb : decide (left - (len : Int) < 0) = false := by simp; omega
    go_enter Tryd.func6, Tryd.ntmps6
    go_wp2_with fail
    go_loopw [1, 5] (fun lv i wr => ∃ (k : Nat) (q : Int) (d : List Nd), k ≤ len ∧ i = .int .i64 k ∧ lv = .int .i64 q ∧ 0 ≤ q ∧ q ≤ left - len ∧ Below w.heap.size w wr ∧ Hid (d.length = k ∧ ∀ i, i < k → (gn d i).kd = K i ∧ (gn d i).sy = S i ∧ IS w0 (A i) (gn d i).ag)) (fun _ i _ => len - (intOf i).toNat)
    case atStart => exact ⟨0, left - len, [], Nat.zero_le _, rfl, rfl, by omega, by omega, Below.refl _ _, rfl, fun i hi => by omega⟩
    case round =>
      obtain ⟨k, q, d, hk, rfl, rfl, hq0, hq1, hdr, hp⟩ := hrel
      by_cases hlt : k < len
      · obtain rfl := ha (by omega)
        obtain ⟨x0, x1, x2, i0, i1, RI⟩ := HR.out k hlt
        have B2 : Below w0.heap.size w0 wr := belN hbd hdr hbd.size
        have cx := upN B2 x0
        have cy := upN B2 x1
        have cz := upN B2 x2
        have RI2 := Lib.hid RI
        clear x0 x1 x2 RI
        go_wp2_with fail
        refine (c_szNode RI2.out q hq0 (by omega)).mono ?_
        rintro e w2 ⟨k2, rfl, b2, hk2⟩
        have hdr2 := belN hdr b2 hdr.size
        clear b2 cx cy cz
        rcases hk2 with hneg | ⟨hp0, hpl, hex⟩
        · have hnb : decide (k2 < 0) = true := by simp [hneg]
          go_wp2_with fail
          go_ret
          exact ⟨-1, rfl, hdr2, .inl (by omega)⟩
        · have hnb : decide (k2 < 0) = false := by simp; omega
          have HEX := Lib.hid hex
          clear hex
          go_wp2_with fail
          go_roundw
          case rel =>
            obtain ⟨xs, hI, hle⟩ := HEX.out
            obtain ⟨e1, e2⟩ := hp.out
            have hgk : gn (d ++ [⟨K k, S k, xs⟩]) k = ⟨K k, S k, xs⟩ := by rw [gn_lt (by simp; omega)]; simp [← e1]
            have hgi : ∀ i, i < k → gn (d ++ [⟨K k, S k, xs⟩]) i = gn d i := fun i hi => by
              rw [gn_lt (by simp; omega), gn_lt (by omega), List.getElem_append_left (by omega)]
            refine ⟨k + 1, k2, d ++ [⟨K k, S k, xs⟩], by omega, by go_num, rfl, hp0, by omega, hdr2, by simp [e1], fun i hi => ?_⟩
            by_cases e : i < k
            · rw [hgi i e]; exact e2 i e
            · have : i = k := by omega
              subst this
              rw [hgk]; exact ⟨rfl, rfl, hI⟩
          case measure => simp [intOf]; omega
      · have hke : len = k := by omega
        subst hke
        go_wp2_with fail
        go_ret
        refine ⟨q, rfl, hdr, .inr ⟨hq0, by omega, d, ?_⟩⟩
        obtain ⟨e1, e2⟩ := hp.out
        subst e1
        refine ⟨⟨ao, b, o, cap, A, rfl, ha, fun i hi => ?_, fun i hi => (e2 i hi).2.2⟩, fun i hi => ?_, by omega⟩
        · obtain ⟨x0, x1, x2, -⟩ := HR.out i hi
          rw [(e2 i hi).1, (e2 i hi).2.1]
          exact ⟨x0, x1, x2⟩
        · obtain ⟨-, -, -, g0, g1, -⟩ := HR.out i hi
          rw [(e2 i hi).1, (e2 i hi).2.1]
          exact ⟨g0, g1⟩
end Go.Proofs.YtjlpmfimbgbcmaaDoor
