/-
  The law's helpers on slices of pairs: szDiagramNodeS, toDiagramNodeS, eqDiagramNodeS.
-/
import Derived.Test.YthflmpnlblcnoaaDiag
import Derived.Test.YthflmpnlblcnoaaFrame
import Derived.Test.YthflmpnlblcnoaaLawLib
import Derived.Deep.SlicePairs
import Derived.Laws.Rows
import Derived.StillTailTactics
namespace Go.Proofs.Ythflmpnlblcnoaa
open Go.ChangeShapes Go.WideShapes Go.ChangeAt Go.RowKit Go.Deep

section
variable {P : Program}
theorem run_make2 (t e : TypeId) (z x y : Value) (bytes : Nat) (ht : P.underlying t = some (.slice e)) (hinfo : (P.info? e).map (fun i => (i.zero, i.size, i.bytes)) = some (some z, 2, bytes)) (hz1 : z.cells = #[x, y])
    (kl kc : IntKind) (n : Nat) (hbytes : bytes * n ≤ 281474976710656) (h63 : n ≤ 9223372036854775807) (w : World) :
    (Instr.makeSlice t (.int kl (n : Int)) (.int kc (n : Int))).run P w = .ok (.slice (some ⟨w.heap.size, 0, none⟩) n n) (w.alloc (.cells (madeCells #[x, y] (n * 2)) e)) := by
  obtain ⟨i, hi, hzz⟩ := Option.map_eq_some_iff.1 hinfo
  simp only [Prod.mk.injEq] at hzz
  obtain ⟨hz, hs, hb⟩ := hzz
  have hb' : (i.bytes : Int) * (n : Int) ≤ 281474976710656 := by
    have h : ((i.bytes * n : Nat) : Int) ≤ 281474976710656 := by rw [hb]; omega
    rwa [Int.natCast_mul] at h
  have hr := run_make (P := P) w t e i z ht hi hz kl kc n n (by omega) (Int.le_refl _) hb' (by omega)
  simp only [Int.toNat_natCast, hs, hz1] at hr
  exact hr
end
theorem rowIs_made2 (w : World) (z : Value) (n : Nat) (t : TypeId) : (w.alloc (.cells (madeCells #[z, z] n) t)).rowIs w.heap.size t n (fun _ => z) := by
  refine ⟨_, blk_alloc_new _ _, size_madeCells _ _, fun i hi => ?_⟩
  rcases Nat.mod_two_eq_zero_or_one i with e | e <;> simp [madeCells, hi, e]
/-- A slice of pairs of the call's own. -/
structure ODN (B T : Nat) (w : World) (v : Value) (d : List (Int × Int)) : Prop where
  ex : ∃ (b c : Nat), v = .slice (some ⟨b, 0, none⟩) d.length c ∧ B ≤ b ∧ b < T ∧ b < w.heap.size ∧ ∀ i, i < d.length → w.cell? ⟨b, i * 2, none⟩ = some (.int .i64 (gp d i).1) ∧ w.cell? ⟨b, i * 2 + 1, none⟩ = some (.int .i64 (gp d i).2)
  wf : ∀ i, i < d.length → I64 (gp d i).1 ∧ I64 (gp d i).2
  len : d.length ≤ 4294967296
theorem ODN.is {B T : Nat} {w : World} {v : Value} {d : List (Int × Int)} (h : ODN B T w v d) : IDN w v d := by
  obtain ⟨b, c, rfl, _, _, _, hc⟩ := h.ex
  exact ⟨⟨some ⟨b, 0, none⟩, b, 0, c, rfl, fun _ => rfl, fun i hi => by rw [Nat.zero_add]; exact hc i hi⟩, h.wf, h.len⟩
theorem ODN.kept {B T B' T' : Nat} {w w' : World} {v : Value} {d : List (Int × Int)} (h : ODN B T w v d) (hb : Within B' T' w w') (hd : T ≤ B' ∨ T' ≤ B) : ODN B T w' v d := by
  obtain ⟨b, c, rfl, h1, h2, h3, hc⟩ := h.ex
  have e := hb.block b (by omega) h3
  have ec : ∀ i, w'.cell? ⟨b, i, none⟩ = w.cell? ⟨b, i, none⟩ := fun i => by simp only [World.cell?, e]
  exact ⟨⟨b, c, rfl, h1, h2, by have := hb.size; omega, fun i hi => by rw [ec, ec]; exact hc i hi⟩, h.wf, h.len⟩
theorem IDN.size {w : World} {v : Value} {d : List (Int × Int)} (h : IDN w v d) : d.length ≤ 4294967296 := h.len
/-- A slice of pairs that came in. -/
def RawDN (w : World) (v : Value) : Prop := ∃ (ao : Option Addr) (len cap : Nat), v = .slice ao len cap ∧ len ≤ 9223372036854775807 ∧ (len ≤ 1048576 → ∃ d : List (Int × Int), d.length = len ∧ IDN w v d)
theorem c_szDiagramNodeS {w0 w : World} {v : Value} (h : RawDN w0 v) (_ : Drawn w0 w) (left : Int) (h0 : 0 ≤ left) (h1 : left ≤ 1048576) :
    Calls Try.prog 21 #[v, .int .i64 left] w (fun e w' => ∃ k, e = .returned (.int .i64 k) ∧ Drawn w w' ∧ (k < 0 ∨ (0 ≤ k ∧ k ≤ left ∧ ∃ d, IDN w0 v d))) := by
  obtain ⟨ao, len, cap, rfl, hl, hx⟩ := h
  have HX := Lib.hid hx
  clear hx
  have hw : IntKind.i64.wrap (left - (len : Int)) = left - (len : Int) := IntWalk.i64_in _ (by omega)
  by_cases h : left < len
  · have hb : decide (left - (len : Int) < 0) = true := by simp; omega
    go_enter Try.func21, Try.ntmps21
    go_wp2_with fail
    go_ret
    exact ⟨-1, rfl, (by repeat (first | exact Drawn.refl _ | refine Drawn.step ?_ _ | refine Drawn.one ?_)), .inl (by omega)⟩
  · have hb : decide (left - (len : Int) < 0) = false := by simp; omega
    go_enter Try.func21, Try.ntmps21
    go_wp2_with fail
    go_ret
    refine ⟨left - len, rfl, (by repeat (first | exact Drawn.refl _ | refine Drawn.step ?_ _ | refine Drawn.one ?_)), .inr ⟨by omega, by omega, ?_⟩⟩
    obtain ⟨d, e, hi⟩ := HX.out (by omega)
    exact ⟨d, hi⟩
theorem c_toDiagramNode (a b : Int) (w : World) : Calls Try.prog 39 #[.agg #[.int .i64 a, .int .i64 b]] w (Ret w (.agg #[.int .i64 a, .int .i64 b])) := by
  go_enter Try.func39, Try.ntmps39
  go_wp2_with fail
  (try simp only [Exit.inBlock, Exit.then])
  refine bodyPost_ret (results_cell_row rfl _ _ (w.heap.size + 1) 49 #[.int .i64 a, .int .i64 b] (0, 0) _ (by rfl) ?_ Try.underlying49 rfl (by kernel_rfl)) rfl ?_
  · show (((w.heap.push _).push _).push _)[w.heap.size + 1]? = _
    rw [Array.getElem?_push, Array.getElem?_push]
    simp
  · exact ⟨rfl, bel_alloc (bel_alloc (bel_alloc (Below.refl _ _) _) _) _⟩
theorem c_eqDiagramNode_refl (a b : Int) (w : World) : Calls Try.prog 41 #[.agg #[.int .i64 a, .int .i64 b], .agg #[.int .i64 a, .int .i64 b]] w (Ret w (.bool true)) := by
  have h1 : (a != a) = false := by simp
  have h2 : (b != b) = false := by simp
  go_enter Try.func41, Try.ntmps41
  go_wp2_with fail
  go_ret
  exact ⟨rfl, bel_alloc (bel_alloc (Below.refl _ _) _) _⟩
theorem infoDN : (Try.prog.info? 49).map (fun i => (i.zero, i.size, i.bytes)) = some (some (.agg #[.int .i64 0, .int .i64 0]), 2, 16) := by kernel_rfl
set_option maxHeartbeats 400000 in
theorem c_toDiagramNodeS {w : World} {v : Value} {d : List (Int × Int)} (h : IDN w v d) : Calls Try.prog 23 #[v] w (Mk w fun w' u => ODN w.heap.size w'.heap.size w' u d) := by
  obtain ⟨ao, b, o, c, rfl, ha, hc⟩ := h.ex
  have hlen := h.len
  have HWF := Lib.hid h.wf
  have hmk := run_make2 (P := Try.prog) 37 49 (.agg #[.int .i64 0, .int .i64 0]) (.int .i64 0) (.int .i64 0) 16 Try.underlying37 infoDN rfl .i64 .i64 d.length (by omega) (by omega)
  clear h
  go_enter Try.func23, Try.ntmps23
  go_wp2
  clear hmk
  go_loopw [4] (fun i wr => ∃ k : Nat, k ≤ d.length ∧ i = .int .i64 k ∧ Below w.heap.size w wr ∧ wr.rowIs w.heap.size 49 (d.length * 2) (fun j => if j < k * 2 then .int .i64 (if j % 2 = 0 then (gp d (j / 2)).1 else (gp d (j / 2)).2) else .int .i64 0)) (fun i _ => d.length - (intOf i).toNat)
  case atStart => exact ⟨0, Nat.zero_le _, rfl, (Below.refl _ _).alloc (Nat.le_refl _) _, (rowIs_made2 w _ _ _).congr (fun i _ => by simp)⟩
  case round =>
    obtain ⟨k, hk, rfl, hb, hr⟩ := hrel
    by_cases hlt : k < d.length
    · obtain rfl := ha (by omega)
      obtain ⟨hx, hy⟩ := hc k hlt
      have cx := (hb.cell (World.block_lt_of_cell? _ _ hx)).trans hx
      have cy := (hb.cell (World.block_lt_of_cell? _ _ hy)).trans hy
      clear hx hy hc
      go_wp2_with fail
      refine (c_toDiagramNode _ _ _).mono ?_
      rintro e w2 ⟨rfl, b2⟩
      have hr2 := hr.of_block (b2.block _ hr.lt)
      have hb2 := hb.trans (b2.mono hb.size)
      clear b2 hb hr cx cy
      have hst := hr2.cell (show k * 2 < d.length * 2 by omega)
      have hst1 := hr2.cell (show k * 2 + 1 < d.length * 2 by omega)
      have hfz := hr2.frozen (k * 2)
      have hfz1 := hr2.frozen (k * 2 + 1)
      go_wp2_with fail
      go_roundw
      case rel =>
        refine ⟨k + 1, by omega, by go_num, (hb2.setCell (Nat.le_refl _) _).setCell (Nat.le_refl _) _, ((hr2.set (k * 2) _).set (k * 2 + 1) _).congr fun j hj => ?_⟩
        by_cases e1 : j = k * 2 + 1
        · subst e1
          rw [if_pos rfl, if_pos (by omega), if_neg (by omega), show (k * 2 + 1) / 2 = k from by omega]
        · rw [if_neg e1]
          by_cases e2 : j = k * 2
          · subst e2
            rw [if_pos rfl, if_pos (by omega), if_pos (by omega), show k * 2 / 2 = k from by omega]
          · rw [if_neg e2]
            by_cases e3 : j < k * 2
            · rw [if_pos e3, if_pos (show j < (k + 1) * 2 by omega)]
            · rw [if_neg e3, if_neg (show ¬ j < (k + 1) * 2 by omega)]
      case measure => simp [intOf]; omega
    · have hk : k = d.length := by omega
      subst hk
      go_wp2_with fail
      go_ret
      refine ⟨_, rfl, ⟨⟨w.heap.size, _, rfl, Nat.le_refl _, hr.lt, hr.lt, fun i hi => ⟨?_, ?_⟩⟩, HWF.out, hlen⟩, hb⟩
      · rw [hr.cell (show i * 2 < d.length * 2 by omega), if_pos (by omega), if_pos (by omega), show i * 2 / 2 = i from by omega]
      · rw [hr.cell (show i * 2 + 1 < d.length * 2 by omega), if_pos (by omega), if_neg (by omega), show (i * 2 + 1) / 2 = i from by omega]
set_option maxHeartbeats 400000 in
theorem c_eqDiagramNodeS_refl {w : World} {u v : Value} {d : List (Int × Int)} (hu : IDN w u d) (hv : IDN w v d) : Calls Try.prog 25 #[u, v] w (Ret w (.bool true)) := by
  obtain ⟨ao, b, o, c, rfl, ha, hc⟩ := hu.ex
  obtain ⟨ao', b', o', c', rfl, ha', hc'⟩ := hv.ex
  have hlen := hu.len
  clear hu hv
  have hlb : ((d.length : Int) != (d.length : Int)) = false := by simp
  go_enter Try.func25, Try.ntmps25
  go_wp2_with fail
  clear hlb
  go_loopw [5] (fun i wr => ∃ k : Nat, k ≤ d.length ∧ i = .int .i64 k ∧ Below w.heap.size w wr) (fun i _ => d.length - (intOf i).toNat)
  case atStart => exact ⟨0, Nat.zero_le _, rfl, Below.refl _ _⟩
  case round =>
    obtain ⟨k, hk, rfl, hb⟩ := hrel
    by_cases hlt : k < d.length
    · obtain rfl := ha (by omega)
      obtain rfl := ha' (by omega)
      obtain ⟨hx, hy⟩ := hc k hlt
      obtain ⟨hx', hy'⟩ := hc' k hlt
      have cx := (hb.cell (World.block_lt_of_cell? _ _ hx)).trans hx
      have cy := (hb.cell (World.block_lt_of_cell? _ _ hy)).trans hy
      have cx' := (hb.cell (World.block_lt_of_cell? _ _ hx')).trans hx'
      have cy' := (hb.cell (World.block_lt_of_cell? _ _ hy')).trans hy'
      clear hx hy hx' hy' hc hc'
      go_wp2_with fail
      go_still_tail 8, (by kernel_rfl)
      change wpList _ _ _ _ _ wr.drew
      have hb2 := hb.trans ((Drawn.one (Drawn.refl wr)).below _)
      clear cx cy cx' cy' hb
      generalize wr.drew = wq at *
      go_wp2_with fail
      refine (c_eqDiagramNode_refl _ _ _).mono ?_
      rintro e w2 ⟨rfl, b2⟩
      have hb3 := hb2.trans (b2.mono hb2.size)
      clear b2 hb2
      go_wp2_with fail
      go_roundw
      case rel => exact ⟨k + 1, by omega, by go_num, hb3⟩
      case measure => simp [intOf]; omega
    · have hk : k = d.length := by omega
      subst hk
      go_wp2_with fail
      go_ret
      exact ⟨rfl, hb⟩
section
variable {H : Type} {enc : TypeId × Value → H} {w : World} {base : Nat} {spare : Nat → Bool} {held : Bool}
theorem rawDN_trod {W : World} {a : Option Addr} {len cap : Nat} {fuel : Nat} {x : DataW H × List MemPlace}
    (h : DataW.trod enc Try.prog W 0 (fun _ => true) held fuel 34 (Value.slice a len cap).cells.toList = some x) : RawDN W (.slice a len cap) := by
  rcases open_slice_pairs Try.underlying34 Try.underlying51 (by kernel_rfl) rfl rfl (by kernel_rfl) (by kernel_rfl) h with ⟨hcs, _⟩ | ⟨x, l, c, m, n, V0, V1, D0, D1, P0, P1, hcs, _, hl, hm, hmm, _, hr⟩
  · simp [Value.cells] at hcs
    obtain ⟨rfl, rfl, rfl⟩ := hcs
    exact ⟨none, 0, 0, rfl, by omega, fun _ => ⟨[], rfl, ⟨none, 0, 0, 0, rfl, fun h => by simp at h, fun i h => by simp at h⟩, fun i h => by simp at h, by simp⟩⟩
  · simp [Value.cells] at hcs
    obtain ⟨rfl, rfl, rfl⟩ := hcs
    have hm2 : len ≤ m := by rw [hmm]; split <;> omega
    have hrow : ∀ i, i < len → ∃ p q : Int, V0 i = .int .i64 p ∧ V1 i = .int .i64 q ∧ I64 p ∧ I64 q := by
      intro i hi
      obtain ⟨-, -, h3, h4⟩ := hr i (by omega)
      obtain ⟨p, hp, -, wp⟩ := DataW.trod_int (k := .i64) Try.underlying2 h3
      obtain ⟨q, hq, -, wq⟩ := DataW.trod_int (k := .i64) Try.underlying2 h4
      simp only [List.cons.injEq, and_true] at hp hq
      exact ⟨p, q, hp, hq, wf_I64 wp, wf_I64 wq⟩
    refine ⟨_, len, cap, rfl, by unfold maxLen at hm; omega, fun hl' => ⟨(List.range len).map fun i => (intOf (V0 i), intOf (V1 i)), by simp, ?_⟩⟩
    have hg : ∀ i, i < len → gp ((List.range len).map fun i => (intOf (V0 i), intOf (V1 i))) i = (intOf (V0 i), intOf (V1 i)) := by
      intro i hi
      rw [gp_lt (by simpa using hi)]; simp
    have hll : ((List.range len).map fun i => (intOf (V0 i), intOf (V1 i))).length = len := by simp
    by_cases hp : 0 < len
    · obtain ⟨b, o, rfl, hc⟩ := cells_at (w := W) (n := len * 2) (V := fun j => if j % 2 = 0 then V0 (j / 2) else V1 (j / 2)) (fun j hj => by
        obtain ⟨e1, e2, -, -⟩ := hr (j / 2) (by omega)
        by_cases e : j % 2 = 0
        · rw [if_pos e, ← e1]; congr 2; omega
        · rw [if_neg e, ← e2]; congr 2; omega) (by omega)
      refine ⟨⟨some ⟨b, o, none⟩, b, o, cap, by rw [hll], fun _ => rfl, fun i hi => ?_⟩, fun i hi => ?_, by rw [hll]; omega⟩
      · rw [hll] at hi
        obtain ⟨p, q, e1, e2, -, -⟩ := hrow i hi
        rw [hg i hi]
        have c1 := hc (i * 2) (by omega)
        have c2 := hc (i * 2 + 1) (by omega)
        rw [if_pos (by omega), show i * 2 / 2 = i from by omega] at c1
        rw [if_neg (by omega), show (i * 2 + 1) / 2 = i from by omega] at c2
        refine ⟨by rw [c1, e1]; rfl, ?_⟩
        rw [Nat.add_assoc, c2, e2]; rfl
      · rw [hll] at hi
        obtain ⟨p, q, e1, e2, h1, h2⟩ := hrow i hi
        rw [hg i hi, e1, e2]
        exact ⟨h1, h2⟩
    · exact ⟨⟨_, 0, 0, cap, by rw [hll], fun h => by omega, fun i hi => by omega⟩, fun i hi => by omega, by rw [hll]; omega⟩
end
end Go.Proofs.Ythflmpnlblcnoaa
