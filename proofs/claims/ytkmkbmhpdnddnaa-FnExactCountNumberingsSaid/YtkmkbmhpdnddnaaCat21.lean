/-
  Chapter 10: CountNumberings: the plain law and the program.
-/
import Derived.Test.YtkmkbmhpdnddnaaCat20
namespace Go.Proofs.Ytkmkbmhpdnddnaa
open Go.RowKit

/-- The size of a hom set. -/
def hs (c : Cat) (x y : Nat) : Int := cntA c c.fr.length (x * 8 + y)
def hs' (c : Cat) (x y : Nat) : Int := if x = y then hs c x y - 1 else hs c x y
/-- The count behind row x, the first y entries of the next one. -/
def numY (c : Cat) (x : Nat) (v : Int) : Nat → Int
  | 0 => v
  | y + 1 => facI (numY c x v y) (hs' c x y - 1).toNat
def numX (c : Cat) (v : Int) : Nat → Int
  | 0 => v
  | x + 1 => numY c x (numX c v x) 8
def numV (c : Cat) : Int := numX c (facI 1 (c.n - 1).toNat) 8
theorem numY_bd (c : Cat) (x : Nat) {v : Int} (h : 1 ≤ v ∧ v ≤ 5001) : ∀ y, 1 ≤ numY c x v y ∧ numY c x v y ≤ 5001
  | 0 => h
  | y + 1 => facI_bd (numY_bd c x h y) _
theorem numX_bd (c : Cat) {v : Int} (h : 1 ≤ v ∧ v ≤ 5001) : ∀ x, 1 ≤ numX c v x ∧ numX c v x ≤ 5001
  | 0 => h
  | x + 1 => numY_bd c x (numX_bd c h x) 8
theorem hs_bd (c : Cat) (hm : c.fr.length ≤ 40) (x y : Nat) : -1 ≤ hs' c x y ∧ hs' c x y ≤ 40 := by
  have := cntA_bd c (x * 8 + y) c.fr.length
  unfold hs' hs
  split <;> omega
noncomputable def cnR (c : Cat) : Int × Int := if catB c then (if numV c > 5000 then (0, 3) else (numV c, 0)) else (0, 1)
theorem run_index64 {cs : Array Value} {i : Nat} (hi : i < 8) (w : World) : (Instr.index 80 (.agg cs) (.int .i64 (i : Int))).run Try.prog w = .ok (.agg (cs.extract (i * 8) (i * 8 + 8))) w := by
  have h1 := run_underlying Try.underlying80 (w := w)
  simp [Instr.index, asIntOf, h1, go_sem]
  intro h
  omega
theorem run_index8 {cs : Array Value} (hn : cs.size = 8) {j : Nat} (hj : j < 8) {v : Int} (hv : cs[j]? = some (.int .i64 v)) (w : World) : (Instr.index 78 (.agg cs) (.int .i64 (j : Int))).run Try.prog w = .ok (.int .i64 v) w := by
  have h1 := run_underlying Try.underlying78 (w := w)
  have h2 : cs[j]'(by omega) = .int .i64 v := by
    rw [Array.getElem?_eq_getElem (by omega)] at hv
    injection hv
  simp [Instr.index, asIntOf, h1, go_sem, hv]
  intro h
  omega
theorem info8 : (Try.prog.info? 78).map (·.size) = some 8 := by kernel_rfl
theorem stop_load8 {ops : Array Oper} {rest : List Oper} {o : Oper} {a : Act} {w : World} {Q : Exit → Act → World → Prop} {x : Operand} (_ : o.op = .load 78 x) (h : Hold (wpList Try.prog ops Q (o :: rest) a w)) : wpList Try.prog ops Q (o :: rest) a w := h
theorem stop_store8 {ops : Array Oper} {rest : List Oper} {o : Oper} {a : Act} {w : World} {Q : Exit → Act → World → Prop} {x y : Operand} (_ : o.op = .store 78 x y) (h : Hold (wpList Try.prog ops Q (o :: rest) a w)) : wpList Try.prog ops Q (o :: rest) a w := h
set_option maxHeartbeats 1600000 in
set_option maxRecDepth 100000 in
theorem c_numberings {w : World} {b : Nat} {c : Cat} (P : PC w b c) (S : Shape c) : Calls Try.prog 53 #[.pointer (some ⟨b, 0, none⟩)] w (Ret w (.int .i64 (numV c))) := by
  have P0 := Lib.hid P
  obtain ⟨aF, aT, aI, aC, bF, oF, kF, bT, oT, kT, bI, oI, kI, bC, oC, kC, bR, oR, kR, V⟩ := P.opens
  have m40 : c.fr.length ≤ 40 := by have := S.m40; unfold Cat.m at this; omega
  have n8 := S.n8
  have n0 := S.n0
  have SH := Lib.hid S
  have c0 := V.c0
  have lb : b < w.heap.size := World.block_lt_of_cell? _ _ c0
  have hr0 : (w.alloc (.cells #[.int .i64 1] 2)).rowIs w.heap.size 2 1 (fun _ => .int .i64 1) := World.rowIs_alloc w #[.int .i64 1] _ _ fun i hi => by
    have : i = 0 := by simpa using hi
    subst this; rfl
  have HV0 := Lib.hid (facI_bd (v := 1) (by omega) (c.n - 1).toNat)
  clear S P V
  go_enter Try.func53, Try.ntmps53
  go_wp2_with fail
  clear c0
  refine (c_facI (B := w.heap.size) (Nat.le_refl _) hr0 (by omega) (by omega) (by omega)).mono ?_
  rintro e w2 ⟨rfl, hr, hb⟩
  replace hb := (bel_box w (.cells #[.int .i64 1] 2)).trans hb
  clear hr0
  go_wp2_with fail
  refine (c_homSizes (P0.out.kept hb) SH.out).mono ?_
  rintro e w3 ⟨cs, rfl, hcn, hca, b3⟩
  replace hr := hr.of_block (b3.block _ hr.lt)
  replace hb := hb.trans (b3.mono hb.size)
  have HCA := Lib.hid hca
  have HCN := Lib.hid hcn
  clear b3 hca hcn
  go_wp2_with fail
  go_loopw [5, 6, 7, 8, 18] (fun _ _ _ _ i wr => ∃ x : Nat, x ≤ 8 ∧ i = .int .i64 (x : Int) ∧ Below w.heap.size w wr ∧ wr.rowIs w.heap.size 2 1 (fun _ => .int .i64 (numX c (facI 1 (c.n - 1).toNat) x))) (fun _ _ _ _ i _ => 8 - (intOf i).toNat)
  case atStart => exact ⟨0, Nat.zero_le _, rfl, hb, hr⟩
  case round =>
    clear hb hr
    obtain ⟨x, hx, rfl, hb, hr⟩ := hrel
    by_cases hlt : x < 8
    · have x8i : (x : Int) < 8 := by omega
      have hix := fun W => run_index64 (cs := cs) hlt W
      have HB := Lib.hid hb
      have HR := Lib.hid hr
      clear hb hr
      go_wp2_with (first | (refine stop_store8 (by rfl) ?_; refine hold ?_))
      have q0 : (wr.alloc (.cells #[.int .i64 0, .int .i64 0, .int .i64 0, .int .i64 0, .int .i64 0, .int .i64 0, .int .i64 0, .int .i64 0] 78)).rowIs wr.heap.size 78 8 (fun _ => .int .i64 0) := World.rowIs_alloc wr #[.int .i64 0, .int .i64 0, .int .i64 0, .int .i64 0, .int .i64 0, .int .i64 0, .int .i64 0, .int .i64 0] _ _ fun i hi => by
        have : i = 0 ∨ i = 1 ∨ i = 2 ∨ i = 3 ∨ i = 4 ∨ i = 5 ∨ i = 6 ∨ i = 7 := by simp at hi; omega
        rcases this with rfl | rfl | rfl | rfl | rfl | rfl | rfl | rfl <;> rfl
      have hne : w.heap.size ≠ wr.heap.size := by have := HR.out.lt; omega
      have hwz := HB.out.size
      obtain ⟨ce, hce⟩ : ∃ ce, ce = cs.extract (x * 8) (x * 8 + 8) := ⟨_, rfl⟩
      have hc8 : ce.size = 8 := by rw [hce]; simp [HCN.out]; omega
      have hcat : ∀ j, j < 8 → ce[j]? = some (.int .i64 (hs c x j)) := fun j hj => by
        have h := HCA.out (x * 8 + j) (by omega)
        rw [hce, Array.getElem?_extract, if_pos (by rw [HCN.out]; omega), h]
        rfl
      have hall : ce.all (·.oneCell') = true := by
        rw [Array.all_eq_true]
        intro i hi
        have := hcat i (by omega)
        rw [Array.getElem?_eq_getElem hi] at this
        injection this with this
        rw [this]; rfl
      have hlit : ((wr.alloc (.cells #[.int .i64 0, .int .i64 0, .int .i64 0, .int .i64 0, .int .i64 0, .int .i64 0, .int .i64 0, .int .i64 0] 78)).setCells wr.heap.size 0 ce.toList).heap[wr.heap.size]? = some (.cells ce 78 (0, 0)) :=
        rowIs_lit (by rw [hc8]; exact rowIs_setCells ce.toList 0 _ _ q0) (fun i hi => by
          rw [if_pos ⟨Nat.zero_le _, by simp; omega⟩, Nat.sub_zero, List.getD_eq_getElem?_getD, Array.getElem?_toList, Array.getElem?_eq_getElem hi]
          rfl)
      have HL := Lib.hid hlit
      have HT := Lib.hid (there_row q0)
      have HALL := Lib.hid hall
      have HCAT := Lib.hid hcat
      have HR5 : Hid (((wr.alloc (.cells #[.int .i64 0, .int .i64 0, .int .i64 0, .int .i64 0, .int .i64 0, .int .i64 0, .int .i64 0, .int .i64 0] 78)).setCells wr.heap.size 0 ce.toList).rowIs w.heap.size 2 1 (fun _ => .int .i64 (numX c (facI 1 (c.n - 1).toNat) x))) :=
        (HR.out.of_block (w' := wr.alloc (.cells #[.int .i64 0, .int .i64 0, .int .i64 0, .int .i64 0, .int .i64 0, .int .i64 0, .int .i64 0, .int .i64 0] 78)) (Below.heap_alloc _ _ _ HR.out.lt)).of_block (heap_setCells hne _ _ _)
      have HB5 : Hid (Below w.heap.size w ((wr.alloc (.cells #[.int .i64 0, .int .i64 0, .int .i64 0, .int .i64 0, .int .i64 0, .int .i64 0, .int .i64 0, .int .i64 0] 78)).setCells wr.heap.size 0 ce.toList)) := below_setCells hwz _ _ _ _ (HB.out.alloc hwz _)
      rw [← hce]
      clear q0 hall hcat hlit hix hce HB HR
      show wpList Try.prog _ _ _ _ _
      refine wpList_store_mid rfl _ _ _ rfl wr.heap.size 0 ce rfl rfl (by rw [hc8]; exact HT.out) (by rw [hc8]; exact info8) HALL.out ?_
      generalize (wr.alloc (.cells #[.int .i64 0, .int .i64 0, .int .i64 0, .int .i64 0, .int .i64 0, .int .i64 0, .int .i64 0, .int .i64 0] 78)).setCells wr.heap.size 0 ce.toList = w5 at *
      go_wp2_with (first | (refine stop_load8 (by rfl) ?_; refine hold ?_))
      show wpList Try.prog _ _ _ _ _
      refine wpList_load_row rfl _ _ rfl wr.heap.size rfl _ ce _ _ HL.out Try.underlying78 rfl (by rw [hc8]; exact info8) ?_
      go_wp2_with fail
      go_loopw [7, 8, 23] (fun _ _ i wr => ∃ y : Nat, y ≤ 8 ∧ i = .int .i64 (y : Int) ∧ Below w.heap.size w wr ∧ wr.rowIs w.heap.size 2 1 (fun _ => .int .i64 (numY c x (numX c (facI 1 (c.n - 1).toNat) x) y))) (fun _ _ i _ => 8 - (intOf i).toNat)
      case atStart => exact ⟨0, Nat.zero_le _, rfl, HB5.out, HR5.out⟩
      case round =>
        clear HB5 HR5 HL HT
        obtain ⟨y, hy, rfl, hb, hr⟩ := hrel
        by_cases hly : y < 8
        · have y8i : (y : Int) < 8 := by omega
          have hiy := fun W => run_index8 hc8 hly (HCAT.out y hly) W
          have hsb := cntA_bd c (x * 8 + y) c.fr.length
          have hsc : Hid (cntA c c.fr.length (x * 8 + y) = hs c x y) := rfl
          rw [hsc.out] at hsb
          have hvb := numY_bd c x (numX_bd c HV0.out x) y
          by_cases hxy : x = y
          · have hxb : ((x : Int) == (y : Int)) = true := by simp [hxy]
            have HS : Hid (numY c x (numX c (facI 1 (c.n - 1).toNat) x) (y + 1) = facI (numY c x (numX c (facI 1 (c.n - 1).toNat) x) y) (hs c x y - 1 - 1).toNat) := by
              show facI _ (hs' c x y - 1).toNat = _
              rw [hs', if_pos hxy]
            clear hxy
            go_wp2_with fail
            refine (c_facI (B := w.heap.size) (Nat.le_refl _) hr hvb (by omega) (by omega)).mono ?_
            rintro e w6 ⟨rfl, hr6, hb6⟩
            rw [← HS.out] at hr6
            have HR := Lib.hid hr6
            have HB := Lib.hid (hb.trans hb6)
            clear hr hb hr6 hb6 hiy
            go_wp2_with fail
            go_roundw
            case rel => exact ⟨y + 1, by omega, by go_num, HB.out, HR.out⟩
            case measure => simp [intOf]; omega
          · have hxb : ((x : Int) == (y : Int)) = false := by simp; omega
            have HS : Hid (numY c x (numX c (facI 1 (c.n - 1).toNat) x) (y + 1) = facI (numY c x (numX c (facI 1 (c.n - 1).toNat) x) y) (hs c x y - 1).toNat) := by
              show facI _ (hs' c x y - 1).toNat = _
              rw [hs', if_neg hxy]
            clear hxy
            go_wp2_with fail
            refine (c_facI (B := w.heap.size) (Nat.le_refl _) hr hvb (by omega) (by omega)).mono ?_
            rintro e w6 ⟨rfl, hr6, hb6⟩
            rw [← HS.out] at hr6
            have HR := Lib.hid hr6
            have HB := Lib.hid (hb.trans hb6)
            clear hr hb hr6 hb6 hiy
            go_wp2_with fail
            go_roundw
            case rel => exact ⟨y + 1, by omega, by go_num, HB.out, HR.out⟩
            case measure => simp [intOf]; omega
        · obtain rfl : y = 8 := by omega
          have HR : Hid (wr.rowIs w.heap.size 2 1 (fun _ => .int .i64 (numX c (facI 1 (c.n - 1).toNat) (x + 1)))) := hr
          have HB := Lib.hid hb
          clear hr hb
          go_wp2_with fail
          go_roundw
          case rel => exact ⟨x + 1, by omega, by go_num, HB.out, HR.out⟩
          case measure => simp [intOf]; omega
    · obtain rfl : x = 8 := by omega
      have hst := hr.cell (show 0 < 1 by omega)
      have hE : Hid (numX c (facI 1 (c.n.toNat - 1)) 8 = numV c) := by
        have e : (c.n - 1).toNat = c.n.toNat - 1 := by omega
        unfold Hid numV
        rw [e]
      go_wp2_with fail
      go_ret
      exact ⟨by rw [← hE.out]; rfl, hb⟩
end Go.Proofs.Ytkmkbmhpdnddnaa
