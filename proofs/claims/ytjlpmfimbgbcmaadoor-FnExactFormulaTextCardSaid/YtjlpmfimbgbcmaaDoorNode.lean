/-
  Chapter 29: IsFormula, SubformulaEnd of program and reference. A formula is a list of nodes.
-/
import Derived.Test.YtjlpmfimbgbcmaaDoorApp
import Derived.Test.YtjlpmfimbgbcmaaDoorSets1
namespace Go.Proofs.YtjlpmfimbgbcmaaDoor
open Go.RowKit

structure Nd where
  kd : Int
  sy : Int
  ag : List Int
def gn (d : List Nd) (i : Nat) : Nd := d.getD i ⟨0, 0, []⟩
theorem gn_lt {d : List Nd} {i : Nat} (h : i < d.length) : gn d i = d[i] := by
  unfold gn; rw [List.getD_eq_getElem?_getD, List.getElem?_eq_getElem h]; rfl
theorem drop_gn {d : List Nd} {i : Nat} (h : i < d.length) : d.drop i = gn d i :: d.drop (i + 1) := by
  rw [gn_lt h]; exact List.drop_eq_getElem_cons h
theorem upN {w w' : World} {p : Addr} {v : Value} (hb : Below w.heap.size w w') (h : w.cell? p = some v) : w'.cell? p = some v := (hb.cell (World.block_lt_of_cell? _ _ h)).trans h
theorem belN {B : Nat} {w w1 w2 : World} (h : Below B w w1) (h2 : Below w1.heap.size w1 w2) (hB : B ≤ w1.heap.size) : Below B w w2 := h.trans (h2.mono hB)
/-- A slice of nodes reads as a list. -/
structure INS (w : World) (v : Value) (d : List Nd) : Prop where
  ex : ∃ (ao : Option Addr) (b o c : Nat) (A : Nat → Value), v = .slice ao d.length c ∧ (0 < d.length → ao = some ⟨b, o, none⟩) ∧
    (∀ i, i < d.length → w.cell? ⟨b, o + i * 3, none⟩ = some (.int .i64 (gn d i).kd) ∧ w.cell? ⟨b, o + i * 3 + 1, none⟩ = some (.int .i64 (gn d i).sy) ∧ w.cell? ⟨b, o + i * 3 + 2, none⟩ = some (A i)) ∧ ∀ i, i < d.length → IS w (A i) (gn d i).ag
  wf : ∀ i, i < d.length → I64 (gn d i).kd ∧ I64 (gn d i).sy
  len : d.length ≤ 1048576
theorem INS.kept {w w' : World} {v : Value} {d : List Nd} (h : INS w v d) (hb : Below w.heap.size w w') : INS w' v d := by
  obtain ⟨ao, b, o, c, A, rfl, ha, hc, hA⟩ := h.ex
  exact ⟨⟨ao, b, o, c, A, rfl, ha, fun i hi => ⟨upN hb (hc i hi).1, upN hb (hc i hi).2.1, upN hb (hc i hi).2.2⟩, fun i hi => (hA i hi).kept hb⟩, h.wf, h.len⟩
/-- How many numbers the first i nodes hold. -/
def pN (d : List Nd) : Nat → Nat
  | 0 => 0
  | i + 1 => pN d i + 2 + (gn d i).ag.length
theorem pN_mono (d : List Nd) {i j : Nat} (h : i ≤ j) : pN d i ≤ pN d j := by
  induction j with
  | zero => obtain rfl : i = 0 := by omega
            exact Nat.le_refl _
  | succ j ih =>
    by_cases e : i = j + 1
    · subst e; exact Nat.le_refl _
    · have := ih (by omega)
      simp only [pN]
      omega
theorem INS.size {w : World} {v : Value} {d : List Nd} (h : INS w v d) : pN d d.length ≤ 4503601774854144 := by
  obtain ⟨ao, b, o, c, A, -, -, -, hA⟩ := h.ex
  have H : ∀ i, i ≤ d.length → pN d i ≤ i * 4294967298 := by
    intro i
    induction i with
    | zero => intro _; simp [pN]
    | succ i ih =>
      intro hi
      have h1 := ih (by omega)
      have h2 := (hA i (by omega)).len
      simp only [pN]
      omega
  have h1 := H d.length (Nat.le_refl _)
  have h2 := h.len
  omega
def ndParts (k : Int) : Int := if k = 4 ∨ k = 5 ∨ k = 6 then 2 else if k = 7 ∨ k = 8 then 1 else 0
theorem ndParts_bd (k : Int) : 0 ≤ ndParts k ∧ ndParts k ≤ 2 := by 
  unfold ndParts
  repeat' split
  all_goals omega
def ndB (x : Nd) : Bool := allIn 4 x.ag && (if x.kd = 2 then inR x.sy 0 3 && decide ((x.ag.length : Int) ≤ 2) else if x.kd = 3 then x.sy == 0 && (x.ag.length : Int) == 2 else if x.kd = 7 ∨ x.kd = 8 then inR x.sy 0 2 && (x.ag.length : Int) == 0 else inR x.kd 0 8 && (x.sy == 0 && (x.ag.length : Int) == 0))
/-- The index behind the parts that are open. -/
def endG : List Nd → Int → Int → Int
  | [], p, i => if p ≤ 0 then i else -1
  | x :: r, p, i => if p ≤ 0 then i else endG r (p - 1 + ndParts x.kd) (i + 1)
def endAt (d : List Nd) (k : Nat) : Int := endG (d.drop k) 1 k
theorem endG_done (l : List Nd) {p i : Int} (h : p ≤ 0) : endG l p i = i := by cases l <;> simp [endG, h]
theorem endG_nil {p i : Int} (h : 0 < p) : endG [] p i = -1 := by rw [endG, if_neg (by omega)]
theorem endG_step {d : List Nd} {k : Nat} {p i : Int} (hk : k < d.length) (h : 0 < p) : endG (d.drop k) p i = endG (d.drop (k + 1)) (p - 1 + ndParts (gn d k).kd) (i + 1) := by
  rw [drop_gn hk, endG, if_neg (by omega)]
def fmB (d : List Nd) : Bool := inR d.length 1 40 && (d.all ndB && endAt d 0 == (d.length : Int))
theorem all_step {d : List Nd} {k : Nat} (h : k < d.length) : (d.drop k).all ndB = (ndB (gn d k) && (d.drop (k + 1)).all ndB) := by
  rw [drop_gn h]; rfl
theorem c_parts {w : World} {b p : Nat} {k : Int} (h : w.cell? ⟨b, p, none⟩ = some (.int .i64 k)) : Calls Tryd.prog 70 #[.pointer (some ⟨b, p, none⟩)] w (Ret w (.int .i64 (ndParts k))) := by
  go_enter Tryd.func70, Tryd.ntmps70
  go_wp2_with fail
  all_goals
    go_ret
    refine ⟨?_, Below.refl _ _⟩
    simp_all [ndParts]
theorem c_l29Parts (k : Int) (w : World) : Calls Tryd.prog 68 #[.int .i64 k] w (Ret w (.int .i64 (ndParts k))) := by
  go_enter Tryd.func68, Tryd.ntmps68
  go_wp2_with fail
  all_goals
    go_ret
    refine ⟨?_, Below.refl _ _⟩
    simp_all [ndParts]
end Go.Proofs.YtjlpmfimbgbcmaaDoor
