/-
  The law of ParseProof: the walk.
-/
import Derived.Test.YtjlpmfimbgbcmaaDoorHld
namespace Go.Proofs.YtjlpmfimbgbcmaaDoor
open Go.RowKit

/-- The list that a reading hands back, and its code. -/
def ppL (r : Option (List St)) : List St := r.getD []
def ppC (r : Option (List St)) : Int := if r.isSome then 0 else 6
theorem OSt.nil (B T : Nat) (w : World) : OSt B T w (.slice none 0 0) [] :=
  ⟨World.ownsRow_nil _ _ _ _, (fun k hk => by simp [Value.ownBlock] at hk), (fun x hx => by cases hx), List.Pairwise.nil, (fun x hx => by cases hx)⟩
theorem ppc_open {w w' : World} {r : Option (List St)} {e : Ending} (h : PPC w r e w') :
    ∃ v X, e = .returned (.tuple #[v, .int .i64 (ppC r)]) ∧ OSt w.heap.size w'.heap.size w' v X ∧ X.map SV.t = ppL r ∧ X.length ≤ 40 ∧ Below w.heap.size w w' := by
  obtain ⟨hb, ⟨rfl, rfl⟩ | ⟨ts, v, X, rfl, rfl, ho, hX, hl⟩⟩ := h
  · exact ⟨_, [], rfl, OSt.nil _ _ _, rfl, by simp, hb⟩
  · exact ⟨v, X, rfl, ho, hX, by rw [← hX, List.length_map] at hl; exact hl, hb⟩
theorem wtX_le {w : World} {X : List SV} (h : ∀ x ∈ X, ElS w x) : wtX X ≤ X.length * 12884901892 := by
  induction X with
  | nil => simp [wtX]
  | cons x X ih =>
    have e := h x (by simp)
    have h1 := e.op.size
    have h2 := e.oc.size
    have h3 := e.oh.len
    have h4 := ih (fun y hy => h y (List.mem_cons_of_mem _ hy))
    simp only [wtX, wt, List.length_cons]
    omega
set_option maxRecDepth 1000000 in
set_option maxHeartbeats 1600000 in
theorem law_ParseProof {w : World} {T : ByteArray} (hp : PE w) (hT63 : T.size ≤ 9223372036854775807) : Calls Tryd.prog 4 #[.string T] w (Ret w (.bool true)) := by
  by_cases hbig : 1048576 < T.size
  · have b1 : decide ((1048576 : Int) < (T.size : Int)) = true := decide_eq_true (by omega)
    have b1' : decide (1048576 < T.size) = true := decide_eq_true hbig
    go_enter Tryd.func4, Tryd.ntmps4
    go_wp2_with fail
    go_ret
    exact ⟨rfl, Below.refl _ _⟩
  · have b1 : decide ((1048576 : Int) < (T.size : Int)) = false := decide_eq_false (by omega)
    have b1' : decide (1048576 < T.size) = false := decide_eq_false hbig
    have HS := Lib.hid (s_ParseProof (s := T) (by omega) w)
    have HI := Lib.hid (fun (W : World) (h : PE W) => i_ParseProof (s := T) (by omega) h)
    obtain ⟨R, hR⟩ : ∃ R, R = ppR T := ⟨_, rfl⟩
    rw [← hR] at HS HI
    obtain ⟨L, hL⟩ : ∃ L, L = ppL R := ⟨_, rfl⟩
    obtain ⟨C, hC⟩ : ∃ C, C = ppC R := ⟨_, rfl⟩
    have HPC := Lib.hid (fun w w' e (h : PPC w R e w') => ppc_open h)
    rw [← hL, ← hC] at HPC
    have hcc : (C != C) = false := by simp
    have HP := Lib.hid hp
    clear hR hL hC hp
    go_enter Tryd.func4, Tryd.ntmps4
    go_wp2_with fail
    refine HS.out.mono ?_
    intro e w1 hpc
    obtain ⟨vs, Xs, rfl, os, ms, ls, b01⟩ := HPC.out _ _ _ hpc
    obtain ⟨ao, cs, rfl⟩ := os.opened
    have HOS := Lib.hid os
    have HMS := Lib.hid ms
    have HB1 := Lib.hid b01
    have HP1 := Lib.hid (HP.out.keep b01)
    clear os b01 hpc ms
    go_wp2_with fail
    refine (HI.out w1 HP1.out).mono ?_
    intro e w2 hpc
    obtain ⟨vi, Xi, rfl, oi, mi, li, b12⟩ := HPC.out _ _ _ hpc
    obtain ⟨ai, ci, rfl⟩ := oi.opened
    have HOI := Lib.hid oi
    have HMI := Lib.hid mi
    have HB2 := Lib.hid b12
    have hwt := wtX_le (fun x hx => (oi.els x hx).1)
    clear oi b12 hpc mi
    go_wp2_with fail
    refine (c_eqStepS_refl HOI.out (HOS.out.keptB HB2.out) (HMI.out.trans HMS.out.symm) (by omega)).mono ?_
    rintro e w3 ⟨rfl, b23⟩
    have HB3 := Lib.hid b23
    clear b23
    go_wp2_with fail
    refine (c_markStepS (HOI.out.keptB HB3.out) HB2.out.size 1 (by omega) (by omega)).mono ?_
    rintro e w4 ⟨rfl, o4, i34⟩
    have HN4 := Lib.hid o4
    have s13 : w1.heap.size ≤ w3.heap.size := Nat.le_trans HB2.out.size HB3.out.size
    have B4 := Lib.hid (i34.below (bel_next HB1.out (bel_next HB2.out HB3.out)) HB1.out.size (Nat.le_refl _))
    have S4 := Lib.hid (((HOS.out.keptB HB2.out).keptB HB3.out).kept i34 (.inl (Nat.le_refl _)))
    clear o4 i34
    go_wp2_with fail
    refine (c_heldStepS HN4.out (by omega) (by omega)).mono ?_
    rintro e w5 ⟨rfl, d45⟩
    have HB5 := Lib.hid d45
    have B5 := Lib.hid (bel_next B4.out HB5.out)
    have g1 : decide ((1 : Int) + (wtX Xi : Int) < 0) = false := decide_eq_false (by omega)
    have g2 : ((1 : Int) + (wtX Xi : Int) != (1 : Int) + (wtX Xi : Int)) = false := by simp
    clear d45
    go_wp2_with fail
    refine (HI.out w5 (HP.out.keep B5.out)).mono ?_
    intro e w6 hpc
    obtain ⟨v2, X2, rfl, o2, m2, l2, b56⟩ := HPC.out _ _ _ hpc
    obtain ⟨a2, c2, rfl⟩ := o2.opened
    have HO6 := Lib.hid o2
    have HM2 := Lib.hid m2
    have HB6 := Lib.hid (bel_next HB5.out b56)
    have B6 := Lib.hid (bel_next B4.out HB6.out)
    clear o2 b56 hpc m2
    go_wp2_with fail
    refine (c_eqStepS_refl HO6.out (S4.out.keptB HB6.out) (HM2.out.trans HMS.out.symm) (by omega)).mono ?_
    rintro e w7 ⟨rfl, b67⟩
    have HB7 := Lib.hid (bel_next HB6.out b67)
    have B7 := Lib.hid (bel_next B4.out HB7.out)
    clear b67
    go_wp2_with fail
    refine (c_heldStepS (HN4.out.keptB HB7.out) (by omega) (by omega)).mono ?_
    rintro e w8 ⟨rfl, d78⟩
    have B8 := Lib.hid (bel_next B7.out d78)
    clear d78
    go_wp2_with fail
    go_ret
    exact ⟨rfl, B8.out⟩
end Go.Proofs.YtjlpmfimbgbcmaaDoor
