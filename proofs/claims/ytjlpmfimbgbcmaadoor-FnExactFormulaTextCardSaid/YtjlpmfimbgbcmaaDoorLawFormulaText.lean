/- FnExactFormulaText returns true for every input and leaves its arguments as they were, the listed variables tied to the program's text. No condition of ours. -/
import Derived.Test.YtjlpmfimbgbcmaaDoorNodeLaw2
import Derived.Test.YtjlpmfimbgbcmaaDoorFts
import Derived.Test.YtjlpmfimbgbcmaaDoorCards
import Derived.Test.YtjlpmfimbgbcmaaDoorTie
import Derived.LaidMore
import Derived.LaidLaws
import Derived.LaidHandle
import Derived.Stop.Joined
import Derived.SevenTiedAt
namespace Go.Proofs.YtjlpmfimbgbcmaaDoor
open Go.ChangeShapes Go.WideShapes Go.ChangeAt Go.RowKit
set_option maxRecDepth 100000
theorem walk_FnExactFormulaText (aList : Value) (w : World) (haList : RawN w aList) :
    Calls Tryd.prog 3 #[aList] w (fun e w' => e = .returned (.bool true) ∧ Below w.heap.size w w') := by
  go_enter Tryd.func3, Tryd.ntmps3
  go_wp2_with fail
  have B := Below.refl w.heap.size w
  obtain ⟨q0, hq0⟩ : ∃ q : Int, q = 1048576 := ⟨_, rfl⟩
  refine (c_szNodeS haList B 1048576 (by omega) (by omega)).mono ?_
  rintro e w1 ⟨q1, rfl, d, hq⟩
  replace B := bel_next B d
  clear d
  rcases hq with hq | ⟨hqa1, hqb1, hqx⟩
  · have hqn : decide (q1 < 0) = true := by simp [hq]
    go_wp2_with fail
    go_ret
    exact ⟨rfl, B⟩
  have hqn1 : decide (q1 < 0) = false := by simp; omega
  obtain ⟨xsaList, IaList⟩ := hqx
  have SaList := IaList.size
  go_wp2_with fail
  have z0 := B.size
  have JaList := IaList.kept B
  refine (c_toNodeS JaList).mono ?_
  rintro e w2 ⟨u1, rfl, o1, b⟩
  have n := below_within b w1.heap.size
  have z2 := n.size
  replace B := n.below B (by omega) (Nat.le_refl _)
  replace JaList := IaList.kept B
  clear n b
  go_wp2_with fail
  refine (s_FormulaText o1.is).mono ?_
  rintro e w3 ⟨rfl, b⟩
  have n := below_within b w2.heap.size
  have z3 := n.size
  replace B := n.below B (by omega) (Nat.le_refl _)
  replace JaList := IaList.kept B
  replace o1 := o1.kept n (by omega)
  clear n b
  go_wp2_with fail
  refine (c_toNodeS JaList).mono ?_
  rintro e w4 ⟨u2, rfl, o2, b⟩
  have n := below_within b w3.heap.size
  have z4 := n.size
  replace B := n.below B (by omega) (Nat.le_refl _)
  replace JaList := IaList.kept B
  replace o1 := o1.kept n (by omega)
  clear n b
  go_wp2_with fail
  refine (i_FormulaText o2.is).mono ?_
  rintro e w5 ⟨rfl, b⟩
  have n := below_within b w4.heap.size
  have z5 := n.size
  replace B := n.below B (by omega) (Nat.le_refl _)
  replace JaList := IaList.kept B
  replace o1 := o1.kept n (by omega)
  replace o2 := o2.kept n (by omega)
  clear n b
  go_wp2_with fail
  refine (c_toNodeS JaList).mono ?_
  rintro e w6 ⟨u3, rfl, o3, b⟩
  have n := below_within b w5.heap.size
  have z6 := n.size
  replace B := n.below B (by omega) (Nat.le_refl _)
  replace JaList := IaList.kept B
  replace o1 := o1.kept n (by omega)
  replace o2 := o2.kept n (by omega)
  clear n b
  go_wp2_with fail
  refine (c_eqNodeS_refl o2.is o3.is).mono ?_
  rintro e w7 ⟨rfl, b⟩
  have n := below_within b w6.heap.size
  have z7 := n.size
  replace B := n.below B (by omega) (Nat.le_refl _)
  replace JaList := IaList.kept B
  replace o1 := o1.kept n (by omega)
  replace o2 := o2.kept n (by omega)
  replace o3 := o3.kept n (by omega)
  clear n b
  go_wp2_with fail
  go_ret
  exact ⟨rfl, B⟩
section
set_option maxRecDepth 100000 in
theorem door_FnExactFormulaText (os : Os) (args : Array Value) : laidMetH Tryd.prog Rows.fnExactFormulaTextRow.laid ((World.doorLaid Tryd.prog 400 os).forCall (fun _ _ => 0) ⟨#[], args, []⟩).memory :=
  laidMetH_of_parts3 (fuel := 8) (laidMet_of_run' 8 (by kernel_rfl) (by kernel_rfl)) (by kernel_rfl) (by kernel_rfl)
set_option maxRecDepth 100000 in
theorem lifted_FnExactFormulaText (os : Os) (started : os.Started) (H : Type) (enc : TypeId × Value → H) :
    ReturnsInHanded {} Tryd.checked os 3 .any (fun w args => (Rows.fnExactFormulaTextSpec.pre enc Tryd.prog Tryd.f3 [] false w args ∧ laidMetH Tryd.prog Rows.fnExactFormulaTextRow.laid w) ∧ sizedMet enc Tryd.prog Tryd.f3 (OpenSpec.ofChange Rows.fnExactFormulaTextSpec) false w args) (Rows.fnExactFormulaTextSpec.post enc Tryd.prog Tryd.f3 false true false false) := by
  refine returnsInHanded_of_change_and (C := Tryd.checked) (X := fun w _ => laidMetH Tryd.prog Rows.fnExactFormulaTextRow.laid w) (fun _ _ _ hh h => h.of_heap hh) ownKnobNone started (by kernel_rfl) Tryd.func3
    (ChangeSpec.witness_shaped (enc := enc) (C := Tryd.checked) (os := os) (X := fun w _ => laidMetH Tryd.prog Rows.fnExactFormulaTextRow.laid w) false (World.doorLaid Tryd.prog 400 os) #[.slice none 0 0] 8 rfl (World.shaped_of_RefB (by kernel_rfl) (by kernel_rfl)) (by kernel_rfl) (by kernel_rfl) (by kernel_rfl) (door_FnExactFormulaText os _)) ?_
  intro W base args ds gs before hval0 hW _ _ hL _
  have hval : ∀ (j : Nat) t v, Tryd.f3.params[j]? = some t → args[j]? = some v → Value.okWide Tryd.prog W .any base t v := hval0
  have hW' := hW
  obtain ⟨p, q, hA0, hV, rfl, hfz, hnd⟩ := hW
  have hA : DataW.TrodAll enc Tryd.prog W 0 (fun _ => true) true Tryd.f3.params.toList args.toList ds p := hA0
  rw [Tryd.params3] at hA hval
  obtain ⟨v0, vs0, d0, ds0, p0, q0, hargs, rfl, rfl, h0, r0⟩ := trodAll_cons hA
  obtain ⟨rfl, rfl, rfl⟩ := trodAll_nil r0
  obtain rfl : args = #[v0] := by cases args; simp_all
  obtain ⟨rfl, rfl⟩ := trodVars_none hV
  have k0 := h0
  have lt0 : ∀ x ∈ p0, x.block < W.heap.size := by obtain ⟨m, hm⟩ := k0; exact DataW.trod_lt m _ _ _ hm
  obtain ⟨a0, len0, cap0, rfl⟩ := okWide_slice Tryd.underlying22 (hval 0 22 v0 rfl rfl)
  have w0 : RawN W (.slice a0 len0 cap0) := by obtain ⟨fuel, hf⟩ := h0; exact rawN_trod hf
  clear hA0 hval0
  refine (walk_FnExactFormulaText (.slice a0 len0 cap0) W w0).mono fun e W' ⟨he, bel⟩ => ?_
  subst he
  exact ⟨_, rfl, _, _, _, [], _, [], hW', trodAll_mk1 (shut_bool Tryd.underlying4 _), (trodAll_cons_mk (Below.trod laidOutB_prog (by kernel_rfl) (of_decide_eq_true (by kernel_rfl)) k0 bel lt0) (trodAll_mk0)), rfl, bel.frame _, fun h => by cases h⟩
end
/-- THE STATEMENT. -/
theorem row_FnExactFormulaText : Rows.FnExactFormulaTextSaid :=
  OpenClaim.holds_of_wide 3 Tryd.f3 rfl rfl rfl rfl rfl rfl rfl ⟨rfl, rfl, rfl, rfl, rfl⟩ rfl rfl rfl rfl rfl (by kernel_rfl) Tryd.func3 (by kernel_rfl)
    (of_decide_eq_true (by kernel_rfl)) (by unfold Func.isWrapper; first | (rw [if_pos (by decide +kernel)]; kernel_rfl) | (rw [if_neg (by decide +kernel)]; exact ⟨rfl, rfl⟩))
    (fun os started H enc _ => lifted_FnExactFormulaText os started H enc)
/-- THE CARD. -/
theorem proved_FnExactFormulaText : Rows.FnExactFormulaTextCardSaid :=
  Claim7.holds_tied_plain_at .later [] [.data, .data, .data] true (true, "ff2dec984ed3971f12589f5a132c2cfb707b118204f82a689bcb74b4904b07d8") true
    row_FnExactFormulaText (fun _ h => by cases h) (by kernel_rfl) (fun _ h => by cases h) fnExactFormulaText_row_tie rfl ⟨rfl, rfl⟩ (by kernel_rfl) rfl
    (fun f fn hf hfn => by
      obtain rfl : f = 3 := Option.some.inj ((show Tryd.prog.funcNamed "loop.example/g01083/laws.FnExactFormulaText" = some 3 by kernel_rfl).symm.trans hf) |>.symm
      obtain rfl : fn = Tryd.f3 := (Option.some.inj (Tryd.func3.symm.trans hfn)).symm
      exact ⟨by kernel_rfl, fun j t ht => by
        rw [Tryd.params3] at ht
        have hm : t ∈ [22] := by simpa using Array.mem_of_getElem? ht
        have hall : ([22].all fun u => !Tryd.prog.wantsStandIn u) = true := by kernel_rfl
        exact (show Tryd.prog.wantsStandIn t = false by simpa using List.all_eq_true.1 hall t hm)⟩)
    (by kernel_rfl)
end Go.Proofs.YtjlpmfimbgbcmaaDoor
