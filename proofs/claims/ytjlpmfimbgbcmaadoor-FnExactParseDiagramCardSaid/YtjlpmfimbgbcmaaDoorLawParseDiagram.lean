/- FnExactParseDiagram returns true for every input and leaves its arguments as they were, the listed variables tied to the program's text. No condition of ours. -/
import Derived.Test.YtjlpmfimbgbcmaaDoorPw
import Derived.Test.YtjlpmfimbgbcmaaDoorFrame
import Derived.Test.YtjlpmfimbgbcmaaDoorCards
import Derived.Test.YtjlpmfimbgbcmaaDoorTie
import Derived.LaidMore
import Derived.LaidLaws
import Derived.LaidHandle
import Derived.Stop.Joined
import Derived.Stop.LaidErr
import Derived.MakeChecks
import Derived.SevenTiedAt
import Derived.ChangeMaps5
namespace Go.Proofs.YtjlpmfimbgbcmaaDoor
open Go.ChangeShapes Go.WideShapes Go.ChangeAt Go.RowKit
set_option maxRecDepth 100000
theorem gErr : Tryd.prog.globalNamed "loop.example/g01083/impl.errSyntax" = some 6 := by kernel_rfl
theorem gErrType : (Tryd.prog.globals[6]?).map (·.type) = some 106 := by kernel_rfl
theorem starErr : "*" ++ "errors.errorString" = "*errors.errorString" := by decide
theorem rowErr (u : TypeId) (h : Tryd.prog.typeName? 3 u = some "*errors.errorString") : u = 166 :=
  typeName_ptr_named (nm := "errors.errorString") (by rw [starErr]; kernel_rfl) (by kernel_rfl) (by decide) u (by rw [starErr]; exact h)
theorem err_of_laid {W : World} (hL : laidMetH Tryd.prog Rows.fnExactParseDiagramRow.laid W) : ∃ t a, W.var? Tryd.prog "loop.example/g01083/impl.errSyntax" = some #[.iface t (.pointer (some a))] := by
  have h : laidMet Tryd.prog Rows.fnExactParseDiagramRow.laid W := by
    rw [← Go.MakeChecks.laidMetH_plain _ _ _ (by kernel_rfl)]
    exact hL
  obtain ⟨a, s, hv, -, -, -⟩ := laid_sentinel (r := []) h gErr gErrType Tryd.underlying106 rowErr Tryd.underlying166 Tryd.underlying168 rfl rfl Tryd.underlying9 (by kernel_rfl) (by kernel_rfl)
  exact ⟨_, a, hv⟩
theorem var_bel {W W' : World} {n : String} {g : Nat} (hb : Below W.heap.size W W') (hg : Tryd.prog.globalNamed n = some g) (hlt : g < W.heap.size) : W'.var? Tryd.prog n = W.var? Tryd.prog n := by
  simp only [World.var?, hg, Option.bind_some]
  rw [hb.block g hlt]
section
theorem door_FnExactParseDiagram (os : Os) (args : Array Value) : laidMetH Tryd.prog Rows.fnExactParseDiagramRow.laid ((World.doorLaid Tryd.prog 400 os).forCall (fun _ _ => 0) ⟨#[], args, []⟩).memory :=
  laidMetH_of_parts3 (fuel := 8) (laidMet_of_run' 8 (by kernel_rfl) (by kernel_rfl)) (by kernel_rfl) (by kernel_rfl)
set_option maxRecDepth 100000 in
theorem lifted_FnExactParseDiagram (os : Os) (started : os.Started) (H : Type) (enc : TypeId × Value → H) :
    ReturnsInHanded {} Tryd.checked os 5 .any (fun w args => (Rows.fnExactParseDiagramSpec.pre enc Tryd.prog Tryd.f5 [] false w args ∧ laidMetH Tryd.prog Rows.fnExactParseDiagramRow.laid w) ∧ sizedMet enc Tryd.prog Tryd.f5 (OpenSpec.ofChange Rows.fnExactParseDiagramSpec) false w args) (Rows.fnExactParseDiagramSpec.post enc Tryd.prog Tryd.f5 false true false false) := by
  refine returnsInHanded_of_change_and (C := Tryd.checked) (X := fun w _ => laidMetH Tryd.prog Rows.fnExactParseDiagramRow.laid w) (fun _ _ _ hh h => h.of_heap hh) ownKnobNone started (by kernel_rfl) Tryd.func5
    (ChangeSpec.witness_shaped (enc := enc) (C := Tryd.checked) (os := os) (X := fun w _ => laidMetH Tryd.prog Rows.fnExactParseDiagramRow.laid w) false (World.doorLaid Tryd.prog 400 os) #[.string ⟨#[]⟩] 8 rfl (World.shaped_of_RefB (by kernel_rfl) (by kernel_rfl)) (by kernel_rfl) (by kernel_rfl) (by kernel_rfl) (door_FnExactParseDiagram os _)) ?_
  intro W base args ds gs before hval0 hW _ _ hL _
  have hval : ∀ (j : Nat) t v, Tryd.f5.params[j]? = some t → args[j]? = some v → Value.okWide Tryd.prog W .any base t v := hval0
  have hW' := hW
  obtain ⟨p, q, hA0, hV, rfl, hfz, hnd⟩ := hW
  have hA : DataW.TrodAll enc Tryd.prog W 0 (fun _ => true) true Tryd.f5.params.toList args.toList ds p := hA0
  rw [Tryd.params5] at hA hval
  obtain ⟨v0, vs0, d0, ds0, p0, q0, hargs, rfl, rfl, h0, r0⟩ := trodAll_cons hA
  obtain ⟨rfl, rfl, rfl⟩ := trodAll_nil r0
  obtain rfl : args = #[v0] := by cases args; simp_all
  obtain ⟨te, ae, hv⟩ := err_of_laid hL
  obtain ⟨rfl, rfl⟩ := hV.unique (vars_read1 enc gErr gErrType Tryd.underlying106 hv trivial _)
  obtain ⟨s, rfl, rfl, rfl, hs⟩ := Go.ChangeMaps.open_string Tryd.underlying9 (hval 0 9 v0 rfl rfl) h0
  have hc : W.cell? ⟨6, 0, none⟩ = some (.iface te (.pointer (some ae))) := by simpa using World.var?_cell gErr hv 0
  have h6 : 6 < W.heap.size := World.block_lt_of_cell? _ _ hc
  clear hA0 hval0
  refine (law_ParseDiagram (T := s) ⟨hc, h6, te, ae, rfl⟩ (by unfold maxLen at hs; omega)).mono fun e W' ⟨he, bel⟩ => ?_
  subst he
  exact ⟨_, rfl, _, _, _, [], _, _, hW', trodAll_mk1 (shut_bool Tryd.underlying4 _), (trodAll_cons_mk (Go.ChangeMaps.shut_string Tryd.underlying9 hs) (trodAll_mk0)), vars_read1 (x := .iface te (.pointer (some ae))) enc gErr gErrType Tryd.underlying106 (by rw [var_bel bel gErr h6]; exact hv) trivial _, bel.frame _, fun h => by cases h⟩
end
/-- THE STATEMENT. -/
theorem row_FnExactParseDiagram : Rows.FnExactParseDiagramSaid :=
  OpenClaim.holds_of_wide 5 Tryd.f5 rfl rfl rfl rfl rfl rfl rfl ⟨rfl, rfl, rfl, rfl, rfl⟩ rfl rfl rfl rfl rfl (by kernel_rfl) Tryd.func5 (by kernel_rfl)
    (of_decide_eq_true (by kernel_rfl)) (by unfold Func.isWrapper; first | (rw [if_pos (by decide +kernel)]; kernel_rfl) | (rw [if_neg (by decide +kernel)]; exact ⟨rfl, rfl⟩))
    (fun os started H enc _ => lifted_FnExactParseDiagram os started H enc)
/-- THE CARD. -/
theorem proved_FnExactParseDiagram : Rows.FnExactParseDiagramCardSaid :=
  Claim7.holds_tied_plain_at .later [] [.sentinel] true (true, "ff2dec984ed3971f12589f5a132c2cfb707b118204f82a689bcb74b4904b07d8") true
    row_FnExactParseDiagram (fun _ h => by cases h) (by kernel_rfl) (fun _ h => by cases h) fnExactParseDiagram_row_tie rfl ⟨rfl, rfl⟩ (by kernel_rfl) rfl
    (fun f fn hf hfn => by
      obtain rfl : f = 5 := Option.some.inj ((show Tryd.prog.funcNamed "loop.example/g01083/laws.FnExactParseDiagram" = some 5 by kernel_rfl).symm.trans hf) |>.symm
      obtain rfl : fn = Tryd.f5 := (Option.some.inj (Tryd.func5.symm.trans hfn)).symm
      exact ⟨by kernel_rfl, fun j t ht => by
        rw [Tryd.params5] at ht
        have hm : t ∈ [9] := by simpa using Array.mem_of_getElem? ht
        have hall : ([9].all fun u => !Tryd.prog.wantsStandIn u) = true := by kernel_rfl
        exact (show Tryd.prog.wantsStandIn t = false by simpa using List.all_eq_true.1 hall t hm)⟩)
    (by kernel_rfl)
end Go.Proofs.YtjlpmfimbgbcmaaDoor
