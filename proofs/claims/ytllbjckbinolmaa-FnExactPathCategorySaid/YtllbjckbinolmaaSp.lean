/-
  PathCategory of the reference.
-/
import Derived.Test.YtllbjckbinolmaaLp
namespace Go.Proofs.Ytllbjckbinolmaa
open Go.RowKit

set_option maxRecDepth 1000000 in
set_option maxHeartbeats 8000000 in
theorem s_PathCategory {w : World} {uf ut : Value} {fr to : List Int} (n : Int) (hn : I64 n) (hf : IS w uf fr) (ht : IS w ut to) (hm : fr.length ≤ 1048576 := by omega) : Calls Try.prog 4 #[.int .i64 n, uf, ut] w (MkV w (pathR n fr to)) := by
  have HF := Lib.hid hf
  have HT := Lib.hid ht
  obtain ⟨af, bf, of, cf, rfl, -⟩ := hf.ex
  obtain ⟨at_, bt, ot, ct, rfl, -⟩ := ht.ex
  have hfl := hf.len
  have htl := ht.len
  clear hf ht
  have B0 : RS w w.heap.size 25 (w.alloc (.cells #[.int .i64 0, .slice none 0 0, .slice none 0 0, .slice none 0 0, .slice none 0 0] 25)) := RS.new (Below.refl _ _)
  by_cases hl : fr.length = to.length
  · have dl : ((fr.length : Int) != (to.length : Int)) = false := by simp [hl]
    have HL := Lib.hid hl
    clear hl
    go_enter Try.func4, Try.ntmps4
    go_wp2_with fail
    generalize w.alloc (.cells #[.int .i64 0, .slice none 0 0, .slice none 0 0, .slice none 0 0, .slice none 0 0] 25) = W0 at *
    refine (c_l01In _ _ _ _).mono ?_
    rintro e w' ⟨rfl, n1, rfl⟩
    have B1 := B0.drawn ⟨n1, rfl⟩
    generalize W0.drewN n1 = W1 at *
    clear B0
    by_cases hr : inR n 0 8 = true
    · obtain ⟨N, rfl⟩ : ∃ N : Nat, n = N := Int.eq_ofNat_of_zero_le (inR_0' hr)
      have hN8 : N ≤ 8 := by have := inR_8' hr; omega
      have HR := Lib.hid hr
      rw [hr]
      clear hr
      go_wp2_with fail
      refine (c_l01Map (HF.out.kept B1.bel) (N : Int)).mono ?_
      rintro e w' ⟨rfl, n2, rfl⟩
      have B2 := B1.drawn ⟨n2, rfl⟩
      generalize W1.drewN n2 = W2 at *
      clear B1
      by_cases h1 : allIn (N : Int) fr = true
      · have H1 := Lib.hid h1
        rw [h1]
        clear h1
        go_wp2_with fail
        refine (c_l01Map (HT.out.kept B2.bel) (N : Int)).mono ?_
        rintro e w' ⟨rfl, n3, rfl⟩
        have B3 := B2.drawn ⟨n3, rfl⟩
        generalize W2.drewN n3 = W3 at *
        clear B2
        by_cases h2 : allIn (N : Int) to = true
        · have H2 := Lib.hid h2
          rw [h2]
          clear h2
          have hE := fun j (hj : j < fr.length) => And.intro (allIn_gi H1.out hj) (allIn_gi H2.out (show j < to.length by rw [← HL.out]; exact hj))
          go_wp2_with fail
          refine (c_l03Cyclic (HF.out.kept B3.bel) (HT.out.kept B3.bel) HL.out.symm hm hN8 hE).mono ?_
          rintro e W4 ⟨rfl, b4⟩
          have B4 := B3.call b4
          clear B3 b4
          by_cases h3 : cycB N (lps fr to fr.length (N + 1))
          · have hR := pathR_5 HL.out ⟨HR.out, H1.out, H2.out⟩ h3
            rw [decide_eq_true h3]
            clear h3 hE
            obtain ⟨-, x0, x1, x2, x3, x4, f0, f1, f2, f3, f4⟩ := B4.all
            go_wp2_with fail
            refine bodyPost_ret (results_cell_row2 rfl _ _ w.heap.size 25 #[_, _, _, _, _] (0, 0) _ (by rfl) (RS.five (w := w) B4 _ _ _ _ _) Try.underlying25 rfl (by kernel_rfl)) rfl ?_
            exact mkV_nil5 B4 hR
          · have H3 := Lib.hid h3
            rw [decide_eq_false h3]
            clear h3
            go_wp2_with fail
            refine (s_l03Paths (HF.out.kept B4.bel) (HT.out.kept B4.bel) HL.out.symm hm hN8 hE).mono ?_
            rintro e W5 ⟨u, rfl, ⟨aF, kF, aT, nT, kT, aI, nI, kI, aC, nC, kC, rfl, hV⟩, b5⟩
            have B5 := B4.call b5
            have b4l := B4.lt
            have hql : (qall N fr to).length ≤ 4294967296 := by
              have h1 := bfs_bd (fr := fr) (to := to) 41 (ids N) 0 (by rw [ids_len]; omega)
              have h2 : (qall N fr to).length ≤ 40 + fr.length := h1
              omega
            by_cases h40 : (qall N fr to).length ≤ 40
            · have hff : fitsB (N : Int) (qall N fr to).length = true := by
                unfold fitsB
                rw [decide_eq_true (by omega : (N : Int) ≤ 8), decide_eq_true h40]; rfl
              have hR := pathR_0 HL.out ⟨HR.out, H1.out, H2.out⟩ H3.out h40
              have hV2 := hV h40
              generalize (qall N fr to).length = m at *
              clear hV hE b5 B4
              go_wp2_with fail
              refine (c_l03Made_yes hql hff).mono ?_
              rintro e w3 ⟨rfl, b3⟩
              have B6 := B5.call b3
              have hV3 := hV2.keptB b3
              obtain ⟨-, x0, x1, x2, x3, x4, f0, f1, f2, f3, f4⟩ := B6.all
              clear b3 hV2
              go_wp2_with fail
              refine bodyPost_ret (results_cell_row2 rfl _ _ w.heap.size 25 #[_, _, _, _, _] (0, 0) _ (by rfl) (RS.five (w := w) B6 _ _ _ _ _) Try.underlying25 rfl (by kernel_rfl)) rfl ?_
              rw [hR]
              exact mkV_put B6 0 hV3 (by omega)
            · have hff : fitsB (N : Int) (qall N fr to).length = false := by
                unfold fitsB
                rw [decide_eq_false h40, Bool.and_false]
              have hR := pathR_3 HL.out ⟨HR.out, H1.out, H2.out⟩ H3.out h40
              generalize (qall N fr to).length = m at *
              clear hV hE b5 B4
              go_wp2_with fail
              refine (c_l03Made_no hql hff).mono ?_
              rintro e w3 ⟨rfl, b3⟩
              have B6 := B5.call b3
              clear b3
              obtain ⟨-, x0, x1, x2, x3, x4, f0, f1, f2, f3, f4⟩ := B6.all
              go_wp2_with fail
              refine bodyPost_ret (results_cell_row2 rfl _ _ w.heap.size 25 #[_, _, _, _, _] (0, 0) _ (by rfl) (RS.five (w := w) B6 _ _ _ _ _) Try.underlying25 rfl (by kernel_rfl)) rfl ?_
              exact mkV_nil5 B6 hR
        · have hR := pathR_2 HL.out (fun h => h2 h.2.2)
          have h2' : allIn (N : Int) to = false := by simpa using h2
          rw [h2']
          clear h2 h2'
          obtain ⟨-, x0, x1, x2, x3, x4, f0, f1, f2, f3, f4⟩ := B3.all
          go_wp2_with fail
          refine bodyPost_ret (results_cell_row2 rfl _ _ w.heap.size 25 #[_, _, _, _, _] (0, 0) _ (by rfl) (RS.five (w := w) B3 _ _ _ _ _) Try.underlying25 rfl (by kernel_rfl)) rfl ?_
          exact mkV_nil5 B3 hR
      · have hR := pathR_2 HL.out (fun h => h1 h.2.1)
        have h1' : allIn (N : Int) fr = false := by simpa using h1
        rw [h1']
        clear h1 h1'
        obtain ⟨-, x0, x1, x2, x3, x4, f0, f1, f2, f3, f4⟩ := B2.all
        go_wp2_with fail
        refine bodyPost_ret (results_cell_row2 rfl _ _ w.heap.size 25 #[_, _, _, _, _] (0, 0) _ (by rfl) (RS.five (w := w) B2 _ _ _ _ _) Try.underlying25 rfl (by kernel_rfl)) rfl ?_
        exact mkV_nil5 B2 hR
    · have hR := pathR_2 HL.out (fun h => hr h.1)
      have hr' : inR n 0 8 = false := by simpa using hr
      rw [hr']
      clear hr hr'
      obtain ⟨-, x0, x1, x2, x3, x4, f0, f1, f2, f3, f4⟩ := B1.all
      go_wp2_with fail
      refine bodyPost_ret (results_cell_row2 rfl _ _ w.heap.size 25 #[_, _, _, _, _] (0, 0) _ (by rfl) (RS.five (w := w) B1 _ _ _ _ _) Try.underlying25 rfl (by kernel_rfl)) rfl ?_
      exact mkV_nil5 B1 hR
  · have dl : ((fr.length : Int) != (to.length : Int)) = true := by simp; omega
    have hR := pathR_1 (n := n) hl
    clear hl
    go_enter Try.func4, Try.ntmps4
    clear B0
    go_wp2_with fail
    refine bodyPost_ret (results_cell_row2 rfl _ _ w.heap.size 25 #[_, _, _, _, _] (0, 0) _ (by rfl) (new_at w _) Try.underlying25 rfl (by kernel_rfl)) rfl ?_
    obtain ⟨u, h1, h2, h3⟩ := mkC_nil hR (bel_box w (.cells #[.int .i64 0, .slice none 0 0, .slice none 0 0, .slice none 0 0, .slice none 0 0] 25))
    exact ⟨u, h1, h2.view, h3⟩
end Go.Proofs.Ytllbjckbinolmaa
