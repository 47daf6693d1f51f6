/-
  PathCategory of the program: the walk.
-/
import Derived.Test.YtllbjckbinolmaaPim
namespace Go.Proofs.Ytllbjckbinolmaa
open Go.RowKit

set_option maxRecDepth 1000000 in
set_option maxHeartbeats 8000000 in
theorem i_PathCategory {w : World} {uf ut : Value} {fr to : List Int} (n : Int) (hn : I64 n) (hf : IS w uf fr) (ht : IS w ut to) (hm : fr.length ≤ 1048576 := by omega) : Calls Try.prog 6 #[.int .i64 n, uf, ut] w (MkC w (pathR n fr to)) := by
  have HF := Lib.hid hf
  have HT := Lib.hid ht
  obtain ⟨af, bf, of, cf, rfl, -⟩ := hf.ex
  obtain ⟨at_, bt, ot, ct, rfl, -⟩ := ht.ex
  have hfl := hf.len
  have htl := ht.len
  clear hf ht
  have B0 : RS w w.heap.size 25 (w.alloc (.cells #[.int .i64 0, .slice none 0 0, .slice none 0 0, .slice none 0 0, .slice none 0 0] 25)) := RS.new (Below.refl _ _)
  by_cases hl : fr.length = to.length
  · have dl : ((fr.length : Int) != (to.length : Int)) = false := by simp [hl]
    have HL := Lib.hid hl
    clear hl
    go_enter Try.func6, Try.ntmps6
    go_wp2_with fail
    generalize w.alloc (.cells #[.int .i64 0, .slice none 0 0, .slice none 0 0, .slice none 0 0, .slice none 0 0] 25) = W0 at *
    refine (c_inRange _ _ _ _).mono ?_
    rintro e w' ⟨rfl, n1, rfl⟩
    have B1 := B0.drawn ⟨n1, rfl⟩
    generalize W0.drewN n1 = W1 at *
    clear B0
    by_cases hr : inR n 0 8 = true
    · obtain ⟨N, rfl⟩ : ∃ N : Nat, n = N := Int.eq_ofNat_of_zero_le (inR_0' hr)
      have hN8 : N ≤ 8 := by have := inR_8' hr; omega
      have HR := Lib.hid hr
      rw [hr]
      clear hr
      go_wp2_with fail
      refine (c_within (HF.out.kept B1.bel) (N : Int) (by omega) (by omega)).mono ?_
      rintro e w' ⟨rfl, n2, rfl⟩
      have B2 := B1.drawn ⟨n2, rfl⟩
      generalize W1.drewN n2 = W2 at *
      clear B1
      by_cases h1 : allIn (N : Int) fr = true
      · have H1 := Lib.hid h1
        rw [h1]
        clear h1
        go_wp2_with fail
        refine (c_within (HT.out.kept B2.bel) (N : Int) (by omega) (by omega)).mono ?_
        rintro e w' ⟨rfl, n3, rfl⟩
        have B3 := B2.drawn ⟨n3, rfl⟩
        generalize W2.drewN n3 = W3 at *
        clear B2
        by_cases h2 : allIn (N : Int) to = true
        · have H2 := Lib.hid h2
          rw [h2]
          clear h2
          have hE := fun j (hj : j < fr.length) => And.intro (allIn_gi H1.out hj) (allIn_gi H2.out (show j < to.length by rw [← HL.out]; exact hj))
          have hEd : ∀ u v, Ed fr to fr.length u v → u < N ∧ v < N := fun u v ⟨j, hj, e1, e2⟩ => by
            have := hE j hj
            omega
          go_wp2_with fail
          refine (c_hasCycle (b := decide (cycB N (lps fr to fr.length (N + 1)))) (HF.out.kept B3.bel) (HT.out.kept B3.bel) HL.out.symm hm hN8 hE (decide_eq_true_iff.trans (long_cyc hEd).symm)).mono ?_
          rintro e W4 ⟨rfl, b4⟩
          have B4 := B3.call b4
          clear B3 b4
          by_cases h3 : cycB N (lps fr to fr.length (N + 1))
          · have hR := pathR_5 HL.out ⟨HR.out, H1.out, H2.out⟩ h3
            rw [decide_eq_true h3]
            clear h3 hEd hE
            obtain ⟨-, x0, x1, x2, x3, x4, f0, f1, f2, f3, f4⟩ := B4.all
            go_wp2_with fail
            refine bodyPost_ret (results_cell_row2 rfl _ _ w.heap.size 25 #[_, _, _, _, _] (0, 0) _ (by rfl) (RS.five (w := w) B4 _ _ _ _ _) Try.underlying25 rfl (by kernel_rfl)) rfl ?_
            exact mkC_nil5 B4 hR
          · have H3 := Lib.hid h3
            rw [decide_eq_false h3]
            clear h3 hEd
            go_wp2_with fail
            refine (c_routes (HF.out.kept B4.bel) (HT.out.kept B4.bel) HL.out.symm hm hN8 hE).mono ?_
            rintro e W5 ⟨b5, hrt⟩
            have B5 := B4.call b5
            have b4l := B4.lt
            by_cases h40 : (qall N fr to).length ≤ 40
            · rw [if_pos h40] at hrt
              obtain ⟨lv, X, rfl, hO, hP, hS⟩ := hrt
              have H40 := Lib.hid h40
              have HGS := Lib.hid (qall_gs (fun j hj => (hE j hj).2) hP)
              have HLN := Lib.hid (fun x hx => qall_len (hP.mem_iff.1 (List.mem_map_of_mem (f := Prod.fst) hx) : (x : RV).1 ∈ qall N fr to))
              have HXL : Hid (X.length ≤ 40) := by
                have := hP.length_eq
                rw [List.length_map] at this
                unfold Hid; omega
              have HSQ := Lib.hid (sq_eq hP hS)
              have HR0 := Lib.hid (pathR_0 HL.out ⟨HR.out, H1.out, H2.out⟩ H3.out h40)
              replace hO := hO.mono (B' := w.heap.size + 1) (T' := W5.heap.size) (by omega) (Nat.le_refl _)
              clear h40 hP hS hE b5 B4 H1 H2 H3 HR H40 HF HT HL b4l W4
              obtain ⟨g, cc, rfl, hBg, hTg, hgl, -⟩ := hO.cells
              obtain ⟨M, hM⟩ : ∃ M, M = X.length := ⟨_, rfl⟩
              have hM40 : M ≤ 40 := by rw [hM]; exact HXL.out
              rw [← hM] at hO ⊢
              have HM := Lib.hid hM
              have hmk := run_make_row' (P := Try.prog) 22 2 (.int .i64 0) 8 Try.underlying22 infoInt64 rfl .i64 .i64 N (by omega) (by omega)
              have hq := B5.lt
              have hgp := GP.start (n := N) B5 hq hO
              have HGP := Lib.hid hgp
              clear hgp B5 hO hM
              go_wp2_with fail
              clear hmk
              generalize ((W5.alloc (.cells #[.slice (some ⟨g, 0, none⟩) M cc] 39)).alloc (.cells (madeCells #[.int .i64 0] N) 2)).alloc (.cells #[.int .i64 N, .slice none 0 0, .slice none 0 0, .slice (some ⟨W5.heap.size + 1, 0, none⟩) N N, .slice none 0 0] 25) = W6 at *
              obtain ⟨z, hz⟩ : ∃ z, z = W5.heap.size := ⟨_, rfl⟩
              rw [← hz] at HGP ⊢
              clear hz hq hTg hgl
              go_loopw [56] (fun iv wr => ∃ (k : Nat) (vf vt : Value), k ≤ M ∧ iv = .int .i64 k ∧ GP w w.heap.size (z + 1 + 1) z (z + 1) N z (.slice (some ⟨g, 0, none⟩) M cc) X wr vf vt vf vt (fS X k) (tS X k) (idF (X.map (·.1)) k)) (fun iv _ => M - (intOf iv).toNat)
              case atStart => exact ⟨0, _, _, Nat.zero_le _, rfl, HGP.out⟩
              case round =>
                clear HGP
                obtain ⟨k, vf, vt, hk, rfl, hp⟩ := hrel
                by_cases hlt : k < M
                · have hkX : k < X.length := by rw [← HM.out]; exact hlt
                  obtain ⟨⟨c0, c1, c2⟩, -, oa, hgw, -⟩ := hp.ol.at hkX
                  have hrg := HGS.out.rng (rx X k) (by rw [← rt_rx]; exact rt_mem (by simpa using hkX))
                  have hFS := Lib.hid (fS_succ hkX)
                  have hTS := Lib.hid (tS_succ hkX)
                  have hfl2 := fS_len (Nat.le_of_lt hkX)
                  have htl2 := tS_len (Nat.le_of_lt hkX)
                  obtain ⟨au, cu, hu⟩ := oa.shape
                  rw [hu] at c2
                  obtain ⟨r, hr⟩ : ∃ r, r = rx X k := ⟨_, rfl⟩
                  rw [← hr] at c0 c1 c2 hrg hFS hTS
                  have HRX := Lib.hid hr
                  clear oa hu hr hkX
                  obtain ⟨⟨ra0, ra1⟩, rb0, rb1⟩ := hrg
                  obtain ⟨FF, hFF⟩ : ∃ L, L = fS X k := ⟨_, rfl⟩
                  obtain ⟨TT, hTT⟩ : ∃ L, L = tS X k := ⟨_, rfl⟩
                  rw [← hFF] at hp hFS hfl2
                  rw [← hTT] at hp hTS htl2
                  clear hFF hTT
                  obtain ⟨aF, nF, kF, rfl⟩ : ∃ a n k, vf = .slice a n k := (by obtain ⟨a, c, e⟩ := hp.of.shape; exact ⟨_, _, _, e⟩)
                  obtain ⟨aT, nT, kT, rfl⟩ : ∃ a n k, vt = .slice a n k := (by obtain ⟨a, c, e⟩ := hp.ot.shape; exact ⟨_, _, _, e⟩)
                  have hp1 := hp.call (bel_box wr (.cells #[.int .i64 r.a, .int .i64 r.b, .slice au r.path.length cu] 45))
                  obtain ⟨k0, k1, k2, k3, k4, f1, f2⟩ := hp1.facts
                  have y0 : (wr.alloc (.cells #[.int .i64 r.a, .int .i64 r.b, .slice au r.path.length cu] 45)).cell? ⟨wr.heap.size, 0, none⟩ = some (.int .i64 r.a) := by simp
                  have y1 : (wr.alloc (.cells #[.int .i64 r.a, .int .i64 r.b, .slice au r.path.length cu] 45)).cell? ⟨wr.heap.size, 1, none⟩ = some (.int .i64 r.b) := by simp
                  have y2 : (wr.alloc (.cells #[.int .i64 r.a, .int .i64 r.b, .slice au r.path.length cu] 45)).cell? ⟨wr.heap.size, 2, none⟩ = some (.slice au r.path.length cu) := by simp
                  have hvf := hp.sep.at 4 rfl
                  have hvt := hp.sep.at 5 rfl
                  have hcl := hp.rc.lt
                  have hgil := hp.ri.lt
                  have zz : (wr.alloc (.cells #[.int .i64 r.a, .int .i64 r.b, .slice au r.path.length cu] 45)).heap.size = wr.heap.size + 1 := by simp
                  have HP := Lib.hid hp
                  have iA : I64 r.a := by constructor <;> omega
                  have iB : I64 r.b := by constructor <;> omega
                  have hf3 : FF.length ≤ 40 := by omega
                  have ht3 : TT.length ≤ 40 := by omega
                  clear hp hfl2 htl2
                  go_wp2_with (at_builtin; refine hold ?_)
                  refine app1 hp1.of iA (by omega) (by have := hp1.rc.lt; omega) Try.underlying22 infoInt64 (by rfl) _ _ (by rfl) (by rfl) (by first | rfl | (rw [zz]; rfl)) ?_
                  intro v1 w1 o1 g1
                  obtain ⟨a1, n1', c1', rfl⟩ : ∃ a n c, v1 = .slice a n c := (by obtain ⟨a, c, e⟩ := o1.shape; exact ⟨_, _, _, e⟩)
                  have hq1 := hp1.growF o1 g1
                  have hp2 := hq1.setF
                  have yb1 := g1.cellR y1 (fun q hq => by have := hvf q hq; show q ≠ wr.heap.size; omega)
                  have yb2 := g1.cellR y2 (fun q hq => by have := hvf q hq; show q ≠ wr.heap.size; omega)
                  have yb0 := g1.cellR y0 (fun q hq => by have := hvf q hq; show q ≠ wr.heap.size; omega)
                  have hne : wr.heap.size ≠ z + 1 + 1 := by omega
                  have ys1 := set_cell_ne (p := ⟨z + 1 + 1, 1, none⟩) (u := .slice a1 n1' c1') yb1 hne
                  have ys2 := set_cell_ne (p := ⟨z + 1 + 1, 1, none⟩) (u := .slice a1 n1' c1') yb2 hne
                  have ys0 := set_cell_ne (p := ⟨z + 1 + 1, 1, none⟩) (u := .slice a1 n1' c1') yb0 hne
                  clear k0 k1 k2 k3 k4 f1 f2
                  obtain ⟨k0, k1, k2, k3, k4, f1, f2⟩ := hq1.facts
                  obtain ⟨l0, l1, l2, l3, l4, d1, d2⟩ := hp2.facts
                  clear hq1 hp1 g1 o1 y0 y1 y2 yb0 yb1 yb2 zz
                  go_wp2_with (at_builtin; refine hold ?_)
                  refine app1 hp2.ot iB (by omega) (by have := hp2.rc.lt; omega) Try.underlying22 infoInt64 (by rfl) _ _ (by rfl) (by rfl) (by first | rfl | (rw [size_set]; rfl)) ?_
                  intro v2 w2 o2 g2
                  obtain ⟨a2, n2', c2', rfl⟩ : ∃ a n c, v2 = .slice a n c := (by obtain ⟨a, c, e⟩ := o2.shape; exact ⟨_, _, _, e⟩)
                  have hq2 := hp2.growT o2 g2
                  have hp3 := hq2.setT
                  have yb1 := g2.cellR ys1 (fun q hq => by have := hvt q hq; show q ≠ wr.heap.size; omega)
                  have yb2 := g2.cellR ys2 (fun q hq => by have := hvt q hq; show q ≠ wr.heap.size; omega)
                  have yc2 := set_cell_ne (p := ⟨z + 1 + 1, 2, none⟩) (u := .slice a2 n2' c2') yb2 hne
                  have yb0 := g2.cellR ys0 (fun q hq => by have := hvt q hq; show q ≠ wr.heap.size; omega)
                  have yc0 := set_cell_ne (p := ⟨z + 1 + 1, 2, none⟩) (u := .slice a2 n2' c2') yb0 hne
                  clear k0 k1 k2 k3 k4 f1 f2 l0 l1 l2 l3 l4 d1 d2
                  obtain ⟨k0, k1, k2, k3, k4, f1, f2⟩ := hq2.facts
                  obtain ⟨l0, l1, l2, l3, l4, d1, d2⟩ := hp3.facts
                  clear hq2 hp2 g2 o2 ys0 ys1 ys2 yb0 yb1 yb2
                  by_cases hpl : r.path.length = 0
                  · have dpl : ((r.path.length : Int) == 0) = true := by simp [hpl]
                    obtain ⟨a, haa⟩ := Int.eq_ofNat_of_zero_le ra0
                    have haN : a < N := by omega
                    have ci : (w2.setCell ⟨z + 1 + 1, 2, none⟩ (.slice a2 n2' c2')).cell? ⟨z + 1, a, none⟩ = some (.int .i64 (idF (X.map (·.1)) k a)) := hp3.ri.cell haN
                    have fi := hp3.ri.frozen a
                    have hp4 := Lib.hid (hp3.setI a (k : Int))
                    have HID : Hid (idF (X.map (·.1)) (k + 1) = fun y => if y = a then (k : Int) else idF (X.map (·.1)) k y) := idF_yes (by rw [rt_rx, ← HRX.out]; exact hpl) (by rw [rt_rx, ← HRX.out]; exact haa)
                    have HPL := Lib.hid hpl
                    rw [haa] at yc0
                    clear hp3 hpl haa
                    go_wp2_with fail
                    go_roundw
                    case rel => exact ⟨k + 1, _, _, by omega, by go_num, by rw [hFS.out, hTS.out, HID.out]; exact hp4.out⟩
                    case measure => simp [intOf]; omega
                  · have dpl : ((r.path.length : Int) == 0) = false := by rw [beq_eq_false_iff_ne]; omega
                    have hp4 := Lib.hid hp3
                    have HID : Hid (idF (X.map (·.1)) (k + 1) = idF (X.map (·.1)) k) := idF_no (by rw [rt_rx, ← HRX.out]; exact hpl)
                    clear hp3
                    go_wp2_with fail
                    go_roundw
                    case rel => exact ⟨k + 1, _, _, by omega, by go_num, by rw [hFS.out, hTS.out, HID.out]; exact hp4.out⟩
                    case measure => simp [intOf]; omega
                · obtain rfl : k = M := by omega
                  have hS40 : (X.map (·.1)).length ≤ 40 := by simpa using HXL.out
                  have hSk : (X.map (·.1)).length = k := by rw [List.length_map, HM.out]
                  have hkX : k ≤ X.length := Nat.le_of_eq HM.out
                  obtain ⟨aF, nF, kF, rfl⟩ : ∃ a n k, vf = .slice a n k := (by obtain ⟨a, c, e⟩ := hp.of.shape; exact ⟨_, _, _, e⟩)
                  obtain ⟨aT, nT, kT, rfl⟩ : ∃ a n k, vt = .slice a n k := (by obtain ⟨a, c, e⟩ := hp.ot.shape; exact ⟨_, _, _, e⟩)
                  obtain ⟨-, -, -, -, k4, -, -⟩ := hp.facts
                  have hIF : ∀ W, Within (z + 1 + 1) (z + 1 + 1 + 1) wr W → IS W (.slice aF nF kF) (fS X k) := fun W hW => (own_off hp.of hW (hp.sep.dj 4 1 rfl rfl (by omega))).is
                  have hIT : ∀ W, Within (z + 1 + 1) (z + 1 + 1 + 1) wr W → IS W (.slice aT nT kT) (tS X k) := fun W hW => (own_off hp.ot hW (hp.sep.dj 5 1 rfl rfl (by omega))).is
                  have hVb : ∀ f g, -1 ≤ Lib.idxBy (fun _ y => pI (X.map (·.1)) f g y) (List.range k) default ∧ Lib.idxBy (fun _ y => pI (X.map (·.1)) f g y) (List.range k) default ≤ 40 := fun f g => by
                    rcases idx_hit (pI (X.map (·.1)) f g) k with ⟨e, -⟩ | ⟨j, e, hj, -⟩
                    · rw [e]; omega
                    · rw [e]; omega
                  have hzw := hp.rc.lt
                  have HT := Lib.hid (c_tablePath (p := z) (V := fun f g => Lib.idxBy (fun _ y => pI (X.map (·.1)) f g y) (List.range k) default) hp.rc hIF hIT (fS_len hkX) (tS_len hkX) (by omega) (fun f g _ _ _ => by have := hVb f g; constructor <;> omega)
                    (fun W f g hf hg _ hW _ _ => c_clo1 (hp.ol.kept hW (.inl (by omega))) (within_cell hW k4 (by omega)) HM.out.symm hM40 hf hg HLN.out))
                  have HPS := Lib.hid hp
                  clear hp hIF hIT hVb k4
                  go_wp2_with fail
                  refine HT.out.mono ?_
                  rintro e w2 ⟨rfl, hW2, vc, hr2, hof⟩
                  obtain ⟨aC, kC, rfl⟩ := hof.opened'
                  have hps := HPS.out
                  have hrl := hps.rs.lt
                  have hsz2 := hW2.size
                  have R2 : RS w w.heap.size 25 w2 := by
                    obtain ⟨r1, r2, f, r3⟩ := hps.rs
                    have hlt := hps.lt
                    exact ⟨⟨hW2.os.trans r1.os, hW2.tape.trans r1.tape, hW2.output.trans r1.output, Nat.le_trans r1.size hW2.size, fun k hk => (hW2.block k (.inl (by omega)) (Nat.lt_of_lt_of_le hk r1.size)).trans (r1.block k hk)⟩, r2, f, rowIs_within r3 hW2 (by omega)⟩
                  have z0 := hr2.cell (show 0 < 5 by omega)
                  have z1 := hr2.cell (show 1 < 5 by omega)
                  have z2 := hr2.cell (show 2 < 5 by omega)
                  have z3 := hr2.cell (show 3 < 5 by omega)
                  have z4 := hr2.cell (show 4 < 5 by omega)
                  simp only [rowC, show ¬ (0 = 4) by omega, show ¬ (1 = 4) by omega, show ¬ (2 = 4) by omega, show ¬ (3 = 4) by omega, show ¬ (1 = 0) by omega, show ¬ (2 = 0) by omega, show ¬ (2 = 1) by omega, show ¬ (3 = 0) by omega, show ¬ (3 = 1) by omega, show ¬ (3 = 2) by omega, if_true, if_false] at z0 z1 z2 z3 z4
                  obtain ⟨-, x0, x1, x2, x3, x4, f0, f1, f2, f3, f4⟩ := R2.all
                  have HOF := Lib.hid hof
                  have HW2 := Lib.hid hW2
                  have HRR := Lib.hid hr2
                  clear hps hr2 hof hW2 HT
                  go_wp2_with fail
                  refine bodyPost_ret (results_cell_row2 rfl _ _ w.heap.size 25 #[_, _, _, _, _] (0, 0) _ (by rfl) (RS.five (w := w) R2 _ _ _ _ _) Try.underlying25 rfl (by kernel_rfl)) rfl ?_
                  have hlt := HPS.out.lt
                  have hB : z + 1 + 1 + 1 ≤ wr.heap.size := by omega
                  obtain ⟨gf, tf, o1, p1, p2, p3, p4⟩ := own_int HPS.out.of hB
                  obtain ⟨gt, tt, o2, q1, q2, q3, q4⟩ := own_int HPS.out.ot hB
                  have hsep := HPS.out.sep
                  have s4 : ((Value.slice (some ⟨z + 1, 0, none⟩) N N).ownBlock = some (z + 1) ∧ z + 1 + 1 = z + 1 + 1) ∨ ((Value.slice (some ⟨z + 1, 0, none⟩) N N).ownBlock = none ∧ z + 1 = z ∧ z + 1 + 1 = z) := .inl ⟨rfl, rfl⟩
                  have d1 := int_apart p4 q4 (hsep.dj 4 5 rfl rfl (by omega)) p1 q1
                  have l1 := int_off' p4 (hsep.dj 4 1 rfl rfl (by omega)) (by omega : z + 1 + 1 < z + 1 + 1 + 1)
                  have l2 := int_off' q4 (hsep.dj 5 1 rfl rfl (by omega)) (by omega : z + 1 + 1 < z + 1 + 1 + 1)
                  rw [HR0.out, ← HSQ.out]
                  have hcm : OF 2 22 wr.heap.size w2.heap.size w2 (.slice aC k kC) (pathC N (X.map (·.1))).cm.length (gr (pathC N (X.map (·.1))).cm) := by
                    have e : (pathC N (X.map (·.1))).cm.length = k := by show (cmL (X.map (·.1))).length = _; rw [cmL_len, hSk]
                    rw [e]
                    refine HOF.out.congr fun f hf => ?_
                    show _ = gr (cmL (X.map (·.1))) f
                    have hf' : f < (X.map (·.1)).length := by rw [hSk]; exact hf
                    rw [gr_cmL hf', hSk]
                    refine tab_congr fun g hg => ?_
                    have hg' : g < (X.map (·.1)).length := by rw [hSk]; exact hg
                    rw [HM.out, fS_all, tS_all, gi_mapR _ _ hf', gi_mapR _ _ hg', ← HM.out]
                    by_cases e : (rt (X.map (·.1)) f).b = (rt (X.map (·.1)) g).a
                    · rw [if_pos e]
                      refine fst_cm HGS.out hf' hg' e ?_
                      rw [hSk]
                      exact idx_hit (pI (X.map (·.1)) f g) k
                    · rw [if_neg e]
                      unfold cmV
                      rw [if_neg e]
                  have c1 : OwnT 2 gf tf w2 (.slice aF nF kF) (pathC N (X.map (·.1))).fr := by
                    have := o1.kept HW2.out l1
                    rw [HM.out, fS_all] at this
                    exact this
                  have c2 : OwnT 2 gt tt w2 (.slice aT nT kT) (pathC N (X.map (·.1))).to := by
                    have := o2.kept HW2.out l2
                    rw [HM.out, tS_all] at this
                    exact this
                  have c3 : OwnT 2 (z + 1) (z + 1 + 1) w2 (.slice (some ⟨z + 1, 0, none⟩) N N) (pathC N (X.map (·.1))).id := by
                    show OwnT 2 (z + 1) (z + 1 + 1) w2 (.slice (some ⟨z + 1, 0, none⟩) N N) (tab (idF (X.map (·.1)) (X.map (·.1)).length) N)
                    have h0 := HPS.out.ri
                    have h := Own.of_row (E := 2) (B := z + 1) (xs := tab (idF (X.map (·.1)) (X.map (·.1)).length) N) (b := z + 1) (f := fun x => .int .i64 (idF (X.map (·.1)) k x)) (w := wr) (by rw [tab_length]; exact h0) (Nat.le_refl _) (fun i hi => by
                      rw [tab_length] at hi
                      rw [gi_tab hi, hSk]) (tab_I64 fun i hi => by
                      have := idF_bd (X.map (·.1)) (X.map (·.1)).length i
                      constructor <;> omega) (by rw [tab_length]; omega)
                    rw [tab_length] at h
                    exact OwnT.kept (B := z + 1) (T := z + 1 + 1) ⟨h, fun q hq => by have e : some (z + 1) = some q := hq; injection e with e; omega⟩ HW2.out (.inl (Nat.le_refl _))
                  refine mkC_set5 R2 (pathC N (X.map (·.1))) 0 c1 c2 c3 ⟨hcm, (cmL_size (by omega)).1, (cmL_size (by omega)).2⟩ ?_ ?_ ?_
                  · clear d1 l1 l2 p4 q4 s4
                    refine ⟨?_, ?_, ?_, ?_, p2, q2, ?_, hsz2, ?_, ?_, ?_, Nat.le_refl _⟩ <;> omega
                  · exact ⟨d1, .inr (by omega), .inr (by omega), .inl p3, .inl q3, .inl (by omega)⟩
                  · show I64 (N : Int)
                    constructor <;> omega
            · rw [if_neg h40] at hrt
              subst hrt
              have hR := pathR_3 HL.out ⟨HR.out, H1.out, H2.out⟩ H3.out h40
              clear h40 hE b5 B4
              have B6 := B5.alloc (.cells #[.slice none 0 0] 39)
              clear B5
              obtain ⟨-, x0, x1, x2, x3, x4, f0, f1, f2, f3, f4⟩ := B6.all
              go_wp2_with fail
              refine bodyPost_ret (results_cell_row2 rfl _ _ w.heap.size 25 #[_, _, _, _, _] (0, 0) _ (by rfl) (RS.five (w := w) B6 _ _ _ _ _) Try.underlying25 rfl (by kernel_rfl)) rfl ?_
              exact mkC_nil5 B6 hR
        · have hR := pathR_2 HL.out (fun h => h2 h.2.2)
          have h2' : allIn (N : Int) to = false := by simpa using h2
          rw [h2']
          clear h2 h2'
          obtain ⟨-, x0, x1, x2, x3, x4, f0, f1, f2, f3, f4⟩ := B3.all
          go_wp2_with fail
          refine bodyPost_ret (results_cell_row2 rfl _ _ w.heap.size 25 #[_, _, _, _, _] (0, 0) _ (by rfl) (RS.five (w := w) B3 _ _ _ _ _) Try.underlying25 rfl (by kernel_rfl)) rfl ?_
          exact mkC_nil5 B3 hR
      · have hR := pathR_2 HL.out (fun h => h1 h.2.1)
        have h1' : allIn (N : Int) fr = false := by simpa using h1
        rw [h1']
        clear h1 h1'
        obtain ⟨-, x0, x1, x2, x3, x4, f0, f1, f2, f3, f4⟩ := B2.all
        go_wp2_with fail
        refine bodyPost_ret (results_cell_row2 rfl _ _ w.heap.size 25 #[_, _, _, _, _] (0, 0) _ (by rfl) (RS.five (w := w) B2 _ _ _ _ _) Try.underlying25 rfl (by kernel_rfl)) rfl ?_
        exact mkC_nil5 B2 hR
    · have hR := pathR_2 HL.out (fun h => hr h.1)
      have hr' : inR n 0 8 = false := by simpa using hr
      rw [hr']
      clear hr hr'
      obtain ⟨-, x0, x1, x2, x3, x4, f0, f1, f2, f3, f4⟩ := B1.all
      go_wp2_with fail
      refine bodyPost_ret (results_cell_row2 rfl _ _ w.heap.size 25 #[_, _, _, _, _] (0, 0) _ (by rfl) (RS.five (w := w) B1 _ _ _ _ _) Try.underlying25 rfl (by kernel_rfl)) rfl ?_
      exact mkC_nil5 B1 hR
  · have dl : ((fr.length : Int) != (to.length : Int)) = true := by simp; omega
    have hR := pathR_1 (n := n) hl
    clear hl
    go_enter Try.func6, Try.ntmps6
    clear B0
    go_wp2_with fail
    refine bodyPost_ret (results_cell_row2 rfl _ _ w.heap.size 25 #[_, _, _, _, _] (0, 0) _ (by rfl) (new_at w _) Try.underlying25 rfl (by kernel_rfl)) rfl ?_
    exact mkC_nil hR (bel_box _ _)
end Go.Proofs.Ytllbjckbinolmaa
