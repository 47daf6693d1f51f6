/-
  PathCategory: l03Paths of the reference.
-/
import Derived.Test.YtllbjckbinolmaaGq
import Derived.StillTailTactics
namespace Go.Proofs.Ytllbjckbinolmaa
open Go.RowKit

theorem chl_len {fr to : List Int} {r : Rt} : ∀ m, (chl fr to r m).length ≤ m
  | 0 => Nat.le_refl _
  | m + 1 => by
    rw [chl_succ]
    have := chl_len (fr := fr) (to := to) (r := r) m
    split
    · rw [List.length_append, List.length_singleton]; omega
    · omega
theorem bfs_bd {fr to : List Int} : ∀ f Q i, Q.length ≤ 40 + fr.length → (bfs fr to f Q i).length ≤ 40 + fr.length
  | 0, Q, i, h => h
  | f + 1, Q, i, h => by
    rw [bfs]
    split
    · rename_i c
      refine bfs_bd f _ _ ?_
      rw [List.length_append]
      have := chl_len (fr := fr) (to := to) (r := rt Q i) fr.length
      omega
    · exact h
/-- What the region that joins two paths holds on to. -/
structure KD (W : World) (p0 p1 : Addr) (a b : Value) (w' : World) : Prop where
  bl : Below W.heap.size W w'
  c0 : w'.cell? p0 = some a
  c1 : w'.cell? p1 = some b
section
variable {W w' w'' : World} {p0 p1 : Addr} {a b : Value}
theorem KD.all (k : KD W p0 p1 a b w') : KD W p0 p1 a b w' ∧ w'.cell? p0 = some a ∧ w'.cell? p1 = some b := ⟨k, k.c0, k.c1⟩
theorem KD.call (k : KD W p0 p1 a b w') (hb : Below w'.heap.size w' w'') : KD W p0 p1 a b w'' := ⟨bel_next k.bl hb, upc hb k.c0, upc hb k.c1⟩
theorem KD.drew (k : KD W p0 p1 a b w') : KD W p0 p1 a b w'.drew := k.call (Drawn.below (Drawn.one (Drawn.refl w')) _)
theorem KD.grew (k : KD W p0 p1 a b w') (hW : KD W p0 p1 a b W) {v v' : Value} (hg : Grew w' w'' v v') (hv : ∀ k, v.ownBlock = some k → W.heap.size ≤ k) : KD W p0 p1 a b w'' :=
  have hb := hg.below k.bl k.bl.size hv
  ⟨hb, upc hb hW.c0, upc hb hW.c1⟩
end
/-- What l03Paths answers. -/
def PthV (w w' : World) (u : Value) (n : Nat) (fr to : List Int) : Prop := ∃ aF kF aT nT kT aI nI kI aC nC kC, u = .agg #[.int .i64 n, .slice aF (qall n fr to).length kF, .slice aT nT kT, .slice aI nI kI, .slice aC nC kC] ∧ ((qall n fr to).length ≤ 40 → VC w.heap.size w'.heap.size w' u (pathC n (sq n fr to)))
set_option maxRecDepth 1000000 in
set_option maxHeartbeats 16000000 in
theorem s_l03Paths {w : World} {uf ut : Value} {fr to : List Int} {N : Nat} (hf : IS w uf fr) (ht : IS w ut to) (hl : to.length = fr.length) (hm : fr.length ≤ 1048576) (hN8 : N ≤ 8) (hE : ∀ j, j < fr.length → (0 ≤ gi fr j ∧ gi fr j < N) ∧ (0 ≤ gi to j ∧ gi to j < N)) :
    Calls Try.prog 16 #[.int .i64 (N : Int), uf, ut] w (Mk w fun w' u => PthV w w' u N fr to) := by
  have HF := Lib.hid hf
  have HT := Lib.hid ht
  obtain ⟨af, bf, of, cf, rfl, -⟩ := hf.ex
  obtain ⟨at_, bt, ot, ct, rfl, -⟩ := ht.ex
  have HL := Lib.hid hl
  have HEE := Lib.hid hE
  clear hf ht hl hE
  have B0 : RS w w.heap.size 25 (w.alloc (.cells #[.int .i64 0, .slice none 0 0, .slice none 0 0, .slice none 0 0, .slice none 0 0] 25)) := RS.new (Below.refl _ _)
  go_enter Try.func16, Try.ntmps16
  go_wp2_with fail
  generalize w.alloc (.cells #[.int .i64 0, .slice none 0 0, .slice none 0 0, .slice none 0 0, .slice none 0 0] 25) = W0 at *
  have b0l := B0.lt
  refine (c_l03All (HF.out.kept B0.bel) (HT.out.kept B0.bel) HL.out hm hN8 HEE.out).mono ?_
  rintro e W1 ⟨lv, rfl, ⟨X, hO, hP, hS⟩, b1⟩
  have B1 := B0.call b1
  replace hO := hO.mono (B' := w.heap.size + 1) (by omega) (Nat.le_refl _)
  have HGS := Lib.hid (qall_gs (fun j hj => (HEE.out j hj).2) hP)
  have HLN := Lib.hid (fun x hx => qall_len (hP.mem_iff.1 (List.mem_map_of_mem (f := Prod.fst) hx) : (x : RV).1 ∈ qall N fr to))
  have HSQ := Lib.hid (sq_eq hP hS)
  have HQL : Hid ((qall N fr to).length = X.length) := by
    have := hP.length_eq
    rw [List.length_map] at this
    exact this.symm
  obtain ⟨M, hM⟩ : ∃ M, M = X.length := ⟨_, rfl⟩
  have hMb : M ≤ 1048616 := by
    have h1 := bfs_bd (fr := fr) (to := to) 41 (ids N) 0 (by rw [ids_len]; omega)
    have h2 : (qall N fr to).length ≤ 40 + fr.length := h1
    have := HQL.out
    omega
  obtain ⟨g, cc, rfl, hBg, hTg, hgl, -⟩ := hO.cells
  rw [← hM] at hO ⊢
  have HM := Lib.hid hM
  have hmk := run_make_row' (P := Try.prog) 22 2 (.int .i64 0) 8 Try.underlying22 infoInt64 rfl .i64 .i64 N (by omega) (by omega)
  have hgp := GQ.start (n := N) B1 hO (fun _ => undef) (fun _ => [])
  have HGP := Lib.hid hgp
  have hq1 := B1.lt
  clear hgp B1 hO hM b1 B0 hP hS
  go_wp2_with fail
  clear hmk
  generalize ((((W1.alloc (.cells #[] 2)).alloc (.cells #[] 2)).alloc (.cells (madeCells #[.int .i64 0] N) 2)).alloc (.cells #[] 22)).alloc (.cells #[.int .i64 N, .slice (some ⟨W1.heap.size, 0, none⟩) 0 0, .slice (some ⟨W1.heap.size + 1, 0, none⟩) 0 0, .slice (some ⟨W1.heap.size + 1 + 1, 0, none⟩) N N, .slice (some ⟨W1.heap.size + 1 + 1 + 1, 0, none⟩) 0 0] 25) = W2 at *
  obtain ⟨z, hz⟩ : ∃ z, z = W1.heap.size := ⟨_, rfl⟩
  rw [← hz] at HGP ⊢
  obtain ⟨vc0, hvc⟩ : ∃ x, x = Value.slice (some ⟨z + 1 + 1 + 1, 0, none⟩) 0 0 := ⟨_, rfl⟩
  rw [← hvc] at HGP
  have HVC := Lib.hid hvc
  clear hz hq1 hTg hgl hvc
  go_loopw [9] (fun iv wr => ∃ (k : Nat) (vf vt : Value), k ≤ M ∧ iv = .int .i64 k ∧ GQ w w.heap.size (z + 1 + 1 + 1 + 1) (z + 1 + 1) N z (.slice (some ⟨g, 0, none⟩) M cc) X wr vf vt vc0 vf vt vc0 (.slice none 0 0) (fS X k) (tS X k) [] (idF (X.map (·.1)) k) 0 (fun _ => undef) (fun _ => [])) (fun iv _ => M - (intOf iv).toNat)
  case atStart => exact ⟨0, _, _, Nat.zero_le _, rfl, HGP.out⟩
  case round =>
    clear HGP
    obtain ⟨k, vf, vt, hk, rfl, hp⟩ := hrel
    by_cases hlt : k < M
    · have hkX : k < X.length := by rw [← HM.out]; exact hlt
      obtain ⟨⟨c0, c1, c2⟩, -, oa, hgw, -⟩ := hp.ol.at hkX
      have hrg := HGS.out.rng (rx X k) (by rw [← rt_rx]; exact rt_mem (by simpa using hkX))
      have hFS := Lib.hid (fS_succ hkX)
      have hTS := Lib.hid (tS_succ hkX)
      have hfl2 := fS_len (Nat.le_of_lt hkX)
      have htl2 := tS_len (Nat.le_of_lt hkX)
      obtain ⟨r, hr⟩ : ∃ r, r = rx X k := ⟨_, rfl⟩
      have HKX := Lib.hid hkX
      rw [← hr] at c0 hrg hFS hTS
      have HRX := Lib.hid hr
      clear oa hr hkX c1 c2
      obtain ⟨⟨ra0, ra1⟩, rb0, rb1⟩ := hrg
      obtain ⟨FF, hFF⟩ : ∃ L, L = fS X k := ⟨_, rfl⟩
      obtain ⟨TT, hTT⟩ : ∃ L, L = tS X k := ⟨_, rfl⟩
      rw [← hFF] at hp hFS hfl2
      rw [← hTT] at hp hTS htl2
      clear hFF hTT
      have hf3 : FF.length ≤ 1048616 := by omega
      have ht3 : TT.length ≤ 1048616 := by omega
      obtain ⟨aF, nF, kF, rfl⟩ : ∃ a n k, vf = .slice a n k := (by obtain ⟨a, c, e⟩ := hp.of.shape; exact ⟨_, _, _, e⟩)
      obtain ⟨aT, nT, kT, rfl⟩ : ∃ a n k, vt = .slice a n k := (by obtain ⟨a, c, e⟩ := hp.ot.shape; exact ⟨_, _, _, e⟩)
      have iA : I64 r.a := by constructor <;> omega
      have iB : I64 r.b := by constructor <;> omega
      have i1 : (k : Int) < (M : Int) := by omega
      have HO := Lib.hid (fun o => hp.call ((bel_box wr o).trans ((Drawn.one (Drawn.refl (wr.alloc o))).below _)))
      obtain ⟨k0, k1, k2, k3, k4, f1, f2, f3⟩ := hp.facts
      have hzw := hp.row.lt
      clear hfl2 htl2 hp
      go_wp2_with fail
      go_region_law ((refine stepApp1 (n := wr.heap.size) (x := r.a) (HO.out _).of iA ?_ ?_ ?_ Try.underlying22 infoInt64 ?_ (.tmp 34) (.tmp 40) ?_ ?_ ?_ ?_; (· simp); (· omega); (· exact (HO.out _).tle); (· rfl); (· rfl); (· rfl); (· rfl); intro v1 w1 o1 g1; obtain ⟨a1, n1, c1, rfl⟩ : ∃ a n c, v1 = .slice a n c := (by obtain ⟨a, c, e⟩ := o1.shape; exact ⟨_, _, _, e⟩); have hq1 := (HO.out _).growF o1 g1; obtain ⟨x0, x1, x2, x3, x4, y1, y2, y3⟩ := hq1.facts))
      all_goals (
        have hp2 := hq1.setF
        clear hq1 o1 g1 x0 x1 x2 x3 x4 y1 y2 y3 k0 k1 k2 k3 k4 f1 f2 f3 c0 hgw hzw HO
        generalize w1.setCell ⟨z + 1 + 1 + 1 + 1, 1, none⟩ (.slice a1 n1 c1) = w2 at *
        obtain ⟨⟨-, cb, -⟩, -, -, hgw, -⟩ := hp2.ol.at HKX.out
        rw [← HRX.out] at cb
        have HO2 := Lib.hid (fun o => hp2.call ((bel_box w2 o).trans ((Drawn.one (Drawn.refl (w2.alloc o))).below _)))
        obtain ⟨k0, k1, k2, k3, k4, f1, f2, f3⟩ := hp2.facts
        have hzw := hp2.row.lt
        clear hp2
        go_wp2_with fail
        go_region_law ((refine stepApp1 (n := w2.heap.size) (x := r.b) (HO2.out _).ot iB ?_ ?_ ?_ Try.underlying22 infoInt64 ?_ (.tmp 44) (.tmp 50) ?_ ?_ ?_ ?_; (· simp); (· omega); (· exact (HO2.out _).tle); (· rfl); (· rfl); (· rfl); (· rfl); intro v3 w3 o3 g3; obtain ⟨a3, n3, c3, rfl⟩ : ∃ a n c, v3 = .slice a n c := (by obtain ⟨a, c, e⟩ := o3.shape; exact ⟨_, _, _, e⟩); have hq3 := (HO2.out _).growT o3 g3; obtain ⟨x0, x1, x2, x3, x4, y1, y2, y3⟩ := hq3.facts))
        all_goals (
          have hp4 := hq3.setT
          clear hq3 o3 g3 x0 x1 x2 x3 x4 y1 y2 y3 k0 k1 k2 k3 k4 f1 f2 f3 cb hgw hzw HO2
          generalize w3.setCell ⟨z + 1 + 1 + 1 + 1, 2, none⟩ (.slice a3 n3 c3) = w4 at *
          obtain ⟨⟨ca, -, cp⟩, -, oa, hgw, -⟩ := hp4.ol.at HKX.out
          rw [← HRX.out] at ca oa
          obtain ⟨au, cu, hu⟩ := oa.shape
          rw [hu] at cp
          obtain ⟨-, -, -, k3, -, -, -, -⟩ := hp4.facts
          clear oa hu
          by_cases hpl : r.path.length = 0
          · have dpl : ((r.path.length : Int) == 0) = true := by simp [hpl]
            obtain ⟨a, haa⟩ := Int.eq_ofNat_of_zero_le ra0
            have haN : a < N := by omega
            have HID : Hid (idF (X.map (·.1)) (k + 1) = fun y => if y = a then (k : Int) else idF (X.map (·.1)) k y) := idF_yes (by rw [rt_rx, ← HRX.out]; exact hpl) (by rw [rt_rx, ← HRX.out]; exact haa)
            have HPL := Lib.hid hpl
            rw [haa] at ca
            clear hpl haa
            go_wp2_with fail
            refine wp_region_still_tail 9 (by kernel_rfl) (by kernel_rfl) ?_
            simp only [List.take_succ_cons, List.take_zero, List.drop_succ_cons, List.drop_zero]
            obtain ⟨wq, hq⟩ : ∃ wq, wq = w4.drew := ⟨_, rfl⟩
            change wpStill _ _ w4.drew _ _ _
            rw [← hq]
            have hdq : Drawn w4 wq := by subst hq; exact Drawn.one (Drawn.refl _)
            have Hq := Lib.hid hq
            clear hq
            have hp5 := hp4.call (hdq.below _)
            replace ca := upc (hdq.below _) ca
            replace k3 := upc (hdq.below _) k3
            have ci := hp5.ri.cell haN
            have fi := hp5.ri.frozen a
            have hp6 := Lib.hid (hp5.setI a (k : Int))
            clear hp4 hp5 hdq cp
            repeat still_step
            refine wpStill_nil ?_
            change wpList _ _ _ _ _ w4.drew
            rw [← Hq.out]
            clear Hq ca k3
            go_wp2_with fail
            go_roundw
            case rel => exact ⟨k + 1, _, _, by omega, by go_num, by rw [hFS.out, hTS.out, HID.out]; exact hp6.out⟩
            case measure => simp [intOf]; omega
          · have dpl : ((r.path.length : Int) == 0) = false := by rw [beq_eq_false_iff_ne]; omega
            have hp5 := Lib.hid hp4
            have HID : Hid (idF (X.map (·.1)) (k + 1) = idF (X.map (·.1)) k) := idF_no (by rw [rt_rx, ← HRX.out]; exact hpl)
            clear hp4
            go_wp2_with fail
            go_roundw
            case rel => exact ⟨k + 1, _, _, by omega, by go_num, by rw [hFS.out, hTS.out, HID.out]; exact hp5.out⟩
            case measure => simp [intOf]; omega))
    · obtain rfl : k = M := by omega
      have hkX : k ≤ X.length := Nat.le_of_eq HM.out
      obtain ⟨aF, kF, hvf⟩ := hp.of.shape
      obtain ⟨aT, kT, hvt⟩ := hp.ot.shape
      rw [fS_len hkX] at hvf
      rw [tS_len hkX] at hvt
      subst hvf
      subst hvt
      obtain ⟨k0, k1, k2, k3, k4, f1, f2, f3⟩ := hp.facts
      obtain ⟨aC, nC, kC, hvc⟩ : ∃ a n c, vc0 = Value.slice a n c := ⟨_, _, _, HVC.out⟩
      subst hvc
      have hk32 : k ≤ 4294967296 := by omega
      have HFT := Lib.hid (fun (W : World) => c_l02Fits (w := W) (n := (N : Int)) (a := aF) (k := k) (cc := kF) (vt := .slice aT k kT) (vi := .slice (some ⟨z + 1 + 1, 0, none⟩) N N) (vc := .slice aC nC kC) hk32)
      have HP := Lib.hid hp
      clear hp
      go_wp2_with fail
      refine (HFT.out _).mono ?_
      rintro e w3 ⟨rfl, b3⟩
      have HP3 := Lib.hid (HP.out.call b3)
      have dN : decide ((N : Int) ≤ 8) = true := decide_eq_true (by omega)
      rw [dN]
      by_cases h40 : k ≤ 40
      · rw [decide_eq_true h40]
        have hSk : (X.map (·.1)).length = k := by rw [List.length_map, HM.out]
        obtain ⟨S, hS⟩ : ∃ S, S = X.map (·.1) := ⟨_, rfl⟩
        rw [← hS] at hSk HGS HSQ HP3
        have hRX : ∀ q, rt S q = rx X q := fun q => by rw [hS, rt_rx]
        have HRT := Lib.hid hRX
        have HSK := Lib.hid hSk
        have HSX := Lib.hid hS
        have H4 := Lib.hid k4
        clear hRX hSk hS HFT HP k0 k1 k2 k3 k4 f1 f2 f3 b3
        go_wp2_with fail
        go_loopw [10] (fun iv wr => ∃ (i : Nat) (vc : Value) (U : Nat → Value) (D : Nat → List Int), i ≤ k ∧ iv = .int .i64 i ∧ GQ w w.heap.size (z + 1 + 1 + 1 + 1) (z + 1 + 1) N z (.slice (some ⟨g, 0, none⟩) k cc) X wr (.slice aF k kF) (.slice aT k kT) vc (.slice aF k kF) (.slice aT k kT) vc (.slice none 0 0) (fS X k) (tS X k) [] (idF S k) i U D ∧ Hid (∀ j, j < i → D j = tab (cmV S j) k)) (fun iv _ => k - (intOf iv).toNat)
        case atStart => exact ⟨0, _, _, _, Nat.zero_le _, rfl, HP3.out, fun j hj => by omega⟩
        case round =>
          clear HP3 H4
          obtain ⟨i, vc, U, D, hi, rfl, hp, hD⟩ := hrel
          by_cases hli : i < k
          · have HN := Lib.hid hp.newR
            have hiX : i < X.length := by rw [← HM.out]; exact hli
            have HIX := Lib.hid hiX
            have di : decide ((i : Int) < (k : Int)) = true := decide_eq_true (by omega)
            clear hp hiX
            go_wp2_with fail
            generalize wr.alloc (.cells #[] 2) = Wn at *
            go_loopw [11, 12] (fun vr jv wr => ∃ j : Nat, j ≤ k ∧ jv = .int .i64 j ∧ GQ w w.heap.size (z + 1 + 1 + 1 + 1) (z + 1 + 1) N z (.slice (some ⟨g, 0, none⟩) k cc) X wr (.slice aF k kF) (.slice aT k kT) vc (.slice aF k kF) (.slice aT k kT) vc vr (fS X k) (tS X k) (tab (cmV S i) j) (idF S k) i U D) (fun _ jv _ => k - (intOf jv).toNat)
            case atStart => exact ⟨0, Nat.zero_le _, rfl, HN.out⟩
            case round =>
              clear HN
              obtain ⟨j, hj, rfl, hp⟩ := hrel
              by_cases hlj : j < k
              · have hjX : j < X.length := by rw [← HM.out]; exact hlj
                have HJX := Lib.hid hjX
                obtain ⟨⟨-, cib, cip⟩, -, oi, hgw, -⟩ := hp.ol.at HIX.out
                obtain ⟨⟨cja, -, cjp⟩, -, oj, -, -⟩ := hp.ol.at hjX
                have dj : decide ((j : Int) < (k : Int)) = true := decide_eq_true (by omega)
                have hpi := HLN.out _ (List.getElem_mem HIX.out)
                have hpj := HLN.out _ (List.getElem_mem hjX)
                rw [← rx_lt HIX.out] at hpi
                rw [← rx_lt hjX] at hpj
                obtain ⟨RR, hRR⟩ : ∃ L, L = tab (cmV S i) j := ⟨_, rfl⟩
                rw [← hRR] at hp
                have hrl : RR.length ≤ 40 := by rw [hRR, tab_length]; omega
                have HRR := Lib.hid hRR
                have HP := Lib.hid hp
                clear hRR hp hjX
                obtain ⟨ri, hri⟩ : ∃ r, r = rx X i := ⟨_, rfl⟩
                obtain ⟨rj, hrj⟩ : ∃ r, r = rx X j := ⟨_, rfl⟩
                rw [← hri] at cib oi hpi
                rw [← hrj] at cja oj hpj
                have HRI := Lib.hid hri
                have HRJ := Lib.hid hrj
                clear hri hrj
                by_cases he : ri.b = rj.a
                · have dbe : (ri.b == rj.a) = true := by simp [he]
                  have HE := Lib.hid he
                  clear he
                  go_wp2_with fail
                  go_quiet (fail)
                  have dq : Drawn wr (wr.drewN nq) := ⟨nq, rfl⟩
                  have HP2 := Lib.hid (HP.out.call (dq.below _))
                  replace cip := upc (dq.below _) cip
                  replace cjp := upc (dq.below _) cjp
                  have OI := Lib.hid (oi.keptB (dq.below _))
                  have OJ := Lib.hid (oj.keptB (dq.below _))
                  have hzw := HP2.out.tle
                  clear cib cja oi oj dq HP hgw
                  generalize wr.drewN nq = W3 at *
                  obtain ⟨ui, hui⟩ : ∃ u, u = (X.getD i dRV).2 := ⟨_, rfl⟩
                  obtain ⟨uj, huj⟩ : ∃ u, u = (X.getD j dRV).2 := ⟨_, rfl⟩
                  rw [← hui] at cip OI
                  rw [← huj] at cjp OJ
                  clear hui huj
                  obtain ⟨ai, ki, rfl⟩ := OI.out.shape
                  obtain ⟨aj, kj, rfl⟩ := OJ.out.shape
                  have hcl := fun W' (hW : Below W3.heap.size W3 W') => c_l01Own (OI.out.keptB hW).is
                  have HCL := Lib.hid hcl
                  have K0 : KD W3 ⟨g, i * 3 + 2, none⟩ ⟨g, j * 3 + 2, none⟩ (.slice ai ri.path.length ki) (.slice aj rj.path.length kj) W3 := ⟨Below.refl _ _, cip, cjp⟩
                  have K1 := K0.drew.all
                  clear hcl cip cjp
                  go_wp2_with fail
                  go_region_held3 (fun w' => KD W3 ⟨g, i * 3 + 2, none⟩ ⟨g, j * 3 + 2, none⟩ (.slice ai ri.path.length ki) (.slice aj rj.path.length kj) w' ∧ w'.cell? ⟨g, i * 3 + 2, none⟩ = some (.slice ai ri.path.length ki) ∧ w'.cell? ⟨g, j * 3 + 2, none⟩ = some (.slice aj rj.path.length kj))
                    (first | with_reducible exact K1 | (with_reducible refine (KD.call ?_ b9).all; with_reducible exact And.left (by assumption)) | (with_reducible refine (KD.grew ?_ K0 g10 hv10).all; with_reducible exact And.left (by assumption)))
                    (first | (go_at_call 33; (with_reducible refine (HCL.out _ (KD.bl (And.left (by assumption)))).mono ?_); rintro e w9 ⟨u9, rfl, o9, b9⟩; obtain ⟨au9, cu9, rfl⟩ := o9.own.shape) | (refine stepAppL (B := W3.heap.size) (v := .slice au9 ri.path.length cu9) (xs := ri.path) (ys := rj.path) ?_ ((OJ.out.keptB (KD.bl (And.left (by assumption)))).is) (by omega) ?_ Try.underlying22 infoInt64 ?_ (.tmp 102) (.tmp 107) ?_ ?_ ?_ ?_; (· exact (o9.mono (by simp) (Nat.le_refl _)).own); (· exact (KD.bl (And.left (by assumption))).size); (· rfl); (· rfl); (· rfl); (· rfl); intro v10 w10 o10 g10; have hv10 := fun k (hk : (Value.slice au9 ri.path.length cu9).ownBlock = some k) => Nat.le_trans (show W3.heap.size ≤ _ by simp) (o9.lt k hk).1; obtain ⟨av10, cv10, rfl⟩ := o10.shape))
                  have KE := ‹KD _ _ _ _ _ w10 ∧ _›.1
                  have HP4 := Lib.hid (HP2.out.call KE.bl)
                  have hI : IS w10 (.slice av10 (ri.path.length + rj.path.length) cv10) (ri.path ++ rj.path) := by
                    have h0 := o10.is
                    rwa [List.length_append] at h0
                  have HI := Lib.hid hI
                  clear o10 g10 o9 b9 hv10 KE K0 K1 HP2 hI HCL OI OJ hzw
                  go_wp2_with fail
                  go_loopw [13, 15] (fun hv lv wr => ∃ l : Nat, l ≤ k ∧ lv = .int .i64 l ∧ hv = .int .i64 (lstI (pS' S i j) l) ∧ Drawn w10 wr) (fun _ lv _ => k - (intOf lv).toNat)
                  case atStart => exact ⟨0, Nat.zero_le _, rfl, rfl, Drawn.refl _⟩
                  case round =>
                    obtain ⟨l, hl, rfl, rfl, hd⟩ := hrel
                    have hp5 := HP4.out.call (hd.below _)
                    obtain ⟨L, hL⟩ : ∃ L, L = lstI (pS' S i j) l := ⟨_, rfl⟩
                    rw [← hL]
                    by_cases hll : l < k
                    · have hlX : l < X.length := by rw [← HM.out]; exact hll
                      obtain ⟨⟨cla, -, clp⟩, -, ol, hgw, -⟩ := hp5.ol.at hlX
                      obtain ⟨⟨cia, -, -⟩, -, -, -, -⟩ := hp5.ol.at HIX.out
                      have dl : decide ((l : Int) < (k : Int)) = true := decide_eq_true (by omega)
                      obtain ⟨al, kl, hsl⟩ := ol.shape
                      rw [hsl] at clp ol
                      obtain ⟨rl, hrl2⟩ : ∃ r, r = rx X l := ⟨_, rfl⟩
                      rw [← HRI.out] at cia
                      rw [← hrl2] at cla clp ol
                      have HRL := Lib.hid hrl2
                      have HLL := Lib.hid hL
                      have HD := Lib.hid hd
                      have hsm := fun W (hW : Drawn wr W) => c_l01Same (ol.keptB (hW.below _)).is (HI.out.kept ((hd.below _).trans (hW.below _)))
                      have hps : pS' S i j l = (decide (rl.a = ri.a) && decide (rl.path = ri.path ++ rj.path)) := by
                        unfold pS'
                        rw [HRT.out i, HRT.out j, HRT.out l, ← HRI.out, ← HRJ.out, ← HRL.out]
                      obtain ⟨d, hdd⟩ : ∃ d, d = (rl.path == ri.path ++ rj.path) := ⟨_, rfl⟩
                      rw [← hdd] at hsm
                      have hd2 : decide (rl.path = ri.path ++ rj.path) = d := by
                        rw [hdd]
                        by_cases e : rl.path = ri.path ++ rj.path
                        · rw [decide_eq_true e, e]; simp
                        · rw [decide_eq_false e]; simp [e]
                      rw [hd2] at hps
                      have HSM := Lib.hid hsm
                      clear hsm hdd hd2 ol hsl hrl2 hL hd hlX hp5
                      by_cases ea : rl.a = ri.a
                      · have dba : (rl.a == ri.a) = true := by simp [ea]
                        rw [decide_eq_true ea, Bool.true_and] at hps
                        have HPSS := Lib.hid hps
                        have HEA := Lib.hid ea
                        clear hps ea
                        cases d with
                        | true =>
                          go_wp2_with fail
                          go_quiet (first | (go_at_call 34; exact Calls.quiet_of (calls_q (HSM.out _ ⟨_, rfl⟩))))
                          have dq : Drawn wr (wr.drewN nq) := ⟨nq, rfl⟩
                          clear cla clp cia
                          go_wp2_with fail
                          go_roundw
                          case rel => exact ⟨l + 1, by omega, by go_num, by rw [lstI, if_pos HPSS.out], Drawn.step HD.out _⟩
                          case measure => simp [intOf]; omega
                        | false =>
                          go_wp2_with fail
                          go_quiet (first | (go_at_call 34; exact Calls.quiet_of (calls_q (HSM.out _ ⟨_, rfl⟩))))
                          have dq : Drawn wr (wr.drewN nq) := ⟨nq, rfl⟩
                          clear cla clp cia
                          go_wp2_with fail
                          go_roundw
                          case rel => exact ⟨l + 1, by omega, by go_num, by rw [lstI, if_neg (by rw [HPSS.out]; decide), ← HLL.out], Drawn.step HD.out _⟩
                          case measure => simp [intOf]; omega
                      · have dba : (rl.a == ri.a) = false := by simp [ea]
                        rw [decide_eq_false ea, Bool.false_and] at hps
                        have HPSS := Lib.hid hps
                        have HEA := Lib.hid ea
                        clear hps ea
                        go_wp2_with fail
                        go_quiet (fail)
                        have dq : Drawn wr (wr.drewN nq) := ⟨nq, rfl⟩
                        clear cla clp cia
                        go_wp2_with fail
                        go_roundw
                        case rel => exact ⟨l + 1, by omega, by go_num, by rw [lstI, if_neg (by rw [HPSS.out]; decide), ← HLL.out], Drawn.step HD.out _⟩
                        case measure => simp [intOf]; omega
                    · obtain rfl : l = k := by omega
                      have dl : decide ((l : Int) < (l : Int)) = false := decide_eq_false (by omega)
                      have HCV : Hid (cmV S i j = L) := by
                        unfold Hid cmV
                        rw [HRT.out i, HRT.out j, ← HRI.out, ← HRJ.out, if_pos HE.out, HSK.out, hL]
                      have hbd := lstI_bd (pS' S i j) l
                      rw [← hL] at hbd
                      have HZ : Hid (I64 L) := (by constructor <;> omega : I64 L)
                      clear hL hd
                      go_wp2_with (at_builtin; refine hold ?_)
                      refine app1 hp5.or HZ.out (by omega) hp5.tle Try.underlying22 infoInt64 (by rfl) _ _ (by rfl) (by rfl) (by first | rfl | (simp; rfl)) ?_
                      intro v1 w1 o1 g1
                      have HQ := Lib.hid (hp5.growR o1 g1)
                      clear hp5 o1 g1
                      go_wp2_with fail
                      go_roundw
                      case rel => exact ⟨j + 1, by omega, by go_num, by rw [tab_succ, ← HRR.out, HCV.out]; exact HQ.out⟩
                      case measure => simp [intOf]; omega
                · have dbe : (ri.b == rj.a) = false := by simp [he]
                  have HCV : Hid (cmV S i j = -1) := by
                    unfold Hid cmV
                    rw [HRT.out i, HRT.out j, ← HRI.out, ← HRJ.out, if_neg he]
                  have HZ : Hid (I64 (-1)) := (by constructor <;> omega : I64 (-1))
                  have HE := Lib.hid he
                  clear he
                  go_wp2_with fail
                  go_quiet (fail)
                  have dq : Drawn wr (wr.drewN nq) := ⟨nq, rfl⟩
                  have hp2 := HP.out.call (dq.below _)
                  clear cib cja cip cjp oi oj dq HP hgw
                  generalize wr.drewN nq = W3 at *
                  go_wp2_with (at_builtin; refine hold ?_)
                  refine app1 hp2.or HZ.out (by omega) hp2.tle Try.underlying22 infoInt64 (by rfl) _ _ (by rfl) (by rfl) (by first | rfl | (simp; rfl)) ?_
                  intro v1 w1 o1 g1
                  have HQ := Lib.hid (hp2.growR o1 g1)
                  clear hp2 o1 g1
                  go_wp2_with fail
                  go_roundw
                  case rel => exact ⟨j + 1, by omega, by go_num, by rw [tab_succ, ← HRR.out, HCV.out]; exact HQ.out⟩
                  case measure => simp [intOf]; omega
              · obtain rfl : j = k := by omega
                have dj : decide ((j : Int) < (j : Int)) = false := decide_eq_false (by omega)
                obtain ⟨RR, hRR⟩ : ∃ L, L = tab (cmV S i) j := ⟨_, rfl⟩
                rw [← hRR] at hp
                have HRR := Lib.hid hRR
                obtain ⟨aR, nR, kR, rfl⟩ : ∃ a n k, u11 = .slice a n k := (by obtain ⟨a, c, e⟩ := hp.or.shape; exact ⟨_, _, _, e⟩)
                obtain ⟨aC2, nC2, kC2, rfl⟩ : ∃ a n k, vc = .slice a n k := (by obtain ⟨a, g, c, e, -⟩ := rows_sh hp.oc; exact ⟨_, _, _, e⟩)
                obtain ⟨k0, k1, k2, k3, k4, f1, f2, f3⟩ := hp.facts
                clear hRR
                go_wp2_with (at_builtin; refine hold ?_)
                refine appV hp.oc rfl (by omega) hp.tle Try.underlying23 infoInts (by rfl) _ _ (by rfl) (by rfl) (by first | rfl | (rw [size_set]; rfl)) ?_
                intro v1 w1 o1 g1
                obtain ⟨a1, n9, c1, rfl⟩ : ∃ a n c, v1 = .slice a n c := (by obtain ⟨a, g, c, e, -⟩ := rows_sh o1; exact ⟨_, _, _, e⟩)
                have hq1 := hp.pushC o1 g1
                obtain ⟨x0, x1, x2, x3, x4, y1, y2, y3⟩ := hq1.facts
                have HQ := Lib.hid hq1.setC
                clear hp o1 g1 hq1 k0 k1 k2 k3 k4 f1 f2 f3
                go_wp2_with fail
                go_roundw
                case rel => exact ⟨i + 1, _, _, _, by omega, by go_num, HQ.out, fun q hq => by
                  by_cases e : q < i
                  · rw [if_pos e]; exact hD.out q e
                  · obtain rfl : q = i := by omega
                    rw [if_neg e, HRR.out]⟩
                case measure => simp [intOf]; omega
          · obtain rfl : i = k := by omega
            have di : decide ((i : Int) < (i : Int)) = false := decide_eq_false (by omega)
            obtain ⟨aC2, nC2, kC2, rfl⟩ : ∃ a n k, vc = .slice a n k := (by obtain ⟨a, g, c, e, -⟩ := rows_sh hp.oc; exact ⟨_, _, _, e⟩)
            obtain ⟨k0, k1, k2, k3, k4, f1, f2, f3⟩ := hp.facts
            obtain ⟨-, x0, x1, x2, x3, x4, z0, z1, z2, z3, z4⟩ := hp.rs.all
            have HQ := Lib.hid hp
            clear hp
            go_wp2_with fail
            refine bodyPost_ret (results_cell_row rfl _ _ w.heap.size 25 #[_, _, _, _, _] (0, 0) _ (by rfl) (RS.five (w := w) HQ.out.rs _ _ _ _ _) Try.underlying25 rfl (by kernel_rfl)) rfl ?_
            have hq := HQ.out
            have hW := set5_within wr w.heap.size (.int .i64 (N : Int)) (.slice aF i kF) (.slice aT i kT) (.slice (some ⟨z + 1 + 1, 0, none⟩) N N) (.slice aC2 nC2 kC2)
            refine ⟨_, rfl, ⟨aF, kF, aT, i, kT, _, N, N, aC2, nC2, kC2, by rw [HQL.out, ← HM.out], fun _ => ⟨fun W hWW => ?_, Nat.le_refl _⟩⟩, hq.rs.five_bel _ _ _ _ _⟩
            have hag : ∀ q, z ≤ q → q < wr.heap.size → W.heap[q]? = wr.heap[q]? := fun q h1 h2 => (hWW q (by have := hq.lt; omega) (by simp only [size_set]; exact h2)).trans (hW.block q (.inr (by have := hq.lt; omega)) h2)
            have i1 := (own_agree hq.of hag).is
            have i2 := (own_agree hq.ot hag).is
            have i3 : IS W (.slice (some ⟨z + 1 + 1, 0, none⟩) N N) (tab (idF S S.length) N) := by
              have h0 : W.rowIs (z + 1 + 1) 2 N (fun x => .int .i64 (idF S i x)) := hq.ri.of_block (hag _ (by omega) hq.ri.lt)
              have h := Own.of_row (E := 2) (B := z) (xs := tab (idF S S.length) N) (b := z + 1 + 1) (f := fun x => .int .i64 (idF S i x)) (w := W) (by rw [tab_length]; exact h0) (by omega) (fun q hq => by
                rw [tab_length] at hq
                rw [gi_tab hq, HSK.out]) (tab_I64 fun q hq => by
                have := idF_bd S S.length q
                have := HSK.out
                constructor <;> omega) (by rw [tab_length]; omega)
              rw [tab_length] at h
              exact h.is
            have hsz := hq.oc
            have i4 := iss_rows (xss := cmL S) (rows_agree hq.oc hag) (fun q hqq => by
              have h1 := (own_agree (hq.oU q hqq) hag).is
              rw [gr_cmL (by rw [HSK.out]; exact hqq), HSK.out, ← hD.out q hqq]
              exact h1) (by rw [cmL_len, HSK.out]) (by omega)
            rw [← HSQ.out]
            refine ⟨⟨_, _, _, _, rfl, ?_, ?_, ?_, i4⟩, ?_⟩
            · show IS _ _ (S.map (·.a))
              rw [HSX.out, ← fS_all, ← HM.out]; exact i1
            · show IS _ _ (S.map (·.b))
              rw [HSX.out, ← tS_all, ← HM.out]; exact i2
            · exact i3
            · show I64 (N : Int)
              constructor <;> omega
      · rw [decide_eq_false h40]
        obtain ⟨k0, k1, k2, k3, k4, f1, f2, f3⟩ := HP3.out.facts
        obtain ⟨-, x0, x1, x2, x3, x4, z0, z1, z2, z3, z4⟩ := HP3.out.rs.all
        clear HP b3
        go_wp2_with fail
        refine bodyPost_ret (results_cell_row rfl _ _ w.heap.size 25 #[_, _, _, _, _] (0, 0) _ (by rfl) (RS.five (w := w) HP3.out.rs _ _ _ _ _) Try.underlying25 rfl (by kernel_rfl)) rfl ?_
        exact ⟨_, rfl, ⟨aF, kF, aT, k, kT, _, N, N, aC, nC, kC, by rw [HQL.out, ← HM.out], fun h => absurd h (by rw [HQL.out, ← HM.out]; exact h40)⟩, HP3.out.rs.five_bel _ _ _ _ _⟩
end Go.Proofs.Ytllbjckbinolmaa
