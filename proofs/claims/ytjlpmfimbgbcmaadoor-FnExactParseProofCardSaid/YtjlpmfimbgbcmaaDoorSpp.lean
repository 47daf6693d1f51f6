/-
  ParseProof: the reference.
-/
import Derived.Test.YtjlpmfimbgbcmaaDoorRrd
namespace Go.Proofs.YtjlpmfimbgbcmaaDoor
open Go.RowKit

set_option maxHeartbeats 4000000 in
set_option maxRecDepth 100000 in
theorem s_ParseProof {s : ByteArray} (hs : s.size ≤ 1048576) (w : World) : Calls Tryd.prog 11 #[.string s] w (PPC w (ppR s)) := by
  have HSP := Lib.hid (fun W => c_l01Split (s := s) (by omega) 10 W)
  have hpl := pcs_len 10 s
  have hcb := Lib.countB_le ⟨#[10]⟩ (Nat.le_refl _) s.size s (Nat.le_refl _)
  have hps := Lib.hid (fun x hx => Nat.le_trans (pcs_size 10 _ s (Nat.le_refl _) x hx) hs)
  have HST := Lib.hid (fun (x : ByteArray) (hx : x.size ≤ 1048576) W => c_l31Read hx W)
  obtain ⟨R, hR⟩ : ∃ R, R = ppR s := ⟨_, rfl⟩
  obtain ⟨xs, hxs⟩ : ∃ xs, xs = pcs 10 s := ⟨_, rfl⟩
  have hR2 : R = if (xs.getD (xs.length - 1) ⟨#[]⟩).size = 0 ∧ xs.length ≤ 41 then stepsP (xs.take (xs.length - 1)) else none := by rw [hR, hxs]; rfl
  rw [← hR]
  rw [← hxs] at HSP hps hpl
  obtain ⟨n, hn⟩ : ∃ n, xs.length = n + 1 := ⟨xs.length - 1, by omega⟩
  rw [hn, Nat.add_sub_cancel] at hR2
  have hnx : n < xs.length := by omega
  have hgd : xs.getD n ⟨#[]⟩ = xs[n] := by simp [List.getD, hnx]
  rw [hgd] at hR2
  have HR2 := Lib.hid hR2
  have hn2 : n ≤ 1048577 := by omega
  clear hR hxs hR2 hgd hpl hcb
  go_enter Tryd.func11, Tryd.ntmps11
  go_wp2_with fail
  refine (HSP.out _).mono ?_
  rintro e w1 ⟨u1, rfl, o1, b1⟩
  have B1 := Lib.hid b1
  obtain ⟨bu, cu, hu⟩ : ∃ bu cu, u1 = .slice (some ⟨bu, 0, none⟩) xs.length cu := by
    rcases o1.row.2 with ⟨rfl, hz⟩ | ⟨g, cap, cur, hv, -⟩
    · omega
    · exact ⟨g, cap, hv⟩
  subst hu
  have HC := Lib.hid (show ∀ i (hi : i < xs.length), w1.cell? ⟨bu, i, none⟩ = some (.string xs[i]) from fun i hi => by
    rw [o1.row.cellAt i (by omega)]; simp [hi])
  have hc1 := HC.out n hnx
  rw [hn] at ⊢
  clear o1 b1
  obtain ⟨y, hy⟩ : ∃ y, y = xs[n] := ⟨_, rfl⟩
  rw [← hy] at hc1 HR2
  have HY := Lib.hid hy
  have n1 : (((n + 1 : Nat) : Int) - 1) = (n : Int) := by omega
  clear hy
  by_cases hy0 : y.size = 0
  · have hl : y.toList.isEmpty = true := by
      rw [ByteArray.toList_eq, List.isEmpty_iff]
      exact List.length_eq_zero_iff.1 (by rw [Array.length_toList]; exact hy0)
    by_cases h40 : n ≤ 40
    · have HR3 := Lib.hid (HR2.out.trans (if_pos ⟨hy0, by omega⟩))
      have g40 : decide ((n : Int) > 40) = false := decide_eq_false (by omega)
      go_wp2_with fail
      have OE : OSt w1.heap.size (w1.heap.size + 1) (w1.alloc (.cells #[] 54)) (.slice (some ⟨w1.heap.size, 0, none⟩) 0 0) [] := OSt.empty (Nat.le_refl _) rfl
      go_loopw [5, 6, 7, 8] (fun o i _ _ wr => ∃ (k : Nat) (X : List SV), i = .int .i64 k ∧ k ≤ n ∧ RK w1 wr xs k o X) (fun _ i _ _ _ => n - (intOf i).toNat)
      case atStart => exact ⟨0, [], rfl, Nat.zero_le _, ⟨by simpa using OE, rfl, (fun x hx => by simp at hx), rfl, bel_alloc (Below.refl _ _) _⟩⟩
      case round =>
        obtain ⟨k, X, rfl, hk, hK⟩ := hrel
        obtain ⟨ao, co, rfl⟩ := hK.o.opened
        have hXl := hK.l
        have HK := Lib.hid hK
        rw [hXl] at HK ⊢
        by_cases hlt : k < n
        · have hlx : k < xs.length := by omega
          have c1 : wr.cell? ⟨bu, k, none⟩ = some (.string xs[k]) := upc hK.b (HC.out k hlx)
          obtain ⟨x, hx⟩ : ∃ x, x = xs[k] := ⟨_, rfl⟩
          have hmem : x ∈ xs := by rw [hx]; exact List.getElem_mem hlx
          have htk : xs.take (k + 1) = xs.take k ++ [x] := by rw [hx, List.take_succ_eq_append_getElem hlx]
          have HMT := Lib.hid (show x ∈ xs.take n by
            rw [hx]
            exact List.mem_take_iff_getElem.2 ⟨k, by omega, rfl⟩)
          rw [← hx] at c1
          have HX := Lib.hid (And.intro (hps.out x hmem) htk)
          have hcall := HST.out x HX.out.1 wr
          obtain ⟨q, hq⟩ : ∃ q, q = stepP x := ⟨_, rfl⟩
          rw [← hq] at hcall
          have HQ := Lib.hid hq
          have k1 : (k : Int) < (n : Int) := by omega
          clear hq hx hmem htk hK
          go_wp2_with fail
          refine hcall.mono ?_
          rintro e w2 ⟨b2, cs, rfl, hst, y1, a1, n1', c1', a2, n2, c2, a3, n3, c3, s4, y5, s6, rfl⟩
          have HK2 := Lib.hid (bel_next HK.out.b b2)
          have Hb2 := Lib.hid b2
          clear hcall b2
          cases q with
          | none =>
            have HN := Lib.hid (HR3.out.trans (stepsP_bad HMT.out HQ.out.symm))
            clear hst
            go_wp2_with fail
            go_ret2
            exact ppc_none HN.out (bel_alloc (bel_next B1.out HK2.out) _)
          | some t =>
            obtain ⟨x', hx', hxt, hcs, hlo, hhi⟩ := sv_of (hst t rfl) (stepP_i64 HQ.out.symm)
            have HXX := Lib.hid (And.intro hx' (And.intro hxt (And.intro hcs (And.intro hlo hhi))))
            clear hst hx' hxt hcs hlo hhi
            go_wp2_with (at_builtin; refine hold ?_)
            have hXX := HXX.out
            have hsz := HK.out.b.size
            have hsz2 := Hb2.out.size
            refine appSt (B := w1.heap.size) (N := wr.heap.size) (m := w2.heap.size + 1) (X := X) (x := x') ((HK.out.o.keptB Hb2.out).keptB (bel_alloc (bel_alloc (Below.refl _ _) _) _)) (hXX.1.within (below_within (bel_alloc (bel_alloc (Below.refl _ _) _) _) w2.heap.size) (.inl (by have := hXX.2.2.2.2; omega))) (fun j hj => by
              have h := alloc_cell (w2.alloc (.cells #[.int .i64 y1, .slice a1 n1' c1', .slice a2 n2 c2, .slice a3 n3 c3, .string s4, .int .i64 y5, .string s6] 54)) #[.int .i64 y1, .slice a1 n1' c1', .slice a2 n2 c2, .slice a3 n3 c3, .string s4, .int .i64 y5, .string s6] 54 j
              rw [World.size_alloc] at h
              rw [h, hXX.2.2.1]
              simp) (by have := hXX.2.2.2.1; omega) (by have := hXX.2.2.2.2; simp; omega) (by omega) (by omega) (by rfl) _ _ (by rfl) (by rfl) (by rfl) ?_
            intro v' w' ho2 hg
            have hb2 : Below w1.heap.size w1 w' := hg.below ((bel_next HK.out.b Hb2.out).trans ((bel_alloc (bel_alloc (Below.refl _ w2) _) _).mono (by omega))) (by simp; omega) (fun q hq => (HK.out.o.lt q hq).1)
            obtain ⟨a5, c5, rfl⟩ := ho2.opened
            have hl5 : (X ++ [x']).length = k + 1 := by simp; omega
            rw [hl5] at ho2 ⊢
            have HKN := Lib.hid (show RK w1 w' xs (k + 1) (.slice a5 (k + 1) c5) (X ++ [x']) from ⟨ho2, by rw [HX.out.2, List.map_append, HK.out.e, List.filterMap_append]; simp [← HQ.out, hXX.2.1], (fun z hz => by
              rw [HX.out.2] at hz
              rcases List.mem_append.1 hz with h | h
              · exact HK.out.g z h
              · simp at h; rw [h, ← HQ.out]; rfl), hl5, hb2⟩)
            clear ho2 hg hb2 hXX hsz hsz2 hl5
            go_wp2_with fail
            go_roundw
            case rel => exact ⟨k + 1, X ++ [x'], by go_num, by omega, HKN.out⟩
            case measure => simp [intOf]; omega
        · obtain rfl : k = n := by omega
          have HE := Lib.hid (HR3.out.trans (stepsP_ok HK.out.g))
          clear hK
          go_wp2_with fail
          go_ret2
          exact ppc_some HE.out (B1.out.trans (HK.out.b.mono B1.out.size)) HK.out.o B1.out.size HK.out.e (by rw [← HK.out.e, List.length_map]; omega)
    · have HR3 := Lib.hid (HR2.out.trans (if_neg (fun h => by omega)))
      have g40 : decide ((n : Int) > 40) = true := decide_eq_true (by omega)
      go_wp2_with fail
      go_ret2
      exact ppc_none HR3.out B1.out
  · have hl : y.toList.isEmpty = false := by
      rw [ByteArray.toList_eq, List.isEmpty_eq_false_iff]
      exact fun e => hy0 (by have := congrArg List.length e; simpa using this)
    have HR3 := Lib.hid (HR2.out.trans (if_neg (fun h => hy0 h.1)))
    go_wp2_with fail
    go_ret2
    exact ppc_none HR3.out B1.out
end Go.Proofs.YtjlpmfimbgbcmaaDoor
