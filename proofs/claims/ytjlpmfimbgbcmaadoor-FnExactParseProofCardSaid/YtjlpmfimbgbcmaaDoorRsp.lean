/-
  The reference's l01Split.
-/
import Derived.Test.YtjlpmfimbgbcmaaDoorStr
import Derived.Test.YtjlpmfimbgbcmaaDoorRef
namespace Go.Proofs.YtjlpmfimbgbcmaaDoor
open Go.RowKit

theorem sl_lit1 {w : World} {a : ByteArray} {E : TypeId} : SL (w.alloc (.cells #[.string a] E)) (.slice (some ⟨w.heap.size, 0, none⟩) 1 1) [a] := by
  refine ⟨⟨some ⟨w.heap.size, 0, none⟩, w.heap.size, 0, 1, rfl, fun _ => rfl, fun i hi => ?_⟩, by simp⟩
  have hi' : i = 0 := by simp at hi; omega
  have hg := heap_alloc_new w (.cells #[.string a] E)
  subst hi'
  unfold World.cell?; rw [hg]; rfl

theorem ext_get (s : ByteArray) (a j : Nat) (h : j < (s.extract a s.size).size) (h2 : a + j < s.size) : (s.extract a s.size)[j] = s[a + j] := by
  show (s.extract a s.size).data[j] = s.data[a + j]
  simp [ByteArray.data_extract]

theorem pcs_at_hit {c : UInt8} {s : ByteArray} {a i : Nat} (ha : a ≤ i) (hi : i < s.size) (e : s[i] = c) (h : ∀ (j : Nat) (hj : j < s.size), a ≤ j → j < i → s[j] ≠ c) :
    pcs c (s.extract a s.size) = s.extract a i :: pcs c (s.extract (i + 1) s.size) := by
  have hsz : (s.extract a s.size).size = s.size - a := by simp
  obtain ⟨u, hu⟩ : ∃ u, u = s.extract a s.size := ⟨_, rfl⟩
  have hg : ∀ (j : Nat) (h1 : j < u.size) (h2 : a + j < s.size), u[j]'h1 = s[a + j]'h2 := by
    subst hu; exact fun j h1 h2 => ext_get s a j h1 h2
  rw [← hu] at hsz ⊢
  have k1 : i - a < u.size := by omega
  have k2 : u[i - a]'k1 = c := by
    rw [hg (i - a) k1 (by omega)]
    have e2 : a + (i - a) = i := by omega
    simp only [e2]
    exact e
  have k3 : ∀ (k : Nat) (hk : k < i - a), u[k]'(by omega) ≠ c := fun k hk => by
    rw [hg k (by omega) (by omega)]
    exact h (a + k) (by omega) (by omega) (by omega)
  have x1 : u.extract 0 (i - a) = s.extract a i := by
    rw [hu]
    apply Go.WideShapes.bytes_inj
    simp only [ByteArray.data_extract, Array.toList_extract, List.extract_eq_take_drop]
    rw [List.drop_zero, List.take_take, Nat.sub_zero]
    congr 1
    have : s.data.toList.length = s.size := by simp
    omega
  have x2 : u.extract (i - a + 1) u.size = s.extract (i + 1) s.size := by
    rw [hsz, hu]
    apply Go.WideShapes.bytes_inj
    simp only [ByteArray.data_extract, Array.toList_extract, List.extract_eq_take_drop]
    rw [List.drop_take, List.take_take, List.drop_drop]
    rw [show a + (i - a + 1) = i + 1 from by omega]
    congr 1
    omega
  rw [(pcs_hit k1 k2 k3).2, x1, x2]
theorem pcs_at_end {c : UInt8} {s : ByteArray} {a : Nat} (h : ∀ (j : Nat) (hj : j < s.size), a ≤ j → s[j] ≠ c) : pcs c (s.extract a s.size) = [s.extract a s.size] := by
  refine (pcs_miss fun k hk => ?_).2
  have hsz : (s.extract a s.size).size = s.size - a := by simp
  rw [ext_get s a _ _ (by omega)]
  exact h (a + k) (by omega) (by omega)

set_option maxRecDepth 100000 in
theorem c_l01Split {s : ByteArray} (hs : s.size < 4294967281) (c : UInt8) (w : World) : Calls Tryd.prog 28 #[.string s, .int .u8 (c.toNat : Int)] w (fun e w' => ∃ u, e = .returned u ∧ OwS w' w.heap.size u (pcs c s) ∧ Below w.heap.size w w') := by
  go_enter Tryd.func28, Tryd.ntmps28
  go_wp2_with fail
  go_loopw [5, 6, 7] (fun o a i wr => ∃ (done : List ByteArray) (p q : Nat), a = .int .i64 (p : Int) ∧ i = .int .i64 (q : Int) ∧ p ≤ q ∧ q ≤ s.size ∧ done.length ≤ p ∧ OwS wr w.heap.size o done ∧ Below w.heap.size w wr ∧ Hid (pcs c s = done ++ pcs c (s.extract p s.size)) ∧ Hid (∀ (j : Nat) (hj : j < s.size), p ≤ j → j < q → s[j] ≠ c)) (fun _ _ i _ => s.size - (intOf i).toNat)
  case atStart => exact ⟨[], 0, 0, rfl, rfl, Nat.le_refl _, Nat.zero_le _, Nat.le_refl _, OwS.empty w _ (Nat.le_refl _), (Below.refl _ w).alloc (Nat.le_refl _) _, by unfold Hid; simp, Lib.hid (fun j hj h1 h2 => by omega)⟩
  case round =>
    obtain ⟨done, p, q, rfl, rfl, hpq, hq, hdl, ho, hb, HP, HG⟩ := hrel
    have q0 : (0 : Int) ≤ (q : Int) := by omega
    obtain ⟨ao, co, rfl⟩ := ho.shape
    have HO := Lib.hid ho
    have HB := Lib.hid hb
    by_cases hlt : q < s.size
    · have d1 : decide ((q : Int) < (s.size : Int)) = true := decide_eq_true (by omega)
      have d1' : decide (q < s.size) = true := decide_eq_true hlt
      have q1 : (q : Int) < (s.size : Int) := by omega
      by_cases hc : s[q] = c
      · have b1 : ((s[q].toNat : Int) == (c.toNat : Int)) = true := by rw [hc]; simp
        have w1 : wrap64 ((q : Int) + 1) = ((q + 1 : Nat) : Int) := by unfold wrap64; omega
        have hp2 : (p : Int) ≤ (q : Int) := by omega
        have HPN := Lib.hid (show pcs c s = (done ++ [s.extract p q]) ++ pcs c (s.extract (q + 1) s.size) by
          rw [HP.out, pcs_at_hit hpq hlt hc (fun j hj h1 h2 => HG.out j hj h1 h2), List.append_assoc]; rfl)
        clear hc ho hb
        have hBs := HB.out.size
        go_wp2_with (at_builtin; refine hold ?_)
        refine appS (B := w.heap.size) (xs := done) (ys := [s.extract p q]) (HO.out.kept (bel_alloc (Below.refl _ _) _)) sl_lit1 (by simp; omega) (by simp; omega) (by rfl) _ _ (by rfl) (by rfl) (by rfl) ?_
        intro v' w' ho2 hg
        have hb2 : Below w.heap.size w w' := hg.below (bel_alloc HB.out _) (by simp; omega) (fun k hk => (HO.out.lt k hk).1)
        obtain ⟨a', c', rfl⟩ := ho2.shape
        have HO2 := Lib.hid ho2
        have HB2 := Lib.hid hb2
        clear ho2 hb2 hg hBs
        go_wp2_with fail
        go_roundw
        case rel => exact ⟨done ++ [s.extract p q], q + 1, q + 1, by go_num, by go_num, Nat.le_refl _, by omega, by simp; omega, by have h := HO2.out; rw [List.length_append] at h; exact h, HB2.out, HPN, Lib.hid (fun j hj h1 h2 => by omega)⟩
        case measure => simp [intOf]; omega
      · have b1 : ((s[q].toNat : Int) == (c.toNat : Int)) = false := by
          rw [beq_eq_false_iff_ne]
          exact fun e => hc (UInt8.toNat_inj.1 (by omega))
        have HGN := Lib.hid (fun (j : Nat) (hj : j < s.size) (h1 : p ≤ j) (h2 : j < q + 1) => (show s[j] ≠ c by
          by_cases e : j = q
          · subst e; exact hc
          · exact HG.out j hj h1 (by omega)))
        clear hc ho hb
        go_wp2_with fail
        go_roundw
        case rel => exact ⟨done, p, q + 1, rfl, by go_num, by omega, by omega, hdl, HO.out, HB.out, HP, HGN⟩
        case measure => simp [intOf]; omega
    · have d1 : decide ((q : Int) < (s.size : Int)) = false := decide_eq_false (by omega)
      have d1' : decide (q < s.size) = false := decide_eq_false hlt
      have p0 : (0 : Int) ≤ (p : Int) := by omega
      have p1 : (p : Int) ≤ (s.size : Int) := by omega
      have HPN := Lib.hid (show pcs c s = done ++ [s.extract p s.size] by
        rw [HP.out, pcs_at_end (fun j hj h1 => HG.out j hj h1 (by omega))])
      have hBs := HB.out.size
      clear ho hb
      go_wp2_with (at_builtin; refine hold ?_)
      refine appS (B := w.heap.size) (xs := done) (ys := [s.extract p s.size]) (HO.out.kept (bel_alloc (Below.refl _ _) _)) sl_lit1 (by simp; omega) (by simp; omega) (by rfl) _ _ (by rfl) (by rfl) (by rfl) ?_
      intro v' w' ho2 hg
      have hb2 : Below w.heap.size w w' := hg.below (bel_alloc HB.out _) (by simp; omega) (fun k hk => (HO.out.lt k hk).1)
      obtain ⟨a', c', rfl⟩ := ho2.shape
      have HO2 := Lib.hid ho2
      have HB2 := Lib.hid hb2
      clear ho2 hb2 hg hBs
      go_wp2_with fail
      go_ret
      exact ⟨.slice a' (done.length + 1) c', rfl, by rw [HPN.out]; have h := HO2.out; rw [List.length_append] at h; exact h, HB2.out⟩
end Go.Proofs.YtjlpmfimbgbcmaaDoor
