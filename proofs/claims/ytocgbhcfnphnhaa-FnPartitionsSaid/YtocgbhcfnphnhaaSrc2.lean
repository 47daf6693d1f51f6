/-
  Drawing functions: l01Count, l01Maps, l01From, l01DrawSizes, DrawTupleAt.
-/
import Derived.Test.YtocgbhcfnphnhaaSrc
import Derived.Test.YtocgbhcfnphnhaaCopy
namespace Go.Proofs.Ytocgbhcfnphnhaa
open Go.RowKit

/-- A literal of numbers. -/
theorem Own.lit {E : TypeId} {w : World} {xs : List Int} (hwf : AllI64 xs) (hl : xs.length ≤ 4294967296) : Own E (w.alloc (.cells (xs.map (Value.int .i64)).toArray E)) w.heap.size (.slice (some ⟨w.heap.size, 0, none⟩) xs.length xs.length) xs := by
  have h := World.ownsRow_lit (base := w.heap.size) (size := 1) (e := E) w (xs.map (Value.int .i64)).toArray xs.length (Nat.le_refl _) (by unfold maxLen; omega) (by simp)
  exact ⟨by simpa using h, hwf, hl⟩
theorem all64_iff {xs : List Int} (h : xs.all (fun x => decide (-9223372036854775808 ≤ x ∧ x ≤ 9223372036854775807)) = true) : AllI64 xs := by
  intro x hx
  have := List.all_eq_true.1 h x hx
  have h2 : -9223372036854775808 ≤ x ∧ x ≤ 9223372036854775807 := of_decide_eq_true this
  exact h2
theorem lit_apart {p m n c : Nat} (hp : p < m) : ∀ ao n' c', Value.slice (some ⟨m, 0, none⟩) n c = .slice ao n' c' → ∀ a, ao = some a → a.block ≠ p := by
  intro ao n' c' h a ha
  injection h with h1 h2 h3
  subst h1
  injection ha with ha
  subst ha
  show m ≠ p
  omega
theorem c_l01Count {w : World} {p : Nat} (h : Src w p) : Calls Try.prog 64 #[.pointer (some ⟨p, 0, none⟩)] w (Dn w p I64) := by
  have HN := Lib.hid (c_l01Next h 30 (by constructor <;> omega))
  clear h
  go_enter Try.func64, Try.ntmps64
  go_wp2_with fail
  refine HN.out.mono ?_
  rintro e w1 ⟨k, rfl, k0, k1, hs, hw⟩
  by_cases hk : k = 0
  · have hkb : (k == 0) = true := by simp [hk]
    have HS := Lib.hid hs
    have HW := Lib.hid hw
    clear hs hw k0 k1 HN hk
    go_wp2_with fail
    refine (c_l01Pick (HS.out.keptB (bel_alloc (Below.refl _ _) _)) (xs := [-1, 257, 256, 9223372036854775807]) (Own.lit (E := 2) (w := w1) (xs := [-1, 257, 256, 9223372036854775807]) (all64_iff (by decide)) (by simp)).is (by simp) (lit_apart HS.out.lt)).mono ?_
    rintro e w2 ⟨x, rfl, hx, hs2, hw2⟩
    have HS2 := Lib.hid hs2
    have HW2 := Lib.hid ((HW.out.al _).trans hw2)
    clear hs2 hw2
    go_wp2_with fail
    go_ret
    exact ⟨_, rfl, all64_iff (xs := [-1, 257, 256, 9223372036854775807]) (by decide) _ hx, HS2.out, HW2.out⟩
  · have hkb : (k == 0) = false := by simp [hk]
    have HN2 := Lib.hid (c_l01Next hs 8 (by constructor <;> omega))
    have HW := Lib.hid hw
    clear hs hw k0 k1 HN hk
    go_wp2_with fail
    refine HN2.out.mono ?_
    rintro e w2 ⟨x, rfl, x0, x1, hs2, hw2⟩
    have x2 := x1 (by omega)
    have HS2 := Lib.hid hs2
    have HW2 := Lib.hid (HW.out.trans hw2)
    clear hs2 hw2 x1
    go_wp2_with fail
    go_ret
    exact ⟨_, rfl, ⟨by omega, by omega⟩, HS2.out, HW2.out⟩
theorem own_within {E : TypeId} {w w' : World} {B p : Nat} {v : Value} {xs : List Int} (h : Own E w B v xs) (hb : Within p (p + 1) w w') (hp : p < B) : Own E w' B v xs :=
  ⟨ownsRow_within h.row hb (fun k hk => by have := (h.lt k hk).1; omega), h.wf, h.len⟩
theorem src_grew {w w' : World} {p : Nat} {v v' : Value} (h : Src w p) (hg : Grew w w' v v') (hv : ∀ k, v.ownBlock = some k → p < k) : Src w' p := by
  by_cases e : ∃ k, v.ownBlock = some k
  · obtain ⟨k, hk⟩ := e
    exact h.kept (B := k) (T := k + 1) ⟨hg.grown.os, hg.grown.tape, hg.grown.output, hg.grown.size, fun j hj hs => hg.grown.block j hs (fun e => by rw [hk] at e; injection e with e; omega)⟩ (hv k hk)
  · exact h.kept (B := w.heap.size) (T := w.heap.size) ⟨hg.grown.os, hg.grown.tape, hg.grown.output, hg.grown.size, fun j _ hs => hg.grown.block j hs (fun e' => e ⟨j, e'.symm⟩)⟩ h.lt
theorem within_grew {B T : Nat} {a w w' : World} {v v' : Value} (h : Within B T a w) (hg : Grew w w' v v') (hv : ∀ k, v.ownBlock = some k → a.heap.size ≤ k) : Within B T a w' :=
  ⟨hg.grown.os.trans h.os, hg.grown.tape.trans h.tape, hg.grown.output.trans h.output, Nat.le_trans h.size hg.grown.size, fun k hk hs => (hg.grown.block k (Nat.lt_of_lt_of_le hs h.size) (fun e => by have := hv k e.symm; omega)).trans (h.block k hk hs)⟩
set_option maxHeartbeats 1600000 in
set_option maxRecDepth 100000 in
theorem c_l01Maps {w : World} {p : Nat} (h : Src w p) (m : Int) (hm : I64 m) (n : Int) (hn : I64 n) : Calls Try.prog 65 #[.pointer (some ⟨p, 0, none⟩), .int .i64 m, .int .i64 n] w (Dl 2 w p (fun xs => xs.length ≤ 301)) := by
  have hm1 := hm.1
  have hm2 := hm.2
  have hn1 := hn.1
  have hn2 := hn.2
  have hp := h.lt
  have HS := Lib.hid h
  clear h hm hn
  go_enter Try.func65, Try.ntmps65
  go_wp2_with fail
  go_loopw [7, 8] (fun ov iv wr => ∃ (i : Nat) (xs : List Int), i ≤ 300 ∧ iv = .int .i64 i ∧ xs.length = i ∧ Own 2 wr w.heap.size ov xs ∧ Src wr p ∧ Within p (p + 1) w wr) (fun _ iv _ => 300 - (intOf iv).toNat)
  case atStart => exact ⟨0, [], by omega, rfl, rfl, Own.empty' (Nat.le_refl _) rfl, HS.out.keptB (bel_alloc (Below.refl _ _) _), (Within.refl _ _ _).al _⟩
  case round =>
    obtain ⟨i, xs, hi, rfl, hxl, ho, hs, hw⟩ := hrel
    obtain ⟨ao, co, rfl⟩ := ho.shape
    have HXL := Lib.hid hxl
    have hx3 : xs.length ≤ 300 := by omega
    clear hxl
    by_cases hgo : (i : Int) < m ∧ 0 < n ∧ (i : Int) < 300
    · obtain ⟨g1, g2, g3⟩ := hgo
      have b1 : decide ((i : Int) < m) = true := decide_eq_true g1
      have b2 : decide (0 < n) = true := decide_eq_true g2
      have b3 : decide ((i : Int) < 300) = true := decide_eq_true g3
      have HO := Lib.hid ho
      have HW := Lib.hid hw
      have HSS := Lib.hid hs
      have hzw := hw.size
      have G := Lib.hid (show (i : Int) < m ∧ 0 < n ∧ (i : Int) < 300 from ⟨g1, g2, g3⟩)
      clear ho hw hs g1 g2 g3
      go_wp2_with fail
      all_goals
        refine (c_l01Next HSS.out _ (by constructor <;> omega)).mono ?_
        rintro e w1 ⟨k, rfl, k0, k1, hs1, hw1⟩
        have k2 := k1 (by have := G.out; omega)
        have ho1 := own_within HO.out hw1 hp
        have hwt := HW.out.trans hw1
        have HS1 := Lib.hid hs1
        have HWT := Lib.hid hwt
        have hz1 := hwt.size
        clear hs1 hw1 hwt k1
        go_wp2_with (at_builtin; refine hold ?_)
        refine app1 ho1 (by constructor <;> omega) (by omega) hz1 Try.underlying24 infoInt64 (by rfl) _ _ (by rfl) (by rfl) (by rfl) ?_
        intro v' w2 ho2 g2'
        have hs2 := src_grew HS1.out g2' (fun q hq => by have := (ho1.lt q hq).1; omega)
        have hw2 := within_grew HWT.out g2' (fun q hq => (ho1.lt q hq).1)
        obtain ⟨ys, hys⟩ : ∃ ys, ys = xs ++ [k] := ⟨_, rfl⟩
        rw [← hys] at ho2
        have HYS := Lib.hid hys
        clear hys
        obtain ⟨av, cv, rfl⟩ := ho2.shape
        have HO2 := Lib.hid ho2
        have HS2 := Lib.hid hs2
        have HW2 := Lib.hid hw2
        clear ho1 ho2 hs2 hw2 g2'
        go_wp2_with fail
        go_roundw
        case rel => exact ⟨i + 1, ys, by have := G.out; omega, by go_num, by rw [HYS.out, List.length_append, HXL.out]; rfl, HO2.out, HS2.out, HW2.out⟩
        case measure => simp [intOf]; have := G.out; omega
    · have HO := Lib.hid ho
      have HW := Lib.hid hw
      have HSS := Lib.hid hs
      have hzw := hw.size
      clear ho hw hs
      have hg : (decide ((i : Int) < m) = false) ∨ (decide ((i : Int) < m) = true ∧ decide (0 < n) = false) ∨ (decide ((i : Int) < m) = true ∧ decide (0 < n) = true ∧ decide ((i : Int) < 300) = false) := by
        by_cases g1 : (i : Int) < m
        · by_cases g2 : 0 < n
          · exact .inr (.inr ⟨decide_eq_true g1, decide_eq_true g2, decide_eq_false (fun g3 => hgo ⟨g1, g2, g3⟩)⟩)
          · exact .inr (.inl ⟨decide_eq_true g1, decide_eq_false g2⟩)
        · exact .inl (decide_eq_false g1)
      clear hgo
      rcases hg with b1 | ⟨b1, b2⟩ | ⟨b1, b2, b3⟩
      all_goals
        go_wp2_with fail
        refine (c_l01Next HSS.out 30 (by constructor <;> omega)).mono ?_
        rintro e w1 ⟨k, rfl, k0, k1, hs1, hw1⟩
        have ho1 := own_within HO.out hw1 hp
        have hwt := HW.out.trans hw1
        have hz1 := hwt.size
        clear k0 k1 hw1
        by_cases hk : k = 0
        · have hkb : (k == 0) = true := by simp [hk]
          have HS1 := Lib.hid hs1
          have HWT := Lib.hid hwt
          have HO1 := Lib.hid ho1
          clear hs1 hwt ho1 hk
          go_wp2_with fail
          refine (c_l01Pick (HS1.out.keptB (bel_alloc (Below.refl _ _) _)) (xs := [0, n, -1]) (Own.lit (E := 2) (w := w1) (xs := [0, n, -1]) (by intro x hx; simp at hx; rcases hx with rfl | rfl | rfl <;> constructor <;> omega) (by simp)).is (by simp) (lit_apart HS1.out.lt)).mono ?_
          rintro e w2 ⟨x, rfl, hx, hs2, hw2⟩
          have ho2 := own_within (HO1.out.kept (bel_alloc (Below.refl _ _) _)) hw2 hp
          have HS2 := Lib.hid hs2
          have hwt2 := (HWT.out.al _).trans hw2
          have HWT2 := Lib.hid hwt2
          have hz2 := hwt2.size
          clear hs2 hw2 hwt2
          go_wp2_with (at_builtin; refine hold ?_)
          refine app1 ho2 (by simp at hx; rcases hx with rfl | rfl | rfl <;> constructor <;> omega) (by omega) hz2 Try.underlying24 infoInt64 (by rfl) _ _ (by rfl) (by rfl) (by rfl) ?_
          intro v' w3 ho3 g3'
          have hs3 := src_grew HS2.out g3' (fun q hq => by have := (ho2.lt q hq).1; omega)
          have hw3 := within_grew HWT2.out g3' (fun q hq => (ho2.lt q hq).1)
          obtain ⟨ys, hys⟩ : ∃ ys, ys = xs ++ [x] := ⟨_, rfl⟩
          rw [← hys] at ho3
          have HYS := Lib.hid hys
          clear hys
          obtain ⟨av, cv, rfl⟩ := ho3.shape
          have HO3 := Lib.hid ho3
          have HS3 := Lib.hid hs3
          have HW3 := Lib.hid hw3
          clear ho2 ho3 hs3 hw3 g3'
          go_wp2_with fail
          go_ret
          exact ⟨_, ys, rfl, by rw [HYS.out]; simp; omega, HO3.out.top, HS3.out, HW3.out⟩
        · have hkb : (k == 0) = false := by simp [hk]
          have HS1 := Lib.hid hs1
          have HWT := Lib.hid hwt
          have HO1 := Lib.hid ho1
          clear hs1 hwt ho1 hk
          go_wp2_with fail
          go_ret
          exact ⟨_, xs, rfl, by show xs.length ≤ 301; omega, HO1.out.top, HS1.out, HWT.out⟩
end Go.Proofs.Ytocgbhcfnphnhaa
