/-
  Chapter 18: diagonals, IsOrthogonal: program and reference.
-/
import Derived.Test.YtkmkbmhpdnddnaaCat7
namespace Go.Proofs.Ytkmkbmhpdnddnaa
open Go.RowKit

/-- The diagonals of a square. -/
def diaP (c : Cat) (e m u v d : Int) : Bool := c.M e d == u && c.M d m == v
def diaL (c : Cat) (e m u v : Int) : List Int := (homL c (c.T e) (c.F m)).filter (diaP c e m u v)
theorem diaL_le (c : Cat) (e m u v : Int) : (diaL c e m u v).length ≤ c.fr.length := Nat.le_trans (List.length_filter_le _ _) (homL_le _ _ _)
theorem filter_yes {p : Int → Bool} {xs : List Int} {k : Nat} (h : k < xs.length) (hp : p (gi xs k) = true) : (xs.take (k + 1)).filter p = (xs.take k).filter p ++ [gi xs k] := by
  rw [take_gi h, List.filter_append]; simp [hp]
theorem filter_no {p : Int → Bool} {xs : List Int} {k : Nat} (h : k < xs.length) (hp : p (gi xs k) = false) : (xs.take (k + 1)).filter p = (xs.take k).filter p := by
  rw [take_gi h, List.filter_append]; simp [hp]
set_option maxHeartbeats 1600000 in
theorem c_diagonals {w1 : World} {b : Nat} {c : Cat} (P : PC w1 b c) (S : Shape c) {f m : Int} (hf : c.Arr f) (hm : c.Arr m) (u v : Int) : Calls Try.prog 107 #[.pointer (some ⟨b, 0, none⟩), .int .i64 f, .int .i64 m, .int .i64 u, .int .i64 v] w1 (Mk w1 fun w' z => OwnT 2 w1.heap.size w'.heap.size w' z (diaL c f m u v)) := by
  obtain ⟨aF, aT, aI, aC, bF, oF, kF, bT, oT, kT, bI, oI, kI, bC, oC, kC, bR, oR, kR, V⟩ := P.opens
  obtain ⟨rfl, rfl, rfl, rfl⟩ := V.som S (by have := hf.1; have := hf.2; unfold Cat.m at this; omega)
  have f0 := hf.1
  have m0 := hm.1
  have m1 : m < (c.fr.length : Int) := hm.2
  have f2 : f < (c.to.length : Int) := by rw [S.tl]; exact hf.2
  have m40 := S.m40
  unfold Cat.m at m40
  have SH := Lib.hid S
  have ho := Own.empty 2 w1 w1.heap.size (Nat.le_refl _)
  have BA := bel_box w1 (.cells #[] 2)
  have HZ : Hid (w1.heap.size < (w1.alloc (.cells #[] 2)).heap.size) := by unfold Hid; simp
  have VA := V.kept BA
  clear S P
  go_enter Try.func107, Try.ntmps107
  go_wp2_with fail
  have HO := Lib.hid ho
  generalize w1.alloc (.cells #[] 2) = wa at *
  have c1 := VA.c1
  have c2 := VA.c2
  have cT := VA.cT SH.out hf
  have cF := VA.cF hm
  clear ho
  go_region_held3 (fun w' => Below wa.heap.size wa w' ∧ w'.cell? ⟨b, 1, none⟩ = some (.slice (some ⟨bF, oF, none⟩) c.fr.length kF) ∧ w'.cell? ⟨b, 2, none⟩ = some (.slice (some ⟨bT, oT, none⟩) c.to.length kT) ∧ w'.cell? ⟨bT, oT + f.toNat, none⟩ = some (.int .i64 (c.T f)) ∧ w'.cell? ⟨bF, oF + m.toNat, none⟩ = some (.int .i64 (c.F m)))
    (first | exact ⟨(Drawn.one (Drawn.refl _)).bel0, c1, c2, cT, cF⟩ | (refine keep4 ?_ hb7; assumption) | (refine keep4 ?_ (bel_box _ _); assumption))
    (first | (go_at_call 86; (with_reducible refine (c_hom (VA.kept (And.left (by assumption))).pc SH.out.tl _ _).mono ?_); rintro e wq ⟨u2, rfl, o2, hb7⟩; obtain ⟨ao, cc, rfl⟩ := o2.own.shape))
  obtain ⟨hbl, -⟩ := ‹Below wa.heap.size wa wq ∧ _›
  have hL := homL_le c (c.T f) (c.F m)
  have hLl := o2.size
  have BQ := bel_next BA hbl
  have VQ := VA.kept hbl
  have ho := HO.out.kept hbl
  have o3 : OwnT 2 wa.heap.size wq.heap.size wq _ _ := o2
  have hoL := o3.own
  have hdj0 : Dj (.slice ao (homL c (c.T f) (c.F m)).length cc) (.slice (some ⟨w1.heap.size, 0, none⟩) 0 0) := by
    cases hbk : (Value.slice ao (homL c (c.T f) (c.F m)).length cc).ownBlock with
    | none => exact .inl hbk
    | some g =>
      refine .inr ?_
      rw [hbk]
      intro e
      have h1 := (hoL.lt g hbk).1
      have h2 := HZ.out
      have e2 : g = w1.heap.size := by simpa [Value.ownBlock] using e
      omega
  clear o2 o3 hb7 hbl c1 c2 cT cF VA HO
  go_wp2_with fail
  go_loopw [11, 13, 32] (fun out _ i wr => ∃ (k : Nat) (os : List Int), k ≤ (homL c (c.T f) (c.F m)).length ∧ i = .int .i64 k ∧ Below w1.heap.size w1 wr ∧ Own 2 wr w1.heap.size out os ∧ os.length ≤ k ∧ Own 2 wr wa.heap.size (.slice ao (homL c (c.T f) (c.F m)).length cc) (homL c (c.T f) (c.F m)) ∧ Dj (.slice ao (homL c (c.T f) (c.F m)).length cc) out ∧ Hid (os = ((homL c (c.T f) (c.F m)).take k).filter (diaP c f m u v))) (fun _ _ i _ => (homL c (c.T f) (c.F m)).length - (intOf i).toNat)
  case atStart => exact ⟨0, [], Nat.zero_le _, rfl, BQ, ho, Nat.le_refl _, hoL, hdj0, rfl⟩
  case round =>
    obtain ⟨k, os, hk, rfl, hb, ho, hol, hoL, hdj, hp⟩ := hrel
    by_cases hlt : k < (homL c (c.T f) (c.F m)).length
    · have hw0 := hb.size
      obtain ⟨ao', bb', oo', cc', hv, ha, hc⟩ := hoL.is.ex
      simp only [Value.slice.injEq] at hv
      obtain ⟨rfl, -, rfl⟩ := hv
      obtain rfl := ha (by omega)
      have cx := hc k hlt
      clear hc
      obtain ⟨hd, -, -⟩ := homL_mem (gi_mem hlt)
      have hgi := gi_I64 (xs := homL c (c.T f) (c.F m)) (fun x hx => by have := (homL_mem hx).1.1; have := (homL_mem hx).1.2; unfold Cat.m at this; constructor <;> omega) k
      have HY := Lib.hid (fun h => filter_yes (p := diaP c f m u v) hlt h)
      have HN := Lib.hid (fun h => filter_no (p := diaP c f m u v) hlt h)
      have V2 := V.kept hb
      have HT := Lib.hid (fun W x y (h : Drawn wr W) (hx : c.Arr x) (hy : c.Arr y) => c_then (V2.drawn h).pc SH.out hx hy)
      clear V2
      obtain ⟨d, hge⟩ : ∃ d, d = gi (homL c (c.T f) (c.F m)) k := ⟨_, rfl⟩
      rw [← hge] at cx hd hgi HY HN
      clear hge
      by_cases i1 : c.M f d = u
      · have i1b : (c.M f d == u) = true := by simp [i1]
        by_cases i2 : c.M d m = v
        · have i2b : (c.M d m == v) = true := by simp [i2]
          have HE : Hid (diaP c f m u v d = true) := by unfold Hid diaP; rw [i1b, i2b]; rfl
          clear i1 i2
          go_wp2_with fail
          refine (HT.out _ _ _ (Drawn.refl _) hf hd).mono ?_
          rintro e w4 ⟨rfl, d4⟩
          go_wp2_with fail
          refine (HT.out _ _ _ d4 hd hm).mono ?_
          rintro e w5 ⟨rfl, d5⟩
          have dd := drawn_trans d4 d5
          have hw5 : wr.heap.size ≤ w5.heap.size := dd.bel0.size
          clear d4 d5
          go_wp2_with (at_builtin; refine hold ?_)
          refine app1 (ho.kept dd.bel0) hgi (by omega) (by first | omega | (simp; omega)) Try.underlying22 infoInt64 (by rfl) _ _ (by rfl) (by rfl) (by rfl) ?_
          intro v' wz ho2 g2
          have hb2 := g2.below (B := w1.heap.size) (bel_next hb dd.bel0) (by first | omega | (simp; omega)) (fun k hk => (ho.lt k hk).1)
          have hoL2 := Own.grew (hoL.kept dd.bel0) g2 hdj
          have hdj2 := hdj.grew g2 (fun k hk => Nat.lt_of_lt_of_le (hoL.lt k hk).2 hw5)
          clear g2 ho hb hoL hdj cx dd
          go_wp2_with fail
          go_roundw
          case rel => exact ⟨k + 1, _, by omega, by go_num, hb2, ho2, by simp; omega, hoL2, hdj2, by unfold Hid; rw [HY.out HE.out, ← hp.out]⟩
          case measure => simp [intOf]; omega
        · have i2b : (c.M d m == v) = false := by simp [i2]
          have HE : Hid (diaP c f m u v d = false) := by unfold Hid diaP; rw [i1b, i2b]; rfl
          clear i1 i2
          go_wp2_with (go_at_call 103; (with_reducible refine (HT.out _ _ _ (by repeat (first | exact Drawn.refl _ | refine Drawn.step ?_ _)) (by assumption) (by assumption)).mono ?_); rintro e w' ⟨rfl, n1, rfl⟩)
          go_roundw
          case rel => exact ⟨k + 1, _, by omega, by go_num, bel_next hb (Drawn.bel0 (by repeat (first | exact Drawn.refl _ | refine Drawn.step ?_ _ | refine Drawn.one ?_))), ho.kept (Drawn.bel0 (by repeat (first | exact Drawn.refl _ | refine Drawn.step ?_ _ | refine Drawn.one ?_))), by omega, hoL.kept (Drawn.bel0 (by repeat (first | exact Drawn.refl _ | refine Drawn.step ?_ _ | refine Drawn.one ?_))), hdj, by unfold Hid; rw [HN.out HE.out, ← hp.out]⟩
          case measure => simp [intOf]; omega
      · have i1b : (c.M f d == u) = false := by simp [i1]
        have HE : Hid (diaP c f m u v d = false) := by unfold Hid diaP; rw [i1b]; rfl
        clear i1
        go_wp2_with (go_at_call 103; (with_reducible refine (HT.out _ _ _ (by repeat (first | exact Drawn.refl _ | refine Drawn.step ?_ _)) (by assumption) (by assumption)).mono ?_); rintro e w' ⟨rfl, n1, rfl⟩)
        go_roundw
        case rel => exact ⟨k + 1, _, by omega, by go_num, bel_next hb (Drawn.bel0 (by repeat (first | exact Drawn.refl _ | refine Drawn.step ?_ _ | refine Drawn.one ?_))), ho.kept (Drawn.bel0 (by repeat (first | exact Drawn.refl _ | refine Drawn.step ?_ _ | refine Drawn.one ?_))), by omega, hoL.kept (Drawn.bel0 (by repeat (first | exact Drawn.refl _ | refine Drawn.step ?_ _ | refine Drawn.one ?_))), hdj, by unfold Hid; rw [HN.out HE.out, ← hp.out]⟩
        case measure => simp [intOf]; omega
    · have hke : (homL c (c.T f) (c.F m)).length = k := by omega
      have HE : Hid (os = diaL c f m u v) := by unfold Hid diaL; rw [hp.out, List.take_of_length_le (by omega)]
      have hkb : decide ((k : Int) < ((homL c (c.T f) (c.F m)).length : Int)) = false := by simp; omega
      go_wp2_with fail
      go_ret
      refine ⟨_, rfl, ?_, hb⟩
      rw [← HE.out]
      exact ho.top
end Go.Proofs.Ytkmkbmhpdnddnaa
