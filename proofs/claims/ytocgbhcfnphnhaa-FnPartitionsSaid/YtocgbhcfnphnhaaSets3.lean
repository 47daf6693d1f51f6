/-
  Chapter 1: then, ThenMaps, mapCode, FibreOf of program and reference.
-/
import Derived.Test.YtocgbhcfnphnhaaSets2
namespace Go.Proofs.Ytocgbhcfnphnhaa
open Go.RowKit

/-- f then g -/
def thenL (f g : List Int) : List Int := f.map fun y => gi g y.toNat
theorem thenL_length (f g : List Int) : (thenL f g).length = f.length := by simp [thenL]
theorem gi_thenL {f g : List Int} {k : Nat} (h : k < f.length) : gi (thenL f g) k = gi g (gi f k).toNat := gi_map h
theorem allIn_gi {n : Int} {xs : List Int} (h : allIn n xs = true) {i : Nat} (hi : i < xs.length) : 0 ≤ gi xs i ∧ gi xs i < n := by
  have := List.all_eq_true.1 h _ (gi_mem hi)
  simpa using this
theorem allIn_mem {n : Int} {xs : List Int} (h : allIn n xs = true) {x : Int} (hx : x ∈ xs) : 0 ≤ x ∧ x < n := by
  have := List.all_eq_true.1 h _ hx
  simpa using this
theorem thenL_I64 {f g : List Int} (hg : AllI64 g) : AllI64 (thenL f g) := by
  intro x hx
  simp only [thenL, List.mem_map] at hx
  obtain ⟨y, _, rfl⟩ := hx
  exact gi_I64 hg _

theorem c_then {w : World} {u v : Value} {f g : List Int} (hf : IS w u f) (hg : IS w v g) (hin : allIn g.length f = true) :
    Calls Try.prog 63 #[u, v] w (Mk w fun w' r => OwnT 2 w.heap.size w'.heap.size w' r (thenL f g)) := by
  obtain ⟨ao, b, o, c, rfl, ha, hc⟩ := hf.ex
  obtain ⟨ao', b', o', c', rfl, ha', hc'⟩ := hg.ex
  have hlen := hf.len
  have hlen' := hg.len
  have hwf := hg.wf
  have hmk := run_make_row' (P := Try.prog) 24 2 (.int .i64 0) 8 Try.underlying24 infoInt64 rfl .i64 .i64 f.length (by omega) (by omega)
  clear hf hg
  have HI := Lib.hid (fun i hi => allIn_gi hin (i := i) hi)
  clear hin
  go_enter Try.func63, Try.ntmps63
  go_wp2
  clear hmk
  go_loopw [6, 7, 13] (fun _ _ i wr => ∃ k : Nat, k ≤ f.length ∧ i = .int .i64 k ∧ Below w.heap.size w wr ∧ wr.rowIs w.heap.size 2 f.length (fun j => if j < k then .int .i64 (gi (thenL f g) j) else .int .i64 0)) (fun _ _ i _ => f.length - (intOf i).toNat)
  case atStart => exact ⟨0, Nat.zero_le _, rfl, (Below.refl _ _).alloc (Nat.le_refl _) _, (World.rowIs_made w _ _ _).congr (fun i _ => by simp)⟩
  case round =>
    obtain ⟨k, hk, rfl, hb, hr⟩ := hrel
    by_cases hlt : k < f.length
    · obtain rfl := ha (by omega)
      have hi := HI.out k hlt
      obtain rfl := ha' (by omega)
      have hx' := IS.cellAt hb (hc k hlt) rfl
      have hy' := IS.cellAt hb (hc' (gi f k).toNat (by omega)) rfl
      rw [← gi_thenL hlt] at hy'
      have hst := hr.cell hlt
      have hfz := hr.frozen k
      clear hc hc'
      go_wp2
      go_roundw
      case rel => exact ⟨k + 1, by omega, by go_num, hb.setCell (Nat.le_refl _) _, (hr.set k _).congr (row_step _ _ _)⟩
      case measure => simp [intOf]; omega
    · have hk : k = f.length := by omega
      subst hk
      go_wp2
      go_ret
      rw [← thenL_length f g] at hr
      exact ⟨_, rfl, by rw [← thenL_length f g]; exact (Own.of_row hr (Nat.le_refl _) (fun i hi => if_pos hi) (thenL_I64 hwf) (by rw [thenL_length]; exact hlen)).top, hb⟩
/-- What ThenMaps returns. -/
def thenMapsR (n : Int) (f : List Int) (k : Int) (g : List Int) : List Int × Int :=
  if inR n 0 256 = true ∧ inR k 0 256 = true then
    if isMapB n f = true ∧ isMapB k g = true ∧ (g.length : Int) = n then (thenL f g, 0) else ([], 1)
  else ([], 2)
theorem i_ThenMaps (n : Int) (_ : I64 n) {w : World} {u : Value} {f : List Int} (hf : IS w u f) (k : Int) (_ : I64 k) {v : Value} {g : List Int} (hg : IS w v g) :
    Calls Try.prog 25 #[.int .i64 n, u, .int .i64 k, v] w (Mk2 2 w (thenMapsR n f k g)) := by
  obtain ⟨ao, b, o, c, hu, -⟩ := hf.ex
  obtain ⟨ao', b', o', c', hv, -⟩ := hg.ex
  have l1 := hf.len
  have l2 := hg.len
  have HF := Lib.hid hf
  have HG := Lib.hid hg
  clear hf hg
  subst hu hv
  by_cases h1 : inR n 0 256 = true
  · by_cases h2 : inR k 0 256 = true
    · have g1 : 0 ≤ n ∧ n ≤ 256 := by simpa [inR] using h1
      have g2 : 0 ≤ k ∧ k ≤ 256 := by simpa [inR] using h2
      by_cases h3 : (decide (f.length ≤ 256) && allIn n f) = true
      · by_cases h4 : (decide (g.length ≤ 256) && allIn k g) = true
        · by_cases h5 : (g.length : Int) = n
          · have hm : n = (g.length : Int) := h5.symm
            have h5b : ((g.length : Int) != n) = false := by simp [h5]
            have hin : allIn g.length f = true := by rw [h5]; simp at h3; exact h3.2
            have H5 := Lib.hid h5
            clear hm h5
            go_enter Try.func25, Try.ntmps25
            go_wp2_with (first | (go_at_call 56; (with_reducible refine (c_isSize _ _).mono ?_); rintro e w' ⟨rfl, n1, rfl⟩) | (go_at_call 62; (with_reducible refine (c_maps (HF.out.drawn (by repeat (first | exact Drawn.refl _ | refine Drawn.step ?_ _ | refine Drawn.one ?_))) n (by omega) (by omega)).mono ?_); rintro e w' ⟨rfl, n1, rfl⟩) | (go_at_call 62; (with_reducible refine (c_maps (HG.out.drawn (by repeat (first | exact Drawn.refl _ | refine Drawn.step ?_ _ | refine Drawn.one ?_))) k (by omega) (by omega)).mono ?_); rintro e w' ⟨rfl, n1, rfl⟩))
            refine (c_then (HF.out.drawn (by repeat (first | exact Drawn.refl _ | refine Drawn.step ?_ _ | refine Drawn.one ?_))) (HG.out.drawn (by repeat (first | exact Drawn.refl _ | refine Drawn.step ?_ _ | refine Drawn.one ?_))) hin).mono ?_
            rintro e w1 ⟨u1, rfl, o1, b1⟩
            go_wp2_with fail
            go_ret2
            refine mk2_own (by simp [thenMapsR, isMapB, H5.out, *]) (o1.own.base (Nat.le_refl _)) ?_
            exact (Drawn.below (by repeat (first | exact Drawn.refl _ | refine Drawn.step ?_ _ | refine Drawn.one ?_)) _).trans b1
          · have h5b : ((g.length : Int) != n) = !decide ((g.length : Int) = n) := by by_cases h : (g.length : Int) = n <;> simp [h]
            go_enter Try.func25, Try.ntmps25
            go_wp2_with (first | (go_at_call 56; (with_reducible refine (c_isSize _ _).mono ?_); rintro e w' ⟨rfl, n1, rfl⟩) | (go_at_call 62; (with_reducible refine (c_maps (HF.out.drawn (by repeat (first | exact Drawn.refl _ | refine Drawn.step ?_ _ | refine Drawn.one ?_))) n (by omega) (by omega)).mono ?_); rintro e w' ⟨rfl, n1, rfl⟩) | (go_at_call 62; (with_reducible refine (c_maps (HG.out.drawn (by repeat (first | exact Drawn.refl _ | refine Drawn.step ?_ _ | refine Drawn.one ?_))) k (by omega) (by omega)).mono ?_); rintro e w' ⟨rfl, n1, rfl⟩))
            go_ret2
            exact mk2_nil (by simp [thenMapsR, isMapB, *]) (Drawn.below (by repeat (first | exact Drawn.refl _ | refine Drawn.step ?_ _ | refine Drawn.one ?_)) _)
        · have h5b : ((g.length : Int) != n) = !decide ((g.length : Int) = n) := by by_cases h : (g.length : Int) = n <;> simp [h]
          go_enter Try.func25, Try.ntmps25
          go_wp2_with (first | (go_at_call 56; (with_reducible refine (c_isSize _ _).mono ?_); rintro e w' ⟨rfl, n1, rfl⟩) | (go_at_call 62; (with_reducible refine (c_maps (HF.out.drawn (by repeat (first | exact Drawn.refl _ | refine Drawn.step ?_ _ | refine Drawn.one ?_))) n (by omega) (by omega)).mono ?_); rintro e w' ⟨rfl, n1, rfl⟩) | (go_at_call 62; (with_reducible refine (c_maps (HG.out.drawn (by repeat (first | exact Drawn.refl _ | refine Drawn.step ?_ _ | refine Drawn.one ?_))) k (by omega) (by omega)).mono ?_); rintro e w' ⟨rfl, n1, rfl⟩))
          go_ret2
          exact mk2_nil (by simp [thenMapsR, isMapB, *]) (Drawn.below (by repeat (first | exact Drawn.refl _ | refine Drawn.step ?_ _ | refine Drawn.one ?_)) _)
      · have h5b : ((g.length : Int) != n) = !decide ((g.length : Int) = n) := by by_cases h : (g.length : Int) = n <;> simp [h]
        go_enter Try.func25, Try.ntmps25
        go_wp2_with (first | (go_at_call 56; (with_reducible refine (c_isSize _ _).mono ?_); rintro e w' ⟨rfl, n1, rfl⟩) | (go_at_call 62; (with_reducible refine (c_maps (HF.out.drawn (by repeat (first | exact Drawn.refl _ | refine Drawn.step ?_ _ | refine Drawn.one ?_))) n (by omega) (by omega)).mono ?_); rintro e w' ⟨rfl, n1, rfl⟩) | (go_at_call 62; (with_reducible refine (c_maps (HG.out.drawn (by repeat (first | exact Drawn.refl _ | refine Drawn.step ?_ _ | refine Drawn.one ?_))) k (by omega) (by omega)).mono ?_); rintro e w' ⟨rfl, n1, rfl⟩))
        go_ret2
        exact mk2_nil (by simp [thenMapsR, isMapB, *]) (Drawn.below (by repeat (first | exact Drawn.refl _ | refine Drawn.step ?_ _ | refine Drawn.one ?_)) _)
    · go_enter Try.func25, Try.ntmps25
      go_wp2_with (go_at_call 56; refine (c_isSize _ _).mono ?_; rintro e w' ⟨rfl, n1, rfl⟩)
      go_ret2
      exact mk2_nil (by simp [thenMapsR, *]) (Drawn.below (by repeat (first | exact Drawn.refl _ | refine Drawn.step ?_ _ | refine Drawn.one ?_)) _)
  · go_enter Try.func25, Try.ntmps25
    go_wp2_with (go_at_call 56; refine (c_isSize _ _).mono ?_; rintro e w' ⟨rfl, n1, rfl⟩)
    go_ret2
    exact mk2_nil (by simp [thenMapsR, *]) (Drawn.below (by repeat (first | exact Drawn.refl _ | refine Drawn.step ?_ _ | refine Drawn.one ?_)) _)
/-- The code of a map. -/
def codeOf (n : Int) (f : List Int) : Int := if inR n 0 256 = true then (if isMapB n f = true then 0 else 1) else 2
theorem c_l01Code {w : World} {v : Value} {f : List Int} (h : IS w v f) (n : Int) : Calls Try.prog 74 #[.int .i64 n, v] w (Rd w (.int .i64 (codeOf n f))) := by
  have HF := Lib.hid h
  clear h
  by_cases h1 : inR n 0 256 = true
  · by_cases h2 : isMapB n f = true
    · go_enter Try.func74, Try.ntmps74
      go_wp2_with (first | (go_at_call 67; (with_reducible refine (c_l01Size _ _).mono ?_); rintro e w' ⟨rfl, n1, rfl⟩) | (go_at_call 68; (with_reducible refine (c_sIsMap (HF.out.drawn (by repeat (first | exact Drawn.refl _ | refine Drawn.step ?_ _ | refine Drawn.one ?_))) n).mono ?_); rintro e w' ⟨rfl, n1, rfl⟩))
      go_ret
      exact rd_int (by simp [codeOf, *]) (by repeat (first | exact Drawn.refl _ | refine Drawn.step ?_ _ | refine Drawn.one ?_))
    · go_enter Try.func74, Try.ntmps74
      go_wp2_with (first | (go_at_call 67; (with_reducible refine (c_l01Size _ _).mono ?_); rintro e w' ⟨rfl, n1, rfl⟩) | (go_at_call 68; (with_reducible refine (c_sIsMap (HF.out.drawn (by repeat (first | exact Drawn.refl _ | refine Drawn.step ?_ _ | refine Drawn.one ?_))) n).mono ?_); rintro e w' ⟨rfl, n1, rfl⟩))
      go_ret
      exact rd_int (by simp [codeOf, *]) (by repeat (first | exact Drawn.refl _ | refine Drawn.step ?_ _ | refine Drawn.one ?_))
  · go_enter Try.func74, Try.ntmps74
    go_wp2_with (first | (go_at_call 67; (with_reducible refine (c_l01Size _ _).mono ?_); rintro e w' ⟨rfl, n1, rfl⟩) | (go_at_call 68; (with_reducible refine (c_sIsMap (HF.out.drawn (by repeat (first | exact Drawn.refl _ | refine Drawn.step ?_ _ | refine Drawn.one ?_))) n).mono ?_); rintro e w' ⟨rfl, n1, rfl⟩))
    go_ret
    exact rd_int (by simp [codeOf, *]) (by repeat (first | exact Drawn.refl _ | refine Drawn.step ?_ _ | refine Drawn.one ?_))
/-- The code of a number of elements and of maps to this set. -/
def codesOf (n : Int) (fs : List (List Int)) : Int := if inR n 0 256 = true then (if fs.all (fun f => isMapB n f) = true then 0 else 1) else 2
theorem codesOf_one (n : Int) (f : List Int) : codesOf n [f] = codeOf n f := by simp [codesOf, codeOf]
theorem c_mapCode {w : World} {v : Value} {fs : List (List Int)} (h : ISS w v fs) (n : Int) : Calls Try.prog 66 #[.int .i64 n, v] w (Rd w (.int .i64 (codesOf n fs))) := by
  obtain ⟨ao, b, o, c, R, rfl, ha, hc, hr⟩ := h.ex
  have hlen := h.len
  have HR := Lib.hid hr
  clear h hr
  by_cases h1 : inR n 0 256 = true
  · have g1 : 0 ≤ n ∧ n ≤ 256 := by simpa [inR] using h1
    go_enter Try.func66, Try.ntmps66
    go_wp2_with (go_at_call 56; (with_reducible refine (c_isSize _ _).mono ?_); rintro e w' ⟨rfl, n1, rfl⟩)
    go_loopw [6, 12] (fun _ i wr => ∃ k m : Nat, k ≤ fs.length ∧ i = .int .i64 k ∧ wr = w.drewN m ∧ Hid (fs.all (fun f => isMapB n f) = (fs.drop k).all (fun f => isMapB n f))) (fun _ i _ => fs.length - (intOf i).toNat)
    case atStart => exact ⟨0, _, Nat.zero_le _, rfl, rfl, rfl⟩
    case round =>
      obtain ⟨k, m, hk, rfl, rfl, hp⟩ := hrel
      by_cases hlt : k < fs.length
      · obtain rfl := ha (by omega)
        have cx := hc k hlt
        have hI := Lib.hid (HR.out k hlt)
        clear hc
        have hs := Lib.hid (drop_gr hlt)
        by_cases he : (decide ((gr fs k).length ≤ 256) && allIn n (gr fs k)) = true
        · go_wp2_with (go_at_call 62; (with_reducible refine (c_maps (hI.out.drawn (by repeat (first | exact Drawn.refl _ | refine Drawn.step ?_ _ | refine Drawn.one ?_))) n (by omega) (by omega)).mono ?_); rintro e w' ⟨rfl, n1, rfl⟩)
          go_roundw
          case rel => exact ⟨k + 1, _, by omega, by go_num, rfl, by unfold Hid; rw [hp.out, hs.out, List.all_cons]; simp only [isMapB]; rw [h1, he]; rfl⟩
          case measure => simp [intOf]; omega
        · go_wp2_with (go_at_call 62; (with_reducible refine (c_maps (hI.out.drawn (by repeat (first | exact Drawn.refl _ | refine Drawn.step ?_ _ | refine Drawn.one ?_))) n (by omega) (by omega)).mono ?_); rintro e w' ⟨rfl, n1, rfl⟩)
          go_ret
          exact rd_int (by rw [codesOf, if_pos h1, hp.out, hs.out, List.all_cons, if_neg (by simp only [isMapB]; rw [h1]; simp at he ⊢; intro a b; exact absurd b (by rw [he a]; simp))]) (by repeat (first | exact Drawn.refl _ | refine Drawn.step ?_ _ | refine Drawn.one ?_))
      · have hk' : k = fs.length := by omega
        subst hk'
        go_wp2_with fail
        go_ret
        exact rd_int (by rw [codesOf, if_pos h1, hp.out, List.drop_length]; rfl) (by repeat (first | exact Drawn.refl _ | refine Drawn.step ?_ _ | refine Drawn.one ?_))
  · go_enter Try.func66, Try.ntmps66
    go_wp2_with (go_at_call 56; (with_reducible refine (c_isSize _ _).mono ?_); rintro e w' ⟨rfl, n1, rfl⟩)
    go_ret
    exact rd_int (by rw [codesOf, if_neg h1]) (by repeat (first | exact Drawn.refl _ | refine Drawn.step ?_ _ | refine Drawn.one ?_))
/-- What FibreOf returns. -/
def fibreR (n : Int) (f : List Int) (y : Int) : List Int × Int :=
  if codeOf n f = 0 then (if 0 ≤ y ∧ y < n then (sel (fun i => gi f i == y) f.length, 0) else ([], 2)) else ([], codeOf n f)
theorem codeOf_zero {n : Int} {f : List Int} (h : codeOf n f = 0) : 0 ≤ n ∧ n ≤ 256 ∧ f.length ≤ 256 ∧ allIn n f = true := by
  unfold codeOf at h
  split at h
  · split at h
    · rename_i h1 h2
      simp [isMapB, inR] at h2
      exact ⟨h2.1.1, h2.1.2, h2.2.1, h2.2.2⟩
    · cases h
  · cases h
theorem codeOf_I64 (n : Int) (f : List Int) : 0 ≤ codeOf n f ∧ codeOf n f ≤ 2 := by
  unfold codeOf
  repeat' split
  all_goals omega
theorem i_FibreOf (n : Int) (_ : I64 n) {w : World} {u : Value} {f : List Int} (hf : IS w u f) (y : Int) (hy : I64 y) :
    Calls Try.prog 32 #[.int .i64 n, u, .int .i64 y] w (Mk2 2 w (fibreR n f y)) := by
  obtain ⟨ao, b, o, c, hu, ha, hc⟩ := hf.ex
  have l1 := hf.len
  have HF := Lib.hid hf
  have hcb := codeOf_I64 n f
  clear hf
  subst hu
  have hm := fun W (h : ISS W (.slice (some ⟨w.heap.size, 0, none⟩) 1 1) [f]) => codesOf_one n f ▸ c_mapCode h n
  by_cases h1 : codeOf n f = 0
  · have hz := codeOf_zero h1
    have h1b : (codeOf n f != 0) = false := by simp [h1]
    have H1 := Lib.hid h1
    clear h1
    by_cases h2 : 0 ≤ y ∧ y < n
    · have h2b : inR y 0 (n - 1) = true := by simp [inR]; omega
      go_enter Try.func32, Try.ntmps32
      go_wp2_with fail
      refine (hm _ (ISS.lit1 HF.out)).mono ?_
      rintro e w1 ⟨rfl, d1⟩
      have b1 : Below w.heap.size w w1 := (bel_alloc (Below.refl _ _) _).trans (d1.below _)
      clear d1 hm
      go_wp2_with fail
      refine (c_inRange _ _ _ _).mono ?_
      rintro e w2 ⟨rfl, d2⟩
      replace b1 := b1.trans (d2.below _)
      clear d2
      go_wp2_with fail
      go_loopw [9, 10, 11, 27] (fun out _ _ i wr => ∃ (k : Nat) (os : List Int), k ≤ f.length ∧ i = .int .i64 k ∧ Below w.heap.size w wr ∧ Own 2 wr w.heap.size out os ∧ os.length ≤ k ∧ Hid (os = sel (fun i => gi f i == y) k)) (fun _ _ _ i _ => f.length - (intOf i).toNat)
      case atStart => exact ⟨0, [], Nat.zero_le _, rfl, bel_alloc b1 _, Own.empty _ _ _ b1.size, Nat.le_refl _, rfl⟩
      case round =>
        obtain ⟨k, os, hk, rfl, hb, ho, hol, hp⟩ := hrel
        by_cases hlt : k < f.length
        · obtain rfl := ha (by omega)
          have hx' := IS.cellAt hb (hc k hlt) rfl
          have hw0 := hb.size
          have HT := Lib.hid (hlt)
          clear hc b1
          by_cases he : gi f k = y
          · have heb : (gi f k == y) = true := by simp [he]
            have HE := Lib.hid he
            clear he
            go_wp2_with (at_builtin; refine hold ?_)
            refine app1 ho (by constructor <;> omega) (by omega) (by omega) Try.underlying24 infoInt64 (by rfl) _ _ (by rfl) (by rfl) (by rfl) ?_
            intro v' w2 ho2 g2
            have hb2 := g2.below hb (by omega) (fun k hk => (ho.lt k hk).1)
            clear ho g2 hb hx'
            go_wp2_with fail
            go_roundw
            case rel => exact ⟨k + 1, _, by omega, by go_num, hb2, ho2, by simp; omega, by unfold Hid; rw [sel_yes (by simp [HE.out]), ← hp.out]⟩
            case measure => simp [intOf]; omega
          · have heb : (gi f k == y) = false := by simp [he]
            have HE := Lib.hid he
            clear he
            go_wp2_with fail
            go_roundw
            case rel => exact ⟨k + 1, _, by omega, by go_num, hb, ho, by omega, by unfold Hid; rw [sel_no (by simp [HE.out]), ← hp.out]⟩
            case measure => simp [intOf]; omega
        · have hk : k = f.length := by omega
          subst hk
          go_wp2_with fail
          go_ret2
          exact mk2_own (by rw [fibreR, if_pos H1.out, if_pos h2, hp.out]) ho hb
    · have h2b : inR y 0 (n - 1) = false := by simp [inR]; omega
      go_enter Try.func32, Try.ntmps32
      go_wp2_with (first | (go_at_call 66; (with_reducible refine (hm _ (ISS.lit1 HF.out)).mono ?_); rintro e w' ⟨rfl, n1, rfl⟩) | (go_at_call 43; (with_reducible refine (c_inRange _ _ _ _).mono ?_); rintro e w' ⟨rfl, n1, rfl⟩))
      go_ret2
      exact mk2_nil (by rw [fibreR, if_pos H1.out, if_neg h2]) ((bel_alloc (Below.refl _ _) _).trans (Drawn.below (by repeat (first | exact Drawn.refl _ | refine Drawn.step ?_ _ | refine Drawn.one ?_)) _))
  · have h1b : (codeOf n f != 0) = true := by simp [h1]
    have H1 := Lib.hid h1
    clear h1
    go_enter Try.func32, Try.ntmps32
    go_wp2_with (go_at_call 66; (with_reducible refine (hm _ (ISS.lit1 HF.out)).mono ?_); rintro e w' ⟨rfl, n1, rfl⟩)
    go_ret2
    exact mk2_nil (by rw [fibreR, if_neg H1.out]) ((bel_alloc (Below.refl _ _) _).trans (Drawn.below (by repeat (first | exact Drawn.refl _ | refine Drawn.step ?_ _ | refine Drawn.one ?_)) _))
end Go.Proofs.Ytocgbhcfnphnhaa
