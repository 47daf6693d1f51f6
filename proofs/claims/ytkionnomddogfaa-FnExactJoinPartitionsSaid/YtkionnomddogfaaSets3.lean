/-
  Chapter 1: then, ThenMaps, mapCode, FibreOf of program and reference.
-/
import Derived.Test.YtkionnomddogfaaSets2
namespace Go.Proofs.Ytkionnomddogfaa
open Go.RowKit

/-- f then g -/
def thenL (f g : List Int) : List Int := f.map fun y => gi g y.toNat
theorem thenL_length (f g : List Int) : (thenL f g).length = f.length := by simp [thenL]
theorem gi_thenL {f g : List Int} {k : Nat} (h : k < f.length) : gi (thenL f g) k = gi g (gi f k).toNat := gi_map h
theorem allIn_gi {n : Int} {xs : List Int} (h : allIn n xs = true) {i : Nat} (hi : i < xs.length) : 0 ≤ gi xs i ∧ gi xs i < n := by
  have := List.all_eq_true.1 h _ (gi_mem hi)
  simpa using this
theorem allIn_mem {n : Int} {xs : List Int} (h : allIn n xs = true) {x : Int} (hx : x ∈ xs) : 0 ≤ x ∧ x < n := by
  have := List.all_eq_true.1 h _ hx
  simpa using this
theorem thenL_I64 {f g : List Int} (hg : AllI64 g) : AllI64 (thenL f g) := by
  intro x hx
  simp only [thenL, List.mem_map] at hx
  obtain ⟨y, _, rfl⟩ := hx
  exact gi_I64 hg _

/-- What ThenMaps returns. -/
def thenMapsR (n : Int) (f : List Int) (k : Int) (g : List Int) : List Int × Int :=
  if inR n 0 256 = true ∧ inR k 0 256 = true then
    if isMapB n f = true ∧ isMapB k g = true ∧ (g.length : Int) = n then (thenL f g, 0) else ([], 1)
  else ([], 2)
/-- The code of a map. -/
def codeOf (n : Int) (f : List Int) : Int := if inR n 0 256 = true then (if isMapB n f = true then 0 else 1) else 2
theorem c_l01Code {w : World} {v : Value} {f : List Int} (h : IS w v f) (n : Int) : Calls Try.prog 55 #[.int .i64 n, v] w (Rd w (.int .i64 (codeOf n f))) := by
  have HF := Lib.hid h
  clear h
  by_cases h1 : inR n 0 256 = true
  · by_cases h2 : isMapB n f = true
    · go_enter Try.func55, Try.ntmps55
      go_wp2_with (first | (go_at_call 57; (with_reducible refine (c_l01Size _ _).mono ?_); rintro e w' ⟨rfl, n1, rfl⟩) | (go_at_call 58; (with_reducible refine (c_sIsMap (HF.out.drawn (by repeat (first | exact Drawn.refl _ | refine Drawn.step ?_ _ | refine Drawn.one ?_))) n).mono ?_); rintro e w' ⟨rfl, n1, rfl⟩))
      go_ret
      exact rd_int (by simp [codeOf, *]) (by repeat (first | exact Drawn.refl _ | refine Drawn.step ?_ _ | refine Drawn.one ?_))
    · go_enter Try.func55, Try.ntmps55
      go_wp2_with (first | (go_at_call 57; (with_reducible refine (c_l01Size _ _).mono ?_); rintro e w' ⟨rfl, n1, rfl⟩) | (go_at_call 58; (with_reducible refine (c_sIsMap (HF.out.drawn (by repeat (first | exact Drawn.refl _ | refine Drawn.step ?_ _ | refine Drawn.one ?_))) n).mono ?_); rintro e w' ⟨rfl, n1, rfl⟩))
      go_ret
      exact rd_int (by simp [codeOf, *]) (by repeat (first | exact Drawn.refl _ | refine Drawn.step ?_ _ | refine Drawn.one ?_))
  · go_enter Try.func55, Try.ntmps55
    go_wp2_with (first | (go_at_call 57; (with_reducible refine (c_l01Size _ _).mono ?_); rintro e w' ⟨rfl, n1, rfl⟩) | (go_at_call 58; (with_reducible refine (c_sIsMap (HF.out.drawn (by repeat (first | exact Drawn.refl _ | refine Drawn.step ?_ _ | refine Drawn.one ?_))) n).mono ?_); rintro e w' ⟨rfl, n1, rfl⟩))
    go_ret
    exact rd_int (by simp [codeOf, *]) (by repeat (first | exact Drawn.refl _ | refine Drawn.step ?_ _ | refine Drawn.one ?_))
/-- The code of a number of elements and of maps to this set. -/
def codesOf (n : Int) (fs : List (List Int)) : Int := if inR n 0 256 = true then (if fs.all (fun f => isMapB n f) = true then 0 else 1) else 2
theorem codesOf_one (n : Int) (f : List Int) : codesOf n [f] = codeOf n f := by simp [codesOf, codeOf]
theorem c_mapCode {w : World} {v : Value} {fs : List (List Int)} (h : ISS w v fs) (n : Int) : Calls Try.prog 56 #[.int .i64 n, v] w (Rd w (.int .i64 (codesOf n fs))) := by
  obtain ⟨ao, b, o, c, R, rfl, ha, hc, hr⟩ := h.ex
  have hlen := h.len
  have HR := Lib.hid hr
  clear h hr
  by_cases h1 : inR n 0 256 = true
  · have g1 : 0 ≤ n ∧ n ≤ 256 := by simpa [inR] using h1
    go_enter Try.func56, Try.ntmps56
    go_wp2_with (go_at_call 60; (with_reducible refine (c_isSize _ _).mono ?_); rintro e w' ⟨rfl, n1, rfl⟩)
    go_loopw [6, 12] (fun _ i wr => ∃ k m : Nat, k ≤ fs.length ∧ i = .int .i64 k ∧ wr = w.drewN m ∧ Hid (fs.all (fun f => isMapB n f) = (fs.drop k).all (fun f => isMapB n f))) (fun _ i _ => fs.length - (intOf i).toNat)
    case atStart => exact ⟨0, _, Nat.zero_le _, rfl, rfl, rfl⟩
    case round =>
      obtain ⟨k, m, hk, rfl, rfl, hp⟩ := hrel
      by_cases hlt : k < fs.length
      · obtain rfl := ha (by omega)
        have cx := hc k hlt
        have hI := Lib.hid (HR.out k hlt)
        clear hc
        have hs := Lib.hid (drop_gr hlt)
        by_cases he : (decide ((gr fs k).length ≤ 256) && allIn n (gr fs k)) = true
        · go_wp2_with (go_at_call 61; (with_reducible refine (c_maps (hI.out.drawn (by repeat (first | exact Drawn.refl _ | refine Drawn.step ?_ _ | refine Drawn.one ?_))) n (by omega) (by omega)).mono ?_); rintro e w' ⟨rfl, n1, rfl⟩)
          go_roundw
          case rel => exact ⟨k + 1, _, by omega, by go_num, rfl, by unfold Hid; rw [hp.out, hs.out, List.all_cons]; simp only [isMapB]; rw [h1, he]; rfl⟩
          case measure => simp [intOf]; omega
        · go_wp2_with (go_at_call 61; (with_reducible refine (c_maps (hI.out.drawn (by repeat (first | exact Drawn.refl _ | refine Drawn.step ?_ _ | refine Drawn.one ?_))) n (by omega) (by omega)).mono ?_); rintro e w' ⟨rfl, n1, rfl⟩)
          go_ret
          exact rd_int (by rw [codesOf, if_pos h1, hp.out, hs.out, List.all_cons, if_neg (by simp only [isMapB]; rw [h1]; simp at he ⊢; intro a b; exact absurd b (by rw [he a]; simp))]) (by repeat (first | exact Drawn.refl _ | refine Drawn.step ?_ _ | refine Drawn.one ?_))
      · have hk' : k = fs.length := by omega
        subst hk'
        go_wp2_with fail
        go_ret
        exact rd_int (by rw [codesOf, if_pos h1, hp.out, List.drop_length]; rfl) (by repeat (first | exact Drawn.refl _ | refine Drawn.step ?_ _ | refine Drawn.one ?_))
  · go_enter Try.func56, Try.ntmps56
    go_wp2_with (go_at_call 60; (with_reducible refine (c_isSize _ _).mono ?_); rintro e w' ⟨rfl, n1, rfl⟩)
    go_ret
    exact rd_int (by rw [codesOf, if_neg h1]) (by repeat (first | exact Drawn.refl _ | refine Drawn.step ?_ _ | refine Drawn.one ?_))
/-- What FibreOf returns. -/
def fibreR (n : Int) (f : List Int) (y : Int) : List Int × Int :=
  if codeOf n f = 0 then (if 0 ≤ y ∧ y < n then (sel (fun i => gi f i == y) f.length, 0) else ([], 2)) else ([], codeOf n f)
theorem codeOf_zero {n : Int} {f : List Int} (h : codeOf n f = 0) : 0 ≤ n ∧ n ≤ 256 ∧ f.length ≤ 256 ∧ allIn n f = true := by
  unfold codeOf at h
  split at h
  · split at h
    · rename_i h1 h2
      simp [isMapB, inR] at h2
      exact ⟨h2.1.1, h2.1.2, h2.2.1, h2.2.2⟩
    · cases h
  · cases h
theorem codeOf_I64 (n : Int) (f : List Int) : 0 ≤ codeOf n f ∧ codeOf n f ≤ 2 := by
  unfold codeOf
  repeat' split
  all_goals omega
end Go.Proofs.Ytkionnomddogfaa
