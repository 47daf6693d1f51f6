/-
  Chapter 1, the plain tests: inRange, isSize, within, maps, IsMap and the reference's l01In, l01Size, l01Map, IsMap.
-/
import Derived.Test.YtjlpmfimbgbcmaaDoorLawLib
namespace Go.Proofs.YtjlpmfimbgbcmaaDoor
open Go.RowKit

def inR (n lo hi : Int) : Bool := decide (lo ≤ n ∧ n ≤ hi)
/-- All numbers of a list are in 0..n-1. -/
def allIn (n : Int) (xs : List Int) : Bool := xs.all fun x => decide (0 ≤ x ∧ x < n)
def isMapB (n : Int) (xs : List Int) : Bool := inR n 0 256 && (decide (xs.length ≤ 256) && allIn n xs)

theorem allIn_step {n : Int} {xs : List Int} {k : Nat} (h : k < xs.length) : allIn n (xs.drop k) = (decide (0 ≤ gi xs k ∧ gi xs k < n) && allIn n (xs.drop (k + 1))) := by
  rw [drop_gi h]; rfl
theorem allIn_end {n : Int} {xs : List Int} : allIn n (xs.drop xs.length) = true := by rw [List.drop_length]; rfl

theorem c_inRange (n lo hi : Int) (w : World) : Calls Tryd.prog 48 #[.int .i64 n, .int .i64 lo, .int .i64 hi] w (Rd w (.bool (inR n lo hi))) := by
  by_cases h1 : lo ≤ n <;> by_cases h2 : n ≤ hi
  all_goals
    go_enter Tryd.func48, Tryd.ntmps48
    go_wp2
    go_ret
    exact rd_bool (by simp [inR]; omega) (by repeat (first | exact Drawn.refl _ | refine Drawn.step ?_ _ | refine Drawn.one ?_))
theorem c_within {w : World} {v : Value} {xs : List Int} (h : IS w v xs) (n : Int) (hn0 : 0 ≤ n) (hn : n ≤ 9223372036854775807) :
    Calls Tryd.prog 69 #[v, .int .i64 n] w (Rd w (.bool (allIn n xs))) := by
  obtain ⟨ao, b, o, c, rfl, ha, hc⟩ := h.ex
  have hlen := h.len
  clear h
  go_enter Tryd.func69, Tryd.ntmps69
  go_wp2
  go_loopw [6, 9] (fun _ i wr => ∃ k m : Nat, k ≤ xs.length ∧ i = .int .i64 k ∧ wr = w.drewN m ∧ Hid (allIn n xs = allIn n (xs.drop k))) (fun _ i _ => xs.length - (intOf i).toNat)
  case atStart => exact ⟨0, 0, Nat.zero_le _, rfl, rfl, rfl⟩
  case round =>
    obtain ⟨k, m, hk, rfl, rfl, hp⟩ := hrel
    by_cases hlt : k < xs.length
    · obtain rfl := ha (by omega)
      have cx := hc k hlt
      clear hc
      have hs := Lib.hid (allIn_step (n := n) hlt)
      by_cases he : 0 ≤ gi xs k ∧ gi xs k < n
      · have hb : inR (gi xs k) 0 (n - 1) = true := by simp [inR]; omega
        go_wp2_with (go_at_call 48; refine (c_inRange _ _ _ _).mono ?_; rintro e w' ⟨rfl, n1, rfl⟩)
        go_roundw
        case rel => exact ⟨k + 1, _, by omega, by go_num, rfl, by unfold Hid; rw [hp.out, hs.out]; simp [he]⟩
        case measure => simp [intOf]; omega
      · have hb : inR (gi xs k) 0 (n - 1) = false := by simp [inR]; omega
        go_wp2_with (go_at_call 48; refine (c_inRange _ _ _ _).mono ?_; rintro e w' ⟨rfl, n1, rfl⟩)
        go_ret
        exact rd_bool (by rw [hp.out, hs.out]; simp [he]) (by repeat (first | exact Drawn.refl _ | refine Drawn.step ?_ _ | refine Drawn.one ?_))
    · have hk' : k = xs.length := by omega
      subst hk'
      go_wp2_with fail
      go_ret
      exact rd_bool (by rw [hp.out, allIn_end]) (by repeat (first | exact Drawn.refl _ | refine Drawn.step ?_ _ | refine Drawn.one ?_))
theorem c_l01In (n lo hi : Int) (w : World) : Calls Tryd.prog 43 #[.int .i64 n, .int .i64 lo, .int .i64 hi] w (Rd w (.bool (inR n lo hi))) := by
  by_cases h1 : lo ≤ n <;> by_cases h2 : n ≤ hi
  all_goals
    go_enter Tryd.func43, Tryd.ntmps43
    go_wp2
    go_ret
    exact rd_bool (by simp [inR]; omega) (by repeat (first | exact Drawn.refl _ | refine Drawn.step ?_ _ | refine Drawn.one ?_))
theorem c_l01Map {w : World} {v : Value} {xs : List Int} (h : IS w v xs) (n : Int) :
    Calls Tryd.prog 67 #[.int .i64 n, v] w (Rd w (.bool (allIn n xs))) := by
  obtain ⟨ao, b, o, c, rfl, ha, hc⟩ := h.ex
  have hlen := h.len
  clear h
  go_enter Tryd.func67, Tryd.ntmps67
  go_wp2
  go_loopw [5] (fun i wr => ∃ k m : Nat, k ≤ xs.length ∧ i = .int .i64 k ∧ wr = w.drewN m ∧ Hid (allIn n xs = allIn n (xs.drop k))) (fun i _ => xs.length - (intOf i).toNat)
  case atStart => exact ⟨0, 0, Nat.zero_le _, rfl, rfl, rfl⟩
  case round =>
    obtain ⟨k, m, hk, rfl, rfl, hp⟩ := hrel
    by_cases hlt : k < xs.length
    · obtain rfl := ha (by omega)
      have cx := hc k hlt
      clear hc
      have hs := Lib.hid (allIn_step (n := n) hlt)
      by_cases h0 : gi xs k < 0 <;> by_cases h1 : gi xs k < n
      all_goals
        go_wp2
        first
          | (go_ret; exact rd_bool (by rw [hp.out, hs.out]; simp; omega) (by repeat (first | exact Drawn.refl _ | refine Drawn.step ?_ _ | refine Drawn.one ?_)))
          | (go_roundw
             case rel => exact ⟨k + 1, _, by omega, by go_num, rfl, by unfold Hid; rw [hp.out, hs.out]; simp; omega⟩
             case measure => simp [intOf]; omega)
    · have hk' : k = xs.length := by omega
      subst hk'
      go_wp2_with fail
      go_ret
      exact rd_bool (by rw [hp.out, allIn_end]) (by repeat (first | exact Drawn.refl _ | refine Drawn.step ?_ _ | refine Drawn.one ?_))
end Go.Proofs.YtjlpmfimbgbcmaaDoor
