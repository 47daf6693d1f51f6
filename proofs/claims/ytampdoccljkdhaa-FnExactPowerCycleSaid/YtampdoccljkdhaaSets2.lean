/-
  Chapter 1: l01Index, l01Same, l01Classes, isNormal, IsPartition of program and reference.
-/
import Derived.Test.YtampdoccljkdhaaSets1
import Derived.Test.YtampdoccljkdhaaSetsPlain
import Derived.Test.YtampdoccljkdhaaApp
namespace Go.Proofs.Ytampdoccljkdhaa
open Go.RowKit

theorem c_l01Index {w : World} {v : Value} {xs : List Int} (h : IS w v xs) (x : Int) : Calls Try.prog 73 #[v, .int .i64 x] w (Rd w (.int .i64 (ix xs x))) := by
  obtain ⟨ao, b, o, c, rfl, ha, hc⟩ := h.ex
  have hlen := h.len
  clear h
  go_enter Try.func73, Try.ntmps73
  go_wp2
  go_loopw [5] (fun i wr => ∃ k m : Nat, k ≤ xs.length ∧ i = .int .i64 k ∧ wr = w.drewN m ∧ Hid (ix xs x = ixF x (xs.drop k) k)) (fun i _ => xs.length - (intOf i).toNat)
  case atStart => exact ⟨0, 0, Nat.zero_le _, rfl, rfl, rfl⟩
  case round =>
    obtain ⟨k, m, hk, rfl, rfl, hp⟩ := hrel
    by_cases hlt : k < xs.length
    · obtain rfl := ha (by omega)
      have cx := hc k hlt
      clear hc
      have hs := Lib.hid (drop_gi hlt)
      by_cases he : gi xs k = x
      · have hb : (gi xs k == x) = true := by simp [he]
        have HE := Lib.hid he
        clear he
        go_wp2
        go_ret
        exact rd_int (by rw [hp.out, hs.out, ixF_cons, if_pos HE.out]) (by repeat (first | exact Drawn.refl _ | refine Drawn.step ?_ _ | refine Drawn.one ?_))
      · have hb : (gi xs k == x) = false := by simp [he]
        have HE := Lib.hid he
        clear he
        go_wp2
        go_roundw
        case rel => exact ⟨k + 1, _, by omega, by go_num, rfl, by unfold Hid; rw [hp.out, hs.out, ixF_cons, if_neg HE.out]; rfl⟩
        case measure => simp [intOf]; omega
    · have hk' : k = xs.length := by omega
      subst hk'
      go_wp2_with fail
      go_ret
      exact rd_int (by rw [hp.out, List.drop_length, ixF_nil]) (by repeat (first | exact Drawn.refl _ | refine Drawn.step ?_ _ | refine Drawn.one ?_))
end Go.Proofs.Ytampdoccljkdhaa
