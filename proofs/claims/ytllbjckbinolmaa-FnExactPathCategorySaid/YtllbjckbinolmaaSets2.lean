/-
  Chapter 1: l01Index, l01Same, l01Classes, isNormal, IsPartition of program and reference.
-/
import Derived.Test.YtllbjckbinolmaaSets1
import Derived.Test.YtllbjckbinolmaaSetsPlain
import Derived.Test.YtllbjckbinolmaaApp
namespace Go.Proofs.Ytllbjckbinolmaa
open Go.RowKit

theorem c_l01Same {w : World} {u v : Value} {xs ys : List Int} (hu : IS w u xs) (hv : IS w v ys) :
    Calls Try.prog 34 #[u, v] w (Rd w (.bool (xs == ys))) := by
  obtain ⟨ao, b, o, c, rfl, ha, hc⟩ := hu.ex
  obtain ⟨ao', b', o', c', rfl, ha', hc'⟩ := hv.ex
  have hlen := hu.len
  have hlen' := hv.len
  clear hu hv
  by_cases hl : xs.length = ys.length
  · have hlb : ((xs.length : Int) != (ys.length : Int)) = false := by simp [hl]
    have HL := Lib.hid hl
    clear hl
    go_enter Try.func34, Try.ntmps34
    go_wp2
    go_loopw [5] (fun i wr => ∃ k m : Nat, k ≤ xs.length ∧ i = .int .i64 k ∧ wr = w.drewN m ∧ Hid ((xs == ys) = (xs.drop k == ys.drop k))) (fun i _ => xs.length - (intOf i).toNat)
    case atStart => exact ⟨0, 0, Nat.zero_le _, rfl, rfl, rfl⟩
    case round =>
      obtain ⟨k, m, hk, rfl, rfl, hp⟩ := hrel
      by_cases hlt : k < xs.length
      · have hlt' : k < ys.length := by have := HL.out; omega
        obtain rfl := ha (by omega)
        obtain rfl := ha' (by omega)
        have cx := hc k hlt
        have cy := hc' k hlt'
        clear hc hc'
        have hs := Lib.hid (eq_step hlt hlt')
        by_cases he : gi xs k = gi ys k
        · have hne : (gi xs k != gi ys k) = false := by simp [he]
          have HE := Lib.hid he
          clear he
          go_wp2_with fail
          go_quiet (fail)
          go_wp2
          go_roundw
          case rel => exact ⟨k + 1, _, by omega, by go_num, rfl, by unfold Hid; rw [hp.out, hs.out.1 HE.out]⟩
          case measure => simp [intOf]; omega
        · have hne : (gi xs k != gi ys k) = true := by simp [he]
          have HE := Lib.hid he
          clear he
          go_wp2_with fail
          go_quiet (fail)
          go_wp2
          go_ret
          exact rd_bool (by rw [hp.out, hs.out.2 HE.out]) (by repeat (first | exact Drawn.refl _ | refine Drawn.step ?_ _ | refine Drawn.one ?_))
      · have hk' : k = xs.length := by omega
        subst hk'
        go_wp2
        go_ret
        refine rd_bool ?_ (by repeat (first | exact Drawn.refl _ | refine Drawn.step ?_ _ | refine Drawn.one ?_))
        have := HL.out
        rw [hp.out, List.drop_length, this, List.drop_length]; rfl
  · have hlb : ((xs.length : Int) != (ys.length : Int)) = true := by simp; omega
    go_enter Try.func34, Try.ntmps34
    go_wp2
    go_ret
    exact rd_bool (beq_false_of_length hl) (by repeat (first | exact Drawn.refl _ | refine Drawn.step ?_ _ | refine Drawn.one ?_))
end Go.Proofs.Ytllbjckbinolmaa
