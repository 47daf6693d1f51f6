/-
  The laws' likeInts, big; a slice of bytes that came in.
-/
import Derived.Test.YtocgbhcfnphnhaaSrc3
import Derived.Test.YtocgbhcfnphnhaaFrame
namespace Go.Proofs.Ytocgbhcfnphnhaa
open Go.ChangeShapes Go.WideShapes Go.ChangeAt Go.RowKit

section
variable {H : Type} {enc : TypeId × Value → H} {w : World} {base : Nat} {spare : Nat → Bool} {held : Bool}
theorem rawB_trod {W : World} {a : Option Addr} {len cap : Nat} {fuel : Nat} {x : DataW H × List MemPlace}
    (h : DataW.trod enc Try.prog W 0 (fun _ => true) held fuel 22 (Value.slice a len cap).cells.toList = some x) : RawB W (.slice a len cap) := by
  rcases open_ints Try.underlying22 Try.underlying5 (by kernel_rfl) h with ⟨hcs, _⟩ | ⟨x, l, c, zs, hcs, _, hl, hm, hz, _, hcell, hwz⟩
  · simp [Value.cells] at hcs
    obtain ⟨rfl, rfl, rfl⟩ := hcs
    exact ⟨none, 0, 0, 0, 0, fun _ => 0, rfl, by omega, fun h => by omega, fun i h => by omega⟩
  · simp [Value.cells] at hcs
    obtain ⟨rfl, rfl, rfl⟩ := hcs
    have hz' : zs.length = cap := by simpa using hz
    have hml : len ≤ 9223372036854775807 := by unfold maxLen at hm; omega
    by_cases hp : 0 < cap
    · obtain ⟨b, o, rfl, hc⟩ := cells_at (V := fun i => .int .u8 (zs.getD i 0)) (fun i hi => hcell i (by omega)) hp
      refine ⟨_, len, cap, b, o, fun i => zs.getD i 0, rfl, hml, fun _ => rfl, fun i hi => ⟨hc i (by omega), ?_⟩⟩
      have hlt : i < zs.length := by omega
      have := hwz (zs.getD i 0) (by rw [List.getD_eq_getElem?_getD, List.getElem?_eq_getElem hlt]; exact List.getElem_mem hlt)
      simpa [Lit.wf, IntKind.min, IntKind.max, IntKind.signed, IntKind.bits] using this
    · exact ⟨some x, 0, cap, 0, 0, fun _ => 0, by rw [show len = 0 by omega], by omega, fun h => by omega, fun i h => by omega⟩
end
theorem c_big {w : World} {ao : Option Addr} {len cap : Nat} (hl : len ≤ 9223372036854775807) : Calls Try.prog 7 #[.slice ao len cap] w (Rd w (.bool (decide (4096 < len)))) := by
  go_enter Try.func7, Try.ntmps7
  go_wp2_with fail
  go_ret
  exact rd_bool (by simp <;> omega) (by repeat (first | exact Drawn.refl _ | refine Drawn.step ?_ _ | refine Drawn.one ?_))
theorem c_likeInts {w : World} {u v : Value} {xs ys : List Int} (hu : IS w u xs) (hv : IS w v ys) :
    Calls Try.prog 11 #[u, v] w (Rd w (.bool (xs == ys))) := by
  obtain ⟨ao, b, o, c, rfl, ha, hc⟩ := hu.ex
  obtain ⟨ao', b', o', c', rfl, ha', hc'⟩ := hv.ex
  have hlen := hu.len
  have hlen' := hv.len
  clear hu hv
  by_cases hl : xs.length = ys.length
  · have hlb : ((xs.length : Int) != (ys.length : Int)) = false := by simp [hl]
    have HL := Lib.hid hl
    clear hl
    go_enter Try.func11, Try.ntmps11
    go_wp2
    go_loopw [5] (fun i wr => ∃ k m : Nat, k ≤ xs.length ∧ i = .int .i64 k ∧ wr = w.drewN m ∧ Hid ((xs == ys) = (xs.drop k == ys.drop k))) (fun i _ => xs.length - (intOf i).toNat)
    case atStart => exact ⟨0, 0, Nat.zero_le _, rfl, rfl, rfl⟩
    case round =>
      obtain ⟨k, m, hk, rfl, rfl, hp⟩ := hrel
      by_cases hlt : k < xs.length
      · have hlt' : k < ys.length := by have := HL.out; omega
        obtain rfl := ha (by omega)
        obtain rfl := ha' (by omega)
        have cx := hc k hlt
        have cy := hc' k hlt'
        clear hc hc'
        have hs := Lib.hid (eq_step hlt hlt')
        by_cases he : gi xs k = gi ys k
        · have hne : (gi xs k != gi ys k) = false := by simp [he]
          have HE := Lib.hid he
          clear he
          go_wp2_with fail
          go_quiet (fail)
          go_wp2
          go_roundw
          case rel => exact ⟨k + 1, _, by omega, by go_num, rfl, by unfold Hid; rw [hp.out, hs.out.1 HE.out]⟩
          case measure => simp [intOf]; omega
        · have hne : (gi xs k != gi ys k) = true := by simp [he]
          have HE := Lib.hid he
          clear he
          go_wp2_with fail
          go_quiet (fail)
          go_wp2
          go_ret
          exact rd_bool (by rw [hp.out, hs.out.2 HE.out]) (by repeat (first | exact Drawn.refl _ | refine Drawn.step ?_ _ | refine Drawn.one ?_))
      · have hk' : k = xs.length := by omega
        subst hk'
        go_wp2
        go_ret
        refine rd_bool ?_ (by repeat (first | exact Drawn.refl _ | refine Drawn.step ?_ _ | refine Drawn.one ?_))
        have := HL.out
        rw [hp.out, List.drop_length, this, List.drop_length]; rfl
  · have hlb : ((xs.length : Int) != (ys.length : Int)) = true := by simp; omega
    go_enter Try.func11, Try.ntmps11
    go_wp2
    go_ret
    exact rd_bool (beq_false_of_length hl) (by repeat (first | exact Drawn.refl _ | refine Drawn.step ?_ _ | refine Drawn.one ?_))
end Go.Proofs.Ytocgbhcfnphnhaa
