/-
  Drawing functions: l01TwoMaps, DrawCoequalizerOf.
-/
import Derived.Test.YtocgbhcfnphnhaaSrc3
namespace Go.Proofs.Ytocgbhcfnphnhaa
open Go.RowKit

/-- The end of a draw of a number and two lists. -/
def Mk1ll (w : World) : Ending → World → Prop := fun e w' => ∃ n u v xs ys, e = .returned (.tuple #[.int .i64 n, u, v]) ∧ I64 n ∧ IS w' u xs ∧ IS w' v ys ∧ Below w.heap.size w w'
set_option maxHeartbeats 800000 in
theorem c_l01TwoMaps {w : World} {ao : Option Addr} {len cap : Nat} (h : RawB w (.slice ao len cap)) (hl : len ≤ 4096) : Calls Try.prog 59 #[.slice ao len cap] w (Mk1ll w) := by
  have HF := Lib.hid (c_l01From h hl)
  clear h
  go_enter Try.func59, Try.ntmps59
  go_wp2_with fail
  refine HF.out.mono ?_
  rintro e w1 ⟨p, rfl, hs1, hp, hb1⟩
  have HB1 := Lib.hid hb1
  have HS1 := Lib.hid hs1
  clear hs1 hb1 HF
  go_wp2_with fail
  refine (c_l01Count HS1.out).mono ?_
  rintro e w2 ⟨n, rfl, hn, hs2, hw2⟩
  have hz2 := hw2.size
  have hz1 := HB1.out.size
  have HB2 := Lib.hid (hw2.below HB1.out hp (by omega))
  have HS2 := Lib.hid hs2
  clear hs2 hw2
  go_wp2_with fail
  refine (c_l01Next HS2.out 8 (by constructor <;> omega)).mono ?_
  rintro e w3 ⟨m, rfl, m0, m1, hs3, hw3⟩
  have m2 := m1 (by omega)
  have hz3 := hw3.size
  have HB3 := Lib.hid (hw3.below HB2.out hp (by omega))
  have HS3 := Lib.hid hs3
  clear hs3 hw3 m1
  go_wp2_with fail
  refine (c_l01Maps HS3.out m (by constructor <;> omega) n hn).mono ?_
  rintro e w4 ⟨u, xs, rfl, -, ho4, hs4, hw4⟩
  obtain ⟨au, cu, rfl⟩ := ho4.own.shape
  have hz4 := hw4.size
  have hp4 := HS3.out.lt
  have HB4 := Lib.hid (hw4.below HB3.out hp (by omega))
  have HS4 := Lib.hid hs4
  have HO4 := Lib.hid ho4
  clear hs4 hw4 ho4
  go_wp2_with fail
  refine (c_l01Maps HS4.out m (by constructor <;> omega) n hn).mono ?_
  rintro e w5 ⟨v, ys, rfl, -, ho5, hs5, hw5⟩
  obtain ⟨av, cv, rfl⟩ := ho5.own.shape
  have HB5 := Lib.hid (hw5.below HB4.out hp (by omega))
  have HI4 := Lib.hid (HO4.out.kept hw5 (.inr (by omega))).is
  have HI5 := Lib.hid ho5.is
  clear hs5 hw5 ho5
  go_wp2_with fail
  go_ret3
  exact ⟨n, _, _, xs, ys, rfl, hn, HI4.out, HI5.out, HB5.out⟩
theorem c_DrawCoequalizerOf {w : World} {ao : Option Addr} {len cap : Nat} (h : RawB w (.slice ao len cap)) (hl : len ≤ 4096) : Calls Try.prog 20 #[.slice ao len cap] w (Mk1ll w) := by
  have HF := Lib.hid (c_l01TwoMaps h hl)
  clear h
  go_enter Try.func20, Try.ntmps20
  go_wp2_with fail
  refine HF.out.mono ?_
  rintro e w1 ⟨n, u, v, xs, ys, rfl, hn, hu, hv, hb⟩
  have HU := Lib.hid hu
  have HV := Lib.hid hv
  have HB := Lib.hid hb
  clear hu hv hb HF
  go_wp2_with fail
  go_ret3
  exact ⟨n, _, _, xs, ys, rfl, hn, HU.out, HV.out, HB.out⟩
end Go.Proofs.Ytocgbhcfnphnhaa
