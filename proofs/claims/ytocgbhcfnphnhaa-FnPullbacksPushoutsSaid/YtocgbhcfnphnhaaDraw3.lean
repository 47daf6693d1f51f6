/-
  Drawing functions: DrawPullbackOf, DrawPushoutOf; the laws' likeRows5.
-/
import Derived.Test.YtocgbhcfnphnhaaDraw2
import Derived.Test.YtocgbhcfnphnhaaLike
import Derived.Deep.RegionHeld3
namespace Go.Proofs.Ytocgbhcfnphnhaa
open Go.RowKit

theorem IS.zeros {E : TypeId} {w : World} {n m : Nat} (hn : n ≤ 4294967296) (hm : w.heap.size = m) : IS (w.alloc (.cells (madeCells #[.int .i64 0] n) E)) (.slice (some ⟨m, 0, none⟩) n n) (List.replicate n 0) := by
  subst hm
  have h := Own.of_row (E := E) (xs := List.replicate n 0) (B := w.heap.size) (by rw [List.length_replicate]; exact World.rowIs_made w (.int .i64 0) n E) (Nat.le_refl _) (fun i hi => by rw [gi_lt hi]; simp) (fun x hx => by rw [List.mem_replicate] at hx; rw [hx.2]; constructor <;> omega) (by simpa using hn)
  rw [List.length_replicate] at h
  exact h.is
/-- What a region that makes lists and draws one number holds on to. -/
structure SK (w : World) (p : Nat) (w' : World) : Prop where
  src : Src w' p
  bel : Below w.heap.size w w'
  hp : w.heap.size ≤ p
theorem SK.alloc {w w' : World} {p : Nat} (h : SK w p w') (o : Obj) : SK w p (w'.alloc o) := ⟨h.src.keptB (bel_alloc (Below.refl _ _) o), bel_alloc h.bel o, h.hp⟩
theorem SK.drew {w w' : World} {p : Nat} (h : SK w p w') : SK w p w'.drew := ⟨h.src.keptB (Drawn.below (Drawn.one (Drawn.refl w')) _), h.bel.trans (Drawn.below (Drawn.one (Drawn.refl w')) _), h.hp⟩
theorem SK.call {w w' w'' : World} {p : Nat} (h : SK w p w') (hs : Src w'' p) (hw : Within p (p + 1) w' w'') : SK w p w'' := ⟨hs, hw.below h.bel h.hp (Nat.le_refl _), h.hp⟩
theorem IS.up_alloc {w : World} {v : Value} {xs : List Int} (h : IS w v xs) (o : Obj) : IS (w.alloc o) v xs := h.kept (bel_alloc (Below.refl _ _) o)
theorem IS.up_within {w w' : World} {p m n c : Nat} {xs : List Int} (h : IS w (.slice (some ⟨m, 0, none⟩) n c) xs) (hw : Within p (p + 1) w w') (hm : m ≠ p) : IS w' (.slice (some ⟨m, 0, none⟩) n c) xs := by
  obtain ⟨ao, b, o, c', hv, ha, hc⟩ := h.ex
  injection hv with e1 e2 e3
  by_cases h0 : 0 < xs.length
  · have := ha h0
    rw [this] at e1
    injection e1 with e1
    injection e1 with e1 e4
    subst e1 e4
    exact ⟨⟨_, m, 0, c, by rw [e2], fun _ => rfl, fun i hi => within_cellS hw (hc i hi) (by omega)⟩, h.wf, h.len⟩
  · exact ⟨⟨_, b, o, c', by rw [e1, e2, e3], ha, fun i hi => by omega⟩, h.wf, h.len⟩
set_option maxHeartbeats 1600000 in
theorem c_DrawPullbackOf {w : World} {ao : Option Addr} {len cap : Nat} (h : RawB w (.slice ao len cap)) (hl : len ≤ 4096) : Calls Try.prog 28 #[.slice ao len cap] w (Mk1ll w) := by
  have HF := Lib.hid (c_l01From h hl)
  clear h
  go_enter Try.func28, Try.ntmps28
  go_wp2_with fail
  refine HF.out.mono ?_
  rintro e w1 ⟨p, rfl, hs1, hp, hb1⟩
  have HB1 := Lib.hid hb1
  have HS1 := Lib.hid hs1
  clear hs1 hb1 HF
  go_wp2_with fail
  refine (c_l01Count HS1.out).mono ?_
  rintro e w2 ⟨n, rfl, hn, hs2, hw2⟩
  have hz2 := hw2.size
  have hz1 := HB1.out.size
  have HB2 := Lib.hid (hw2.below HB1.out hp (by omega))
  have HS2 := Lib.hid hs2
  clear hs2 hw2
  go_wp2_with fail
  refine (c_l01Next HS2.out 30 (by constructor <;> omega)).mono ?_
  rintro e w3 ⟨m, rfl, -, -, hs3, hw3⟩
  have hz3 := hw3.size
  have HB3 := Lib.hid (hw3.below HB2.out hp (by omega))
  have HS3 := Lib.hid hs3
  have hp3 := hs3.lt
  clear hs3 hw3
  by_cases hm0 : m = 0
  · have mb : (m == 0) = true := by simp [hm0]
    have hmk17 := run_make_row' (P := Try.prog) 24 2 (.int .i64 0) 8 Try.underlying24 infoInt64 rfl .i64 .i64 17 (by omega) (by omega)
    rw [show ((17 : Nat) : Int) = 17 from rfl] at hmk17
    have hI3 : I64 3 := by constructor <;> omega
    have K00 : SK w p w3 := ⟨HS3.out, HB3.out, hp⟩
    have K0 : SK w p w3.drew := SK.drew K00
    clear hm0
    go_wp2_with fail
    go_region_held3 (fun w' => SK w p w')
      (repeat' (first | with_reducible assumption | with_reducible refine SK.alloc ?_ _ | with_reducible refine SK.drew ?_ | with_reducible refine SK.call ?_ hs9 hw9))
      (first | (go_at_call 39; (with_reducible refine (c_l01Next (SK.src (by assumption)) 3 hI3).mono ?_); rintro e w9 ⟨k, rfl, k0, k1, hs9, hw9⟩; obtain ⟨q, rfl⟩ := Int.eq_ofNat_of_zero_le k0; have hq3 : q < 3 := (by have := k1 (by omega); omega); have hmkq := run_make_row' (P := Try.prog) 24 2 (.int .i64 0) 8 Try.underlying24 infoInt64 rfl .i64 .i64 (15 + q) (by omega) (by omega); rw [show ((15 + q : Nat) : Int) = 15 + (q : Int) by omega] at hmkq; have hwq : IntKind.i64.wrap (15 + (q : Int)) = 15 + (q : Int) := IntWalk.i64_in _ (by omega)))
    all_goals
      go_wp2_with fail
      go_ret3
      refine ⟨1, _, _, List.replicate 17 0, List.replicate (15 + q) 0, rfl, by constructor <;> omega, ?_, ?_, SK.bel (by assumption)⟩
      all_goals
        first
          | exact IS.zeros (by omega) rfl
          | exact IS.zeros (by omega) (by simp)
          | exact IS.up_alloc (IS.zeros (by omega) rfl) _
          | exact IS.up_alloc (IS.up_within (IS.kept (IS.zeros (by omega) rfl) (Drawn.below (Drawn.one (Drawn.refl _)) _)) hw9 (by omega)) _
  · have mb : (m == 0) = false := by simp [hm0]
    clear hm0
    go_wp2_with fail
    refine (c_l01Next HS3.out 7 (by constructor <;> omega)).mono ?_
    rintro e w4 ⟨m1, rfl, m10, m11, hs4, hw4⟩
    have m12 := m11 (by omega)
    have hz4 := hw4.size
    have HB4 := Lib.hid (hw4.below HB3.out hp (by omega))
    have HS4 := Lib.hid hs4
    clear hs4 hw4 m11
    go_wp2_with fail
    refine (c_l01Maps HS4.out m1 (by constructor <;> omega) n hn).mono ?_
    rintro e w5 ⟨u, xs, rfl, -, ho5, hs5, hw5⟩
    obtain ⟨au, cu, rfl⟩ := ho5.own.shape
    have hz5 := hw5.size
    have HB5 := Lib.hid (hw5.below HB4.out hp (by omega))
    have HS5 := Lib.hid hs5
    have HO5 := Lib.hid ho5
    have hp4 := HS4.out.lt
    clear hs5 hw5 ho5
    go_wp2_with fail
    refine (c_l01Next HS5.out 7 (by constructor <;> omega)).mono ?_
    rintro e w6 ⟨m2, rfl, m20, m21, hs6, hw6⟩
    have m22 := m21 (by omega)
    have hz6 := hw6.size
    have HB6 := Lib.hid (hw6.below HB5.out hp (by omega))
    have HS6 := Lib.hid hs6
    have HO6 := Lib.hid (HO5.out.kept hw6 (.inr (by omega)))
    clear hs6 hw6 m21
    go_wp2_with fail
    refine (c_l01Maps HS6.out m2 (by constructor <;> omega) n hn).mono ?_
    rintro e w7 ⟨v, ys, rfl, -, ho7, hs7, hw7⟩
    obtain ⟨av, cv, rfl⟩ := ho7.own.shape
    have HB7 := Lib.hid (hw7.below HB6.out hp (by omega))
    have HI6 := Lib.hid (HO6.out.kept hw7 (.inr (by omega))).is
    have HI7 := Lib.hid ho7.is
    clear hs7 hw7 ho7
    go_wp2_with fail
    go_ret3
    exact ⟨n, _, _, xs, ys, rfl, hn, HI6.out, HI7.out, HB7.out⟩
theorem results_tmp4S {fn : Func} {t u v x : Tmp} (h : fn.results = #[.tmp t, .tmp u, .tmp v, .tmp x]) (tmps : Array Value) (P : Program) (w : World) :
    (results fn tmps).run P w = .ok (.tuple #[tmps.getD t undef, tmps.getD u undef, tmps.getD v undef, tmps.getD x undef]) w := by
  simp [results, h]
/-- The end of a draw of two numbers and two lists. -/
def Mk2ll (w : World) : Ending → World → Prop := fun e w' => ∃ n u k v xs ys, e = .returned (.tuple #[.int .i64 n, u, .int .i64 k, v]) ∧ I64 n ∧ I64 k ∧ IS w' u xs ∧ IS w' v ys ∧ Below w.heap.size w w'
set_option maxHeartbeats 1600000 in
theorem c_DrawPushoutOf {w : World} {ao : Option Addr} {len cap : Nat} (h : RawB w (.slice ao len cap)) (hl : len ≤ 4096) : Calls Try.prog 33 #[.slice ao len cap] w (Mk2ll w) := by
  have HF := Lib.hid (c_l01From h hl)
  clear h
  go_enter Try.func33, Try.ntmps33
  go_wp2_with fail
  refine HF.out.mono ?_
  rintro e w1 ⟨p, rfl, hs1, hp, hb1⟩
  have HB1 := Lib.hid hb1
  have HS1 := Lib.hid hs1
  clear hs1 hb1 HF
  go_wp2_with fail
  refine (c_l01Count HS1.out).mono ?_
  rintro e w2 ⟨n, rfl, hn, hs2, hw2⟩
  have hz2 := hw2.size
  have hz1 := HB1.out.size
  have HB2 := Lib.hid (hw2.below HB1.out hp (by omega))
  have HS2 := Lib.hid hs2
  clear hs2 hw2
  go_wp2_with fail
  refine (c_l01Count HS2.out).mono ?_
  rintro e w3 ⟨k, rfl, hk, hs3, hw3⟩
  have hz3 := hw3.size
  have HB3 := Lib.hid (hw3.below HB2.out hp (by omega))
  have HS3 := Lib.hid hs3
  clear hs3 hw3
  go_wp2_with fail
  refine (c_l01Next HS3.out 6 (by constructor <;> omega)).mono ?_
  rintro e w4 ⟨m, rfl, m0, m1, hs4, hw4⟩
  have m2 := m1 (by omega)
  have hz4 := hw4.size
  have HB4 := Lib.hid (hw4.below HB3.out hp (by omega))
  have HS4 := Lib.hid hs4
  clear hs4 hw4 m1
  go_wp2_with fail
  refine (c_l01Maps HS4.out m (by constructor <;> omega) n hn).mono ?_
  rintro e w5 ⟨u, xs, rfl, -, ho5, hs5, hw5⟩
  obtain ⟨au, cu, rfl⟩ := ho5.own.shape
  have hz5 := hw5.size
  have hp5 := HS4.out.lt
  have HB5 := Lib.hid (hw5.below HB4.out hp (by omega))
  have HS5 := Lib.hid hs5
  have HO5 := Lib.hid ho5
  clear hs5 hw5 ho5
  go_wp2_with fail
  refine (c_l01Maps HS5.out m (by constructor <;> omega) k hk).mono ?_
  rintro e w6 ⟨v, ys, rfl, -, ho6, hs6, hw6⟩
  obtain ⟨av, cv, rfl⟩ := ho6.own.shape
  have HB6 := Lib.hid (hw6.below HB5.out hp (by omega))
  have HI5 := Lib.hid (HO5.out.kept hw6 (.inr (by omega))).is
  have HI6 := Lib.hid ho6.is
  clear hs6 hw6 ho6
  go_wp2_with fail
  refine bodyPost_ret (results_tmp4S rfl _ _ _) rfl ?_
  exact ⟨n, _, k, _, xs, ys, rfl, hn, hk, HI5.out, HI6.out, HB6.out⟩
theorem c_likeRows5_refl {w : World} {u v : Value} {xss : List (List Int)} (hu : ISS w u xss) (hv : ISS w v xss) : Calls Try.prog 31 #[u, v] w (Rd w (.bool true)) := by
  obtain ⟨ao, b, o, c, R, rfl, ha, hc, hr⟩ := hu.ex
  obtain ⟨ao', b', o', c', R', rfl, ha', hc', hr'⟩ := hv.ex
  have hlen := hu.len
  have HC := Lib.hid hc
  have HC' := Lib.hid hc'
  have HR := Lib.hid hr
  have HR' := Lib.hid hr'
  clear hu hv hc hc' hr hr'
  go_enter Try.func31, Try.ntmps31
  go_wp2_with fail
  go_loopw [5] (fun iv wr => ∃ k : Nat, k ≤ xss.length ∧ iv = .int .i64 k ∧ Drawn w wr) (fun iv _ => xss.length - (intOf iv).toNat)
  case atStart => exact ⟨0, Nat.zero_le _, rfl, Drawn.refl _⟩
  case round =>
    obtain ⟨k, hk, rfl, hd⟩ := hrel
    by_cases hlt : k < xss.length
    · obtain rfl := ha (by omega)
      obtain rfl := ha' (by omega)
      have cx := upc (hd.below _) (HC.out k hlt)
      have cy := upc (hd.below _) (HC'.out k hlt)
      have p0 : (0 : Int) ≤ (k : Int) := by omega
      have p1 : (k : Int) < (xss.length : Int) := by omega
      have HQ := Lib.hid (fun W (hW : Drawn w W) => c_likeInts ((HR.out k hlt).drawn hW) ((HR'.out k hlt).drawn hW))
      rw [show (gr xss k == gr xss k) = true by simp] at HQ
      obtain ⟨a1, b1, o1, c1, h1, -⟩ := (HR.out k hlt).ex
      obtain ⟨a2, b2, o2, c2, h2, -⟩ := (HR'.out k hlt).ex
      rw [h1] at cx HQ
      rw [h2] at cy HQ
      clear h1 h2
      go_wp2_with fail
      go_quiet ((go_at_call 11; with_reducible exact Calls.quiet_of (HQ.out _ (Drawn.step hd _))))
      go_wp2_with fail
      go_roundw
      case rel => exact ⟨k + 1, by omega, by go_num, Drawn.step hd _⟩
      case measure => simp [intOf]; omega
    · have hke : xss.length = k := by omega
      subst hke
      go_wp2_with fail
      go_ret
      exact ⟨rfl, hd⟩
end Go.Proofs.Ytocgbhcfnphnhaa
