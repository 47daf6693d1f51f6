/-
  eqStep, eqStepS.
-/
import Derived.Test.YtjlpmfimbgbcmaaDoorMst
import Derived.Test.YtjlpmfimbgbcmaaDoorSpp
namespace Go.Proofs.YtjlpmfimbgbcmaaDoor
open Go.RowKit

theorem OSt.cells {B T : Nat} {w : World} {v : Value} {X : List SV} (h : OSt B T w v X) :
    ∃ (ao : Option Addr) (g c : Nat), v = .slice ao X.length c ∧ (0 < X.length → ao = some ⟨g, 0, none⟩ ∧ B ≤ g ∧ g < T) ∧ ∀ (i : Nat) (hi : i < X.length) (j : Nat), j < 7 → w.cell? ⟨g, i * 7 + j, none⟩ = (c7 X[i])[j]? := by
  have hl := cS_length X
  rcases h.row.2 with ⟨rfl, hn⟩ | ⟨g, cap, cur, rfl, hB, hg, hn, hc, hs, ht⟩
  · exact ⟨none, 0, 0, by rw [hn], fun h0 => by omega, fun i hi => by omega⟩
  · refine ⟨some ⟨g, 0, none⟩, g, cap, rfl, fun _ => ⟨rfl, hB, h.top g rfl⟩, fun i hi j hj => ?_⟩
    rw [h.row.cellAt (i * 7 + j) (by omega)]
    exact cS_get X hi hj

theorem c_eqStep {w : World} {t : St} {up uc uh vp vc vh : Value} (h1 : IS w up t.prem) (h2 : IS w uc t.ctx) (h3 : SL w uh t.hyp) (k1 : IS w vp t.prem) (k2 : IS w vc t.ctx) (k3 : SL w vh t.hyp) :
    Calls Tryd.prog 32 #[.agg #[.int .i64 t.rule, up, uc, uh, .string t.conc, .int .i64 t.var, .string t.temp], .agg #[.int .i64 t.rule, vp, vc, vh, .string t.conc, .int .i64 t.var, .string t.temp]] w (Ret w (.bool true)) := by
  have HP := Lib.hid (fun W (hb : Below w.heap.size w W) => c_eqInt64S_refl (h1.kept hb) (k1.kept hb))
  have HC := Lib.hid (fun W (hb : Below w.heap.size w W) => c_eqInt64S_refl (h2.kept hb) (k2.kept hb))
  have HH := Lib.hid (fun W (hb : Below w.heap.size w W) => c_eqStringS_refl (h3.kept hb) (k3.kept hb))
  obtain ⟨a1, b1, o1, e1, rfl, -, -⟩ := h1.ex
  obtain ⟨a2, b2, o2, e2, rfl, -, -⟩ := h2.ex
  obtain ⟨a3, b3, o3, e3, rfl, -, -⟩ := h3.ex
  obtain ⟨a4, b4, o4, e4, rfl, -, -⟩ := k1.ex
  obtain ⟨a5, b5, o5, e5, rfl, -, -⟩ := k2.ex
  obtain ⟨a6, b6, o6, e6, rfl, -, -⟩ := k3.ex
  clear h1 h2 h3 k1 k2 k3
  have HB := Lib.hid (show Below w.heap.size w ((w.alloc (.cells #[.int .i64 t.rule, .slice a1 t.prem.length e1, .slice a2 t.ctx.length e2, .slice a3 t.hyp.length e3, .string t.conc, .int .i64 t.var, .string t.temp] 54)).alloc (.cells #[.int .i64 t.rule, .slice a4 t.prem.length e4, .slice a5 t.ctx.length e5, .slice a6 t.hyp.length e6, .string t.conc, .int .i64 t.var, .string t.temp] 54)) from bel_alloc (bel_alloc (Below.refl _ w) _) _)
  go_enter Tryd.func32, Tryd.ntmps32
  go_wp2_with (first
    | (go_at_call 52; (first | (with_reducible refine (HP.out _ (HB.out.trans (Drawn.below (by repeat (first | exact Drawn.refl _ | refine Drawn.step ?_ _ | refine Drawn.one ?_)) _))).mono ?_) | (with_reducible refine (HC.out _ (HB.out.trans (Drawn.below (by repeat (first | exact Drawn.refl _ | refine Drawn.step ?_ _ | refine Drawn.one ?_)) _))).mono ?_)); rintro e wq ⟨rfl, mq, rfl⟩)
    | (go_at_call 60; (with_reducible refine (HH.out _ (HB.out.trans (Drawn.below (by repeat (first | exact Drawn.refl _ | refine Drawn.step ?_ _ | refine Drawn.one ?_)) _))).mono ?_); rintro e wq ⟨rfl, mq, rfl⟩))
  all_goals
    go_ret
    exact ⟨rfl, HB.out.trans (Drawn.below (by repeat (first | exact Drawn.refl _ | refine Drawn.step ?_ _ | refine Drawn.one ?_)) _)⟩

theorem c_eqStepS_refl {B T B' T' : Nat} {w : World} {u v : Value} {X Y : List SV} (hu : OSt B T w u X) (hv : OSt B' T' w v Y) (he : X.map SV.t = Y.map SV.t) (hl : X.length ≤ 1000) :
    Calls Tryd.prog 13 #[u, v] w (Ret w (.bool true)) := by
  obtain ⟨ao, g, c, rfl, ha, hc⟩ := hu.cells
  obtain ⟨ao', g', c', rfl, ha', hc'⟩ := hv.cells
  have hlen : X.length = Y.length := by have := congrArg List.length he; simpa using this
  have HC := Lib.hid hc
  have HA := Lib.hid ha
  have HC' := Lib.hid hc'
  have HA' := Lib.hid ha'
  have HX := Lib.hid (fun x (hx : x ∈ X) => (hu.els x hx).1)
  have HY := Lib.hid (fun x (hx : x ∈ Y) => (hv.els x hx).1)
  obtain ⟨n, hn⟩ : ∃ n, n = X.length := ⟨_, rfl⟩
  have HE := Lib.hid (show ∀ (i : Nat) (h : i < X.length) (h' : i < Y.length), X[i].t = Y[i].t from fun i h h' => by
    have h1 : (X.map SV.t)[i]? = (Y.map SV.t)[i]? := by rw [he]
    rw [List.getElem?_map, List.getElem?_map, List.getElem?_eq_getElem h, List.getElem?_eq_getElem h'] at h1
    simpa using h1)
  rw [← hlen] at HA' ⊢
  rw [← hn] at HA HA' hl ⊢
  have HN := Lib.hid (And.intro hn hlen)
  clear hc ha hc' ha' hn hu hv he hlen
  go_enter Tryd.func13, Tryd.ntmps13
  go_wp2_with fail
  go_loopw [5] (fun i wr => ∃ j : Nat, j ≤ n ∧ i = .int .i64 j ∧ Below w.heap.size w wr) (fun i _ => n - (intOf i).toNat)
  case atStart => exact ⟨0, Nat.zero_le _, rfl, Below.refl _ _⟩
  case round =>
    obtain ⟨j, hj, rfl, hw⟩ := hrel
    by_cases hlt : j < n
    · obtain ⟨rfl, -, -⟩ := HA.out (by omega)
      obtain ⟨rfl, -, -⟩ := HA'.out (by omega)
      have hjx : j < X.length := by have := HN.out.1; omega
      have hjy : j < Y.length := by have := HN.out; omega
      obtain ⟨x, hx⟩ : ∃ x, x = X[j] := ⟨_, rfl⟩
      obtain ⟨y, hy⟩ : ∃ y, y = Y[j] := ⟨_, rfl⟩
      have hxy : x.t = y.t := by rw [hx, hy]; exact HE.out j hjx hjy
      have ex := HX.out x (by rw [hx]; exact List.getElem_mem hjx)
      have ey := HY.out y (by rw [hy]; exact List.getElem_mem hjy)
      have cc := HC.out j hjx
      have dd := HC'.out j hjy
      rw [← hx] at cc
      rw [← hy] at dd
      obtain ⟨t, ht⟩ : ∃ t, t = x.t := ⟨_, rfl⟩
      have p1 := ex.op.is
      have p2 := ex.oc.is
      have p3 := ex.oh.sl
      have q1 := ey.op.is
      have q2 := ey.oc.is
      have q3 := ey.oh.sl
      rw [← hxy] at q1 q2 q3
      rw [← ht] at p1 p2 p3 q1 q2 q3
      have HQ := Lib.hid (fun W (hb : Below w.heap.size w W) => c_eqStep (p1.kept hb) (p2.kept hb) (p3.kept hb) (q1.kept hb) (q2.kept hb) (q3.kept hb))
      have c0 : wr.cell? ⟨g, j * 7 + 0, none⟩ = some (.int .i64 t.rule) := by rw [ht]; exact upc hw ((cc 0 (by decide)).trans rfl)
      have c1 : wr.cell? ⟨g, j * 7 + 1, none⟩ = some x.p := upc hw ((cc 1 (by decide)).trans rfl)
      have c2 : wr.cell? ⟨g, j * 7 + 2, none⟩ = some x.c := upc hw ((cc 2 (by decide)).trans rfl)
      have c3 : wr.cell? ⟨g, j * 7 + 3, none⟩ = some x.h := upc hw ((cc 3 (by decide)).trans rfl)
      have c4 : wr.cell? ⟨g, j * 7 + 4, none⟩ = some (.string t.conc) := by rw [ht]; exact upc hw ((cc 4 (by decide)).trans rfl)
      have c5 : wr.cell? ⟨g, j * 7 + 5, none⟩ = some (.int .i64 t.var) := by rw [ht]; exact upc hw ((cc 5 (by decide)).trans rfl)
      have c6 : wr.cell? ⟨g, j * 7 + 6, none⟩ = some (.string t.temp) := by rw [ht]; exact upc hw ((cc 6 (by decide)).trans rfl)
      have d0 : wr.cell? ⟨g', j * 7 + 0, none⟩ = some (.int .i64 t.rule) := by rw [ht, hxy]; exact upc hw ((dd 0 (by decide)).trans rfl)
      have d1 : wr.cell? ⟨g', j * 7 + 1, none⟩ = some y.p := upc hw ((dd 1 (by decide)).trans rfl)
      have d2 : wr.cell? ⟨g', j * 7 + 2, none⟩ = some y.c := upc hw ((dd 2 (by decide)).trans rfl)
      have d3 : wr.cell? ⟨g', j * 7 + 3, none⟩ = some y.h := upc hw ((dd 3 (by decide)).trans rfl)
      have d4 : wr.cell? ⟨g', j * 7 + 4, none⟩ = some (.string t.conc) := by rw [ht, hxy]; exact upc hw ((dd 4 (by decide)).trans rfl)
      have d5 : wr.cell? ⟨g', j * 7 + 5, none⟩ = some (.int .i64 t.var) := by rw [ht, hxy]; exact upc hw ((dd 5 (by decide)).trans rfl)
      have d6 : wr.cell? ⟨g', j * 7 + 6, none⟩ = some (.string t.temp) := by rw [ht, hxy]; exact upc hw ((dd 6 (by decide)).trans rfl)
      obtain ⟨a1, b1, o1, e1, hv1, -, -⟩ := p1.ex
      obtain ⟨a2, b2, o2, e2, hv2, -, -⟩ := p2.ex
      obtain ⟨a3, b3, o3, e3, hv3, -, -⟩ := p3.ex
      obtain ⟨a4, b4, o4, e4, hv4, -, -⟩ := q1.ex
      obtain ⟨a5, b5, o5, e5, hv5, -, -⟩ := q2.ex
      obtain ⟨a6, b6, o6, e6, hv6, -, -⟩ := q3.ex
      rw [hv1, hv2, hv3, hv4, hv5, hv6] at HQ
      rw [hv1] at c1
      rw [hv2] at c2
      rw [hv3] at c3
      rw [hv4] at d1
      rw [hv5] at d2
      rw [hv6] at d3
      have HW := Lib.hid hw
      have j1 : (j : Int) < (n : Int) := by omega
      clear hv1 hv2 hv3 hv4 hv5 hv6 p1 p2 p3 q1 q2 q3 cc dd ex ey hxy hx hy ht hw
      simp only [Nat.add_zero] at c0 d0
      go_wp2_with fail
      refine wp_region_qb (by kernel_rfl) (by kernel_rfl) ?_
      repeat (refine qw_step (fun K hK => ?_); first | (refine qb_no rfl ?_; (try simp only [Act.put, List.setIfInBounds_toArray, List.set_cons_zero, List.set_cons_succ]); refine hK _ ?_; clear hK K) | (refine qb_yes rfl ?_; apply Exists.intro; refine ⟨fun w' hC => ?_, ?_⟩; (· (have x0 := up_cell hC c0; have x1 := up_cell hC c1; have x2 := up_cell hC c2; have x3 := up_cell hC c3; have x4 := up_cell hC c4; have x5 := up_cell hC c5; have x6 := up_cell hC c6; have x7 := up_cell hC d0; have x8 := up_cell hC d1; have x9 := up_cell hC d2; have x10 := up_cell hC d3; have x11 := up_cell hC d4; have x12 := up_cell hC d5; have x13 := up_cell hC d6; (try go_simp); (first | done | (go_at_call 32; with_reducible exact calls_qb hC (HQ.out _ (bel_next HW.out hC))) | with_reducible rfl | exact rfl))); (try simp only [Act.put, List.setIfInBounds_toArray, List.set_cons_zero, List.set_cons_succ]); refine hK _ ?_; clear hK K))
      refine qw_nil ?_
      intro wq hbq
      have HBQ := Lib.hid hbq
      clear hbq
      go_wp2_with fail
      go_roundw
      case rel => exact ⟨j + 1, by omega, by go_num, bel_next HW.out HBQ.out⟩
      case measure => simp [intOf]; omega
    · have hk1 : j = n := by omega
      subst hk1
      have HW := Lib.hid hw
      clear hw
      go_wp2_with fail
      go_ret
      exact ⟨rfl, HW.out⟩
end Go.Proofs.YtjlpmfimbgbcmaaDoor
