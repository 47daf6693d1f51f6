/-
  PathCategory: slices.SortFunc at the routes.
-/
import Derived.Test.YtllbjckbinolmaaRts
import Derived.Shelf.SlSortCmp.WholeK
import Derived.Shelf.Lay
import Derived.Ground.SlsfProg
namespace Go.Proofs.Ytllbjckbinolmaa
open Go.RowKit

theorem drewN_grow (W : World) (os : Array Obj) (q : Nat) : (Go.Sort.grow W os).drewN q = Go.Sort.grow (W.drewN q) os := rfl
set_option maxHeartbeats 1600000 in
theorem c_cls {W : World} {x y : Rt} {u v : Value} (hu : IS W u x.path) (hv : IS W v y.path) (hx : (0 ≤ x.a ∧ x.a ≤ 8) ∧ (0 ≤ x.b ∧ x.b ≤ 8)) (hy : (0 ≤ y.a ∧ y.a ≤ 8) ∧ (0 ≤ y.b ∧ y.b ≤ 8)) :
    Calls Try.prog 36 #[.agg #[.int .i64 x.a, .int .i64 x.b, u], .agg #[.int .i64 y.a, .int .i64 y.b, v]] W (fun e w' => e = .returned (.int .i64 (cmpR x y)) ∧ ∃ q os', w' = Go.Sort.grow (W.drewN q) os') := by
  have hc := fun W' (h : Below W.heap.size W W') => c_compare (hu.kept h) (hv.kept h)
  obtain ⟨au, bu, ou, cu, rfl, -⟩ := hu.ex
  obtain ⟨av, bv, ov, cv, rfl, -⟩ := hv.ex
  clear hu hv
  obtain ⟨r, hr⟩ : ∃ r, r = cmpR x y := ⟨_, rfl⟩
  rw [← hr]
  unfold cmpR at hr
  obtain ⟨z, hz⟩ : ∃ z, z = cmpL x.path y.path := ⟨_, rfl⟩
  rw [← hz] at hc hr
  clear hz
  obtain ⟨⟨xa0, xa1⟩, xb0, xb1⟩ := hx
  obtain ⟨⟨ya0, ya1⟩, yb0, yb1⟩ := hy
  obtain ⟨a, b, p⟩ := x
  obtain ⟨c, d, q⟩ := y
  simp only at *
  have HR := Lib.hid hr
  have HC := Lib.hid hc
  clear hr hc
  by_cases e1 : a = c
  · subst e1
    have d1 : (a != a) = false := by simp
    by_cases e2 : b = d
    · subst e2
      have HV : Hid (r = z) := by unfold Hid; rw [HR.out]; simp
      have d2 : (b != b) = false := by simp
      have hb := (bel_box W (.cells #[.int .i64 a, .int .i64 b, .slice au p.length cu] 45)).trans ((bel_box (W.alloc (.cells #[.int .i64 a, .int .i64 b, .slice au p.length cu] 45)) (.cells #[.int .i64 a, .int .i64 b, .slice av q.length cv] 45)).mono (by simp))
      have HB := Lib.hid hb
      clear hb
      go_enter Try.func36, Try.ntmps36
      go_wp2_with (go_at_call 37; refine (HC.out _ HB.out).mono ?_; rintro e w' ⟨rfl, dd⟩)
      obtain ⟨n, rfl⟩ := dd
      go_ret
      exact ⟨by rw [HV.out]; rfl, n, _, by rw [Go.Sort.alloc_eq_grow, Go.Sort.alloc_eq_grow, Go.Sort.grow_grow]; rfl⟩
    · have d2 : (b != d) = true := by simp [e2]
      have HV : Hid (r = b - d) := by unfold Hid; rw [HR.out]; simp [e2]
      clear e2 HC HR
      go_enter Try.func36, Try.ntmps36
      go_wp2_with fail
      go_ret
      exact ⟨by rw [HV.out]; rfl, 0, _, by rw [Go.Sort.alloc_eq_grow, Go.Sort.alloc_eq_grow, Go.Sort.grow_grow]; rfl⟩
  · have d1 : (a != c) = true := by simp [e1]
    have HV : Hid (r = a - c) := by unfold Hid; rw [HR.out]; simp [e1]
    clear e1 HC HR
    go_enter Try.func36, Try.ntmps36
    go_wp2_with fail
    go_ret
    exact ⟨by rw [HV.out]; rfl, 0, _, by rw [Go.Sort.alloc_eq_grow, Go.Sort.alloc_eq_grow, Go.Sort.grow_grow]; rfl⟩

def dRV : RV := (⟨0, 0, []⟩, .slice none 0 0)
def enX (X : List RV) (i : Nat) : List Value := c3 (X.getD i dRV)
theorem cX_at (Y : List RV) {t : Nat} (h : t < Y.length * 3) : (cX Y)[t]? = some ((c3 (Y[t / 3]'(by omega)))[t % 3]!) := by
  have hi : t / 3 < Y.length := by omega
  obtain ⟨a, b, c⟩ := cX_get Y hi
  have e : t % 3 = 0 ∨ t % 3 = 1 ∨ t % 3 = 2 := by omega
  rcases e with e | e | e
  · have e2 : t = t / 3 * 3 := by omega
    rw [e]
    conv => lhs; rw [e2]
    rw [a]; rfl
  · have e2 : t = t / 3 * 3 + 1 := by omega
    rw [e]
    conv => lhs; rw [e2]
    rw [b]; rfl
  · have e2 : t = t / 3 * 3 + 2 := by omega
    rw [e]
    conv => lhs; rw [e2]
    rw [c]; rfl
theorem flat_cX (X : List RV) (d : Array Nat) : Go.Sort.flatK (enX X) 3 d = (cX (d.toList.map (fun i => X.getD i dRV))).toArray := by
  apply Array.ext'
  apply List.ext_getElem?
  intro t
  have hl : (cX (d.toList.map (fun i => X.getD i dRV))).length = d.size * 3 := by rw [cX_length, List.length_map, Array.length_toList]
  by_cases h : t < d.size * 3
  · have hd : t / 3 < d.size := by omega
    show _ = (cX _)[t]?
    rw [cX_at _ (by rw [List.length_map, Array.length_toList]; exact h)]
    simp [Go.Sort.flatK, h, enX, getElem!_pos d (t / 3) hd]
  · rw [List.getElem?_eq_none (by simp [Go.Sort.flatK]; omega)]
    show _ = (cX _)[t]?
    rw [List.getElem?_eq_none (by omega)]
theorem range_getD (X : List RV) : (List.range X.length).map (fun i => X.getD i dRV) = X := by
  apply List.ext_getElem (by simp)
  intro i h1 h2
  simp [List.getD_eq_getElem?_getD, h2]
theorem holds_ORt {E : TypeId} {B T g c : Nat} {w : World} {X : List RV} (h : ORt E B T w (.slice (some ⟨g, 0, none⟩) X.length c) X) : Go.Sort.HoldsK (enX X) 3 w g 0 (Array.range X.length) := by
  unfold Go.Sort.HoldsK
  rw [flat_cX]
  have e : (Array.range X.length).toList = List.range X.length := by simp
  rw [e, range_getD]
  have hl := cX_length X
  intro j hj
  have hj' : j < X.length * 3 := by simpa [hl] using hj
  have h0 := h.row
  refine ⟨?_, ?_⟩
  · rw [Nat.zero_add, h0.cellAt j hj']
    simp [hl, hj']
  · rcases h0.2 with ⟨e, -⟩ | ⟨g', cap, cur, e, -, hg, -⟩
    · cases e
    · injection e with e _ _
      injection e with e
      injection e with e _ _
      subst e
      simp [World.frozen?, hg]
theorem sorted_ORt {E : TypeId} {B T g c n : Nat} {w : World} {X : List RV} {d : Array Nat} {os : Array Obj} (hE : 2 ≠ E) (h : ORt E B T w (.slice (some ⟨g, 0, none⟩) X.length c) X) (hs : d.size = X.length) (hp : d.toList.Perm (List.range X.length)) :
    ORt E B T (sortWorldK (enX X) 3 w g 0 n d os) (.slice (some ⟨g, 0, none⟩) X.length c) (d.toList.map (fun i => X.getD i dRV)) ∧ (d.toList.map (fun i => X.getD i dRV)).Perm X ∧ Within g (g + 1) w (sortWorldK (enX X) 3 w g 0 n d os) := by
  have hpx : (d.toList.map (fun i => X.getD i dRV)).Perm X := by
    have := hp.map (fun i => X.getD i dRV)
    rwa [range_getD] at this
  have h0 := h.row
  have hgl := (h0.lt g rfl).2
  have hlY : (d.toList.map (fun i => X.getD i dRV)).length = X.length := by simp [hs]
  have hw : Within g (g + 1) w (sortWorldK (enX X) 3 w g 0 n d os) := by
    refine ⟨rfl, rfl, rfl, by simp [sortWorldK, Go.Sort.grow, Go.Sort.putRowK, Go.Sort.ahead], fun i hi hsz => ?_⟩
    simp only [sortWorldK, Go.Sort.grow, Go.Sort.putRowK, Go.Sort.putRow, Go.Sort.mapBlock, Go.Sort.ahead]
    rw [Array.getElem?_append_left (by simpa using hsz), Array.getElem?_modify, if_neg (by omega)]
  have hb : ∀ cur, w.heap[g]? = some (.cells cur E (0, 0)) → (sortWorldK (enX X) 3 w g 0 n d os).heap[g]? = some (.cells (Go.Sort.putCells id 0 (Go.Sort.flatK (enX X) 3 d) cur) E (0, 0)) := fun cur hc => by
    simp only [sortWorldK, Go.Sort.grow, Go.Sort.putRowK, Go.Sort.putRow, Go.Sort.mapBlock, Go.Sort.ahead]
    rw [Array.getElem?_append_left (by simpa using hgl), Array.getElem?_modify, if_pos rfl, hc]
    rfl
  refine ⟨⟨⟨by rw [cX_length, hlY], .inr ?_⟩, h.top, fun x hx => ?_, fun x hx => h.wf x (hpx.mem_iff.1 hx), h.nn⟩, hpx, hw⟩
  · rcases h0.2 with ⟨e, -⟩ | ⟨g', cap, cur, e, hBg, hg, hnc, hcm, hcs, htk⟩
    · cases e
    · injection e with e e1 e2
      injection e with e
      injection e with e _ _
      subst e
      subst e2
      refine ⟨g, c, _, by rw [hlY], hBg, hb cur hg, by rw [hlY]; exact hnc, hcm, by simpa [Go.Sort.putCells] using hcs, ?_⟩
      rw [flat_cX, hlY]
      have hl := cX_length (d.toList.map (fun i => X.getD i dRV))
      rw [hlY] at hl
      generalize cX (d.toList.map (fun i => X.getD i dRV)) = Z at hl ⊢
      apply List.ext_getElem?
      intro t
      by_cases ht : t < X.length * 3
      · rw [List.getElem?_take_of_lt ht]
        have hc3 : t < cur.size := by rw [hcs]; omega
        have hz : t < Z.length := by omega
        simp [Go.Sort.putCells, hz, hc3]
      · rw [List.getElem?_eq_none (by rw [List.length_take]; omega), List.getElem?_eq_none (by omega)]
  · have hx' := hpx.mem_iff.1 hx
    refine (h.ags x hx').apart hw (fun k hk => ?_)
    have := dj_types3 hE (h.ags x hx').own h0
    rcases this with e | e
    · rw [e] at hk; cases hk
    · rw [hk] at e
      have : k ≠ g := fun q => e (by rw [q]; rfl)
      omega
theorem swo_R (X : List RV) : Go.Sort.SWO (ltOf (fun i j : Nat => cmpR (X.getD i dRV).1 (X.getD j dRV).1)) where
  irrefl x := by unfold ltOf; rw [cmpR_lt]; exact ltR_irr _
  trans x y z h k := by unfold ltOf at *; rw [cmpR_lt] at *; exact ltR_trans _ _ _ h k
  ntrans x y z h k := by unfold ltOf at *; rw [cmpR_lt] at *; exact ltR_ntrans _ _ _ h k

shelf_lay_g SlLaysF0.n6 Slsf 6 at Try 35 as sortRt
theorem isAggR : ∀ w, (isAgg 45).run Try.prog w = .ok true w := fun w => by simp [isAgg, run_underlying (P := Try.prog) (show Try.prog.underlying 45 = _ from by kernel_rfl)]
theorem sizeOfR : ∀ w, (Go.sizeOf 45).run Try.prog w = .ok 3 w := fun w => by
  obtain ⟨i, hi, hz0, hz1, hz2⟩ := info_parts infoRoute
  simp [sizeOf, typeInfo, hi, hz1]
theorem c_sortR {w : World} {B T : Nat} {v : Value} {X : List RV} (h : ORt 45 B T w v X) (hl : X.length ≤ 40) (hw : ∀ x ∈ X, (0 ≤ x.1.a ∧ x.1.a ≤ 8) ∧ (0 ≤ x.1.b ∧ x.1.b ≤ 8)) :
    Calls Try.prog 35 #[v, .func (.func 36) #[] #[]] w (fun e w' => e = .returned (.tuple #[]) ∧ ∃ X', ORt 45 B T w' v X' ∧ X'.Perm X ∧ (X'.map (·.1)).Pairwise (fun x y => ltR y x = false) ∧ ∃ g, B ≤ g ∧ Within g (g + 1) w w') := by
  obtain ⟨g, c, rfl, hB, hT, hg, hc⟩ := h.cells
  have hE : (2 : TypeId) ≠ 45 := by decide
  have eg : ∀ args w, (callFunc 36 args).run Try.prog w = .ok (.enter 36 args) w := enters_of Try.func36 (by kernel_rfl) rfl
  have hbd : ∀ i, (0 ≤ (X.getD i dRV).1.a ∧ (X.getD i dRV).1.a ≤ 8) ∧ (0 ≤ (X.getD i dRV).1.b ∧ (X.getD i dRV).1.b ≤ 8) := fun i => by
    by_cases hi : i < X.length
    · rw [List.getD_eq_getElem?_getD, List.getElem?_eq_getElem hi]
      exact hw _ (List.getElem_mem hi)
    · rw [List.getD_eq_getElem?_getD, List.getElem?_eq_none (by omega)]
      decide
  have hag : ∀ W, Within g (g + 1) w W → ∀ i, IS W (X.getD i dRV).2 (X.getD i dRV).1.path := fun W hW i => by
    by_cases hi : i < X.length
    · rw [List.getD_eq_getElem?_getD, List.getElem?_eq_getElem hi]
      refine OwnT.is ((h.ags _ (List.getElem_mem hi)).apart hW (fun k hk => ?_))
      rcases dj_types3 hE (h.ags _ (List.getElem_mem hi)).own h.row with e | e
      · have hk' : (X[i]).2.ownBlock = some k := hk
        rw [e] at hk'; cases hk'
      · have : k ≠ g := fun q => e (by
          have hk' : (X[i]).2.ownBlock = some k := hk
          rw [hk', q]; rfl)
        omega
    · rw [List.getD_eq_getElem?_getD, List.getElem?_eq_none (by omega)]
      exact (OwnT.nil 2 0 0 W).is
  have hcmp : CmpLays Try.prog 36 #[] (enX X) 3 (fun i j => cmpR (X.getD i dRV).1 (X.getD j dRV).1) g 0 (Array.range X.length).size w := fun m os dk hs x y => by
    have hW : Within g (g + 1) w (sortWorldK (enX X) 3 w g 0 m dk os) := by
      refine ⟨rfl, rfl, rfl, by simp [sortWorldK, Go.Sort.grow, Go.Sort.putRowK, Go.Sort.ahead], fun i hi hsz => ?_⟩
      simp only [sortWorldK, Go.Sort.grow, Go.Sort.putRowK, Go.Sort.putRow, Go.Sort.mapBlock, Go.Sort.ahead]
      rw [Array.getElem?_append_left (by simpa using hsz), Array.getElem?_modify, if_neg (by omega)]
    exact c_cls (hag _ hW x) (hag _ hW y) (hbd x) (hbd y)
  have hcon := AnyQ.slices_SortFunc sortRt 3 isAggR sizeOfR (enX X) (fun _ => rfl) (fun x u hu => by
    have hI := hag w (Within.refl _ _ _) x
    obtain ⟨a, b, o, k, he, -⟩ := hI.ex
    simp only [enX, c3] at hu
    rw [he] at hu
    simp at hu
    rcases hu with rfl | rfl | rfl <;> rfl) (fun i j => cmpR (X.getD i dRV).1 (X.getD j dRV).1) (swo_R X) 36 #[] g 0 c (Array.range X.length) w eg hcmp (holds_ORt h) hg (by simp; omega)
  have hsz : (Array.range X.length).size = X.length := by simp
  rw [hsz] at hcon
  refine Calls.mono hcon ?_
  rintro e w' ⟨rfl, d', n, os, ⟨p1, p2, p3⟩, hs, rfl⟩
  have hd : d'.size = X.length := by rw [p1]; simp
  have hp : d'.toList.Perm (List.range X.length) := by
    have e1 : d'.extract 0 X.length = d' := by rw [← hd]; simp
    have e2 : (Array.range X.length).extract 0 X.length = Array.range X.length := by simp
    rw [e1, e2] at p3
    simpa using p3
  obtain ⟨q1, q2, q3⟩ := sorted_ORt (n := n) (os := os) hE h hd hp
  refine ⟨rfl, _, q1, q2, ?_, g, hB, q3⟩
  rw [List.pairwise_iff_getElem]
  intro i j hi hj hij
  simp only [List.length_map, Array.length_toList] at hi hj
  have := hs i j (Nat.zero_le _) hij (by omega)
  unfold ltOf at this
  rw [cmpR_lt] at this
  simp only [List.getElem_map, Array.getElem_toList]
  rw [getElem!_pos d' i hi, getElem!_pos d' j hj] at this
  exact this
end Go.Proofs.Ytllbjckbinolmaa
