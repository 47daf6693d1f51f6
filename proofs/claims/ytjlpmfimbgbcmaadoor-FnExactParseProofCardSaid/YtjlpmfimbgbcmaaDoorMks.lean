/-
  markStepS.
-/
import Derived.Test.YtjlpmfimbgbcmaaDoorEqs
namespace Go.Proofs.YtjlpmfimbgbcmaaDoor
open Go.RowKit

/-- A step that holds marks from k on. -/
def mkSt (k : Int) (t : St) : St := ⟨k, mkI (k + 1) t.prem.length, mkI (k + 1 + t.prem.length) t.ctx.length, mks (k + 1 + t.prem.length + t.ctx.length).toNat t.hyp.length,
  mT (k + 1 + t.prem.length + t.ctx.length + t.hyp.length).toNat, k + 1 + t.prem.length + t.ctx.length + t.hyp.length + 1, mT (k + 1 + t.prem.length + t.ctx.length + t.hyp.length + 1 + 1).toNat⟩
/-- How many marks a step holds. -/
def wt (t : St) : Nat := 4 + t.prem.length + t.ctx.length + t.hyp.length
def wtX : List SV → Nat
  | [] => 0
  | x :: X => wt x.t + wtX X
def mkX (k : Int) : List SV → List SV
  | [] => []
  | x :: X => { x with t := mkSt k x.t } :: mkX (k + wt x.t) X
theorem wtX_append (X Y : List SV) : wtX (X ++ Y) = wtX X + wtX Y := by
  induction X with
  | nil => simp [wtX]
  | cons x X ih => simp only [List.cons_append, wtX, ih]; omega
theorem mkX_length (k : Int) (X : List SV) : (mkX k X).length = X.length := by
  induction X generalizing k with
  | nil => rfl
  | cons x X ih => simp [mkX, ih]
theorem mkX_append (k : Int) (X Y : List SV) : mkX k (X ++ Y) = mkX k X ++ mkX (k + wtX X) Y := by
  induction X generalizing k with
  | nil => simp [mkX, wtX]
  | cons x X ih =>
    simp only [List.cons_append, mkX, wtX, ih]
    congr 3
    omega
theorem wtX_take {X : List SV} {i : Nat} : wtX (X.take i) ≤ wtX X := by
  have := wtX_append (X.take i) (X.drop i)
  rw [List.take_append_drop] at this
  omega

section
variable {B T lo hi : Nat} {w w' : World} {v : Value} {A R : List SV} {x x' : SV}
/-- One step's lists are written. -/
theorem OSt.elem (h : OSt B T w v (A ++ x :: R)) (hw : Within lo hi w w') (hlo : x.lo ≤ lo) (hhi : hi ≤ x.hi) (hx : ElS w' x') (hb : x'.lo = x.lo ∧ x'.hi = x.hi) (hc : c7 x' = c7 x) : OSt B T w' v (A ++ x' :: R) := by
  have hmx : x ∈ A ++ x :: R := by simp
  have hout := h.out x hmx
  have hpw := List.pairwise_append.1 h.pw
  have hpr := List.pairwise_cons.1 hpw.2.1
  refine ⟨?_, h.top, fun y hy => ?_, ?_, fun y hy => ?_⟩
  · have hr := ownsRow_within h.row hw (fun k hk => by have := hout k hk; omega)
    have e : cS (A ++ x' :: R) = cS (A ++ x :: R) := by
      rw [cS_append, cS_append]
      simp only [cS, List.flatMap_cons, hc]
    rw [e, List.length_append, List.length_cons]
    rw [List.length_append, List.length_cons] at hr
    exact hr
  · have hby := (h.els x hmx).2
    rcases List.mem_append.1 hy with hy | hy
    · have := h.els y (List.mem_append_left _ hy)
      exact ⟨this.1.within hw (.inl (by have := hpw.2.2 y hy x (by simp); omega)), this.2⟩
    · rcases List.mem_cons.1 hy with rfl | hy
      · exact ⟨hx, by rw [hb.1, hb.2]; exact hby⟩
      · have := h.els y (List.mem_append_right _ (List.mem_cons_of_mem _ hy))
        exact ⟨this.1.within hw (.inr (by have := hpr.1 y hy; omega)), this.2⟩
  · rw [List.pairwise_append, List.pairwise_cons]
    refine ⟨hpw.1, ⟨fun y hy => by rw [hb.2]; exact hpr.1 y hy, hpr.2⟩, fun a ha b hbm => ?_⟩
    rcases List.mem_cons.1 hbm with rfl | hbm
    · rw [hb.1]; exact hpw.2.2 a ha x (by simp)
    · exact hpw.2.2 a ha b (List.mem_cons_of_mem _ hbm)
  · rcases List.mem_append.1 hy with hy | hy
    · exact h.out y (List.mem_append_left _ hy)
    · rcases List.mem_cons.1 hy with rfl | hy
      · rw [hb.1, hb.2]; exact hout
      · exact h.out y (List.mem_append_right _ (List.mem_cons_of_mem _ hy))
/-- One cell of a step is written. -/
theorem OSt.put {g n c j : Nat} {u : Value} (h : OSt B T w (.slice (some ⟨g, 0, none⟩) n c) (A ++ x :: R)) (hj : j < 7) (hx : ∀ W, ElS W x → ElS W x') (hb : x'.lo = x.lo ∧ x'.hi = x.hi) (hc : c7 x' = (c7 x).set j u) :
    OSt B T (w.setCell ⟨g, A.length * 7 + j, none⟩ u) (.slice (some ⟨g, 0, none⟩) n c) (A ++ x' :: R) := by
  have hn : n = (A ++ x :: R).length := by
    obtain ⟨ao, c', he⟩ := h.opened
    injection he
  subst hn
  have hmx : x ∈ A ++ x :: R := by simp
  have hpw := List.pairwise_append.1 h.pw
  have hpr := List.pairwise_cons.1 hpw.2.1
  have hw : Within g (g + 1) w (w.setCell ⟨g, A.length * 7 + j, none⟩ u) := (Within.refl _ _ _).setCell (p := ⟨g, A.length * 7 + j, none⟩) (Nat.le_refl _) (Nat.lt_succ_self _) u
  have hE : ∀ y ∈ A ++ x :: R, ElS (w.setCell ⟨g, A.length * 7 + j, none⟩ u) y := fun y hy => (h.els y hy).1.within hw (by have := h.out y hy g rfl; omega)
  refine ⟨?_, h.top, fun y hy => ?_, ?_, fun y hy => ?_⟩
  · have hr := (h.row.stored (A.length * 7 + j) u).1
    have hl := cS_length A
    have e : (cS (A ++ x :: R)).set (A.length * 7 + j) u = cS (A ++ x' :: R) := by
      rw [cS_append, cS_append, List.set_append_right _ _ (by omega), hl, Nat.add_sub_cancel_left]
      simp only [cS, List.flatMap_cons, hc]
      rw [List.set_append_left _ _ (by show j < 7; exact hj)]
    have hlen : (A ++ x' :: R).length = (A ++ x :: R).length := by simp
    rw [e] at hr
    rw [hlen]
    exact hr
  · rcases List.mem_append.1 hy with hy | hy
    · exact ⟨hE y (List.mem_append_left _ hy), (h.els y (List.mem_append_left _ hy)).2⟩
    · rcases List.mem_cons.1 hy with rfl | hy
      · exact ⟨hx _ (hE x hmx), by rw [hb.1, hb.2]; exact (h.els x hmx).2⟩
      · exact ⟨hE y (List.mem_append_right _ (List.mem_cons_of_mem _ hy)), (h.els y (List.mem_append_right _ (List.mem_cons_of_mem _ hy))).2⟩
  · rw [List.pairwise_append, List.pairwise_cons]
    refine ⟨hpw.1, ⟨fun y hy => by rw [hb.2]; exact hpr.1 y hy, hpr.2⟩, fun a ha b hbm => ?_⟩
    rcases List.mem_cons.1 hbm with rfl | hbm
    · rw [hb.1]; exact hpw.2.2 a ha x (by simp)
    · exact hpw.2.2 a ha b (List.mem_cons_of_mem _ hbm)
  · rcases List.mem_append.1 hy with hy | hy
    · exact h.out y (List.mem_append_left _ hy)
    · rcases List.mem_cons.1 hy with rfl | hy
      · rw [hb.1, hb.2]; exact h.out x hmx
      · exact h.out y (List.mem_append_right _ (List.mem_cons_of_mem _ hy))
theorem OSt.cellx {g n c j : Nat} (h : OSt B T w (.slice (some ⟨g, 0, none⟩) n c) (A ++ x :: R)) (hj : j < 7) : w.cell? ⟨g, A.length * 7 + j, none⟩ = (c7 x)[j]? := by
  obtain ⟨ao, g', c', he, ha, hc⟩ := h.cells
  injection he with h1 h2 h3
  have hz := ha (by simp; omega)
  rw [hz.1] at h1
  injection h1 with h1
  injection h1 with h1
  subst h1
  have := hc A.length (by simp) j hj
  simpa using this
theorem OSt.frozenx {g n c : Nat} {X : List SV} (h : OSt B T w (.slice (some ⟨g, 0, none⟩) n c) X) (i : Nat) : w.frozen? ⟨g, i, none⟩ = false := by
  have hn : n = X.length := by
    obtain ⟨ao, c', he⟩ := h.opened
    injection he
  subst hn
  exact h.row.frozenAt i
end
theorem ElS.prem {w w' : World} {x : SV} {zs : List Int} (e : ElS w x) (hw : Within x.lo x.m1 w w') (o : OwnT 2 x.lo x.m1 w' x.p zs) : ElS w' { x with t := { x.t with prem := zs } } :=
  ⟨o, e.oc.kept hw (.inr (Nat.le_refl _)), e.oh.within hw e.le.2.1, e.ot, e.le, e.wf⟩
theorem ElS.ctx {w w' : World} {x : SV} {zs : List Int} (e : ElS w x) (hw : Within x.m1 x.m2 w w') (o : OwnT 2 x.m1 x.m2 w' x.c zs) : ElS w' { x with t := { x.t with ctx := zs } } :=
  ⟨e.op.kept hw (.inl (Nat.le_refl _)), o, e.oh.within hw (Nat.le_refl _), e.ot, e.le, e.wf⟩
theorem ElS.hyp {w w' : World} {x : SV} {zs : List ByteArray} (e : ElS w x) (hw : Within x.m2 x.hi w w') (o : OwS w' x.m2 x.h zs) : ElS w' { x with t := { x.t with hyp := zs } } :=
  ⟨e.op.kept hw (.inl e.le.2.1), e.oc.kept hw (.inl (Nat.le_refl _)), o, e.ot, e.le, e.wf⟩
theorem mem_mid {A R : List SV} {x : SV} : x ∈ A ++ x :: R := by simp
theorem c_markTextI {q : Int} {k : Nat} (hq : q = k) (h1 : 1 ≤ k) (h2 : k < 1000000000000) (w : World) : Calls Tryd.prog 35 #[.int .i64 q] w (Ret w (.string (mT k))) := by
  subst hq; exact c_markText h1 h2 w
theorem c_markStringI {B T : Nat} {w : World} {v : Value} {xs : List ByteArray} (h : OwS w B v xs) (htop : ∀ k, v.ownBlock = some k → k < T) (hBT : B ≤ T) {q : Int} {k : Nat} (hq : q = k) (hk : 1 ≤ k) (hk' : k + xs.length < 1000000000000) :
    Calls Tryd.prog 34 #[v, .int .i64 q] w (fun e w' => e = .returned (.int .i64 (q + xs.length)) ∧ OwS w' B v (mks k xs.length) ∧ Within B T w w') := by
  subst hq
  exact (c_markStringS h htop hBT k hk hk').mono (fun e w' h => ⟨by rw [h.1, Int.natCast_add], h.2⟩)

set_option maxHeartbeats 2000000 in
set_option maxRecDepth 100000 in
theorem c_markStepS {B T : Nat} {w : World} {v : Value} {X : List SV} (h : OSt B T w v X) (hT : B ≤ T) (k : Int) (hk : 1 ≤ k) (hk' : k + wtX X < 1000000000000) :
    Calls Tryd.prog 14 #[v, .int .i64 k] w (fun e w' => e = .returned (.int .i64 (k + wtX X)) ∧ OSt B T w' v (mkX k X) ∧ Within B T w w') := by
  obtain ⟨ao, g, c, rfl, ha, -⟩ := h.cells
  obtain ⟨n, hn⟩ : ∃ n, n = X.length := ⟨_, rfl⟩
  have HO := Lib.hid h
  rw [← hn] at HO ha ⊢
  have HN := Lib.hid hn
  have HA := Lib.hid ha
  have hn3 : n ≤ wtX X := by
    have : ∀ Y : List SV, Y.length ≤ wtX Y := fun Y => by
      induction Y with
      | nil => simp [wtX]
      | cons y Y ih => simp only [wtX, wt, List.length_cons]; omega
    rw [hn]; exact this X
  clear h hn ha
  go_enter Tryd.func14, Tryd.ntmps14
  go_wp2_with fail
  go_loopw [1, 5] (fun kv iv wr => ∃ (i : Nat), i ≤ n ∧ iv = .int .i64 i ∧ kv = .int .i64 (k + wtX (X.take i)) ∧ Within B T w wr ∧ OSt B T wr (.slice ao n c) (mkX k (X.take i) ++ X.drop i)) (fun _ iv _ => n - (intOf iv).toNat)
  case atStart => exact ⟨0, Nat.zero_le _, rfl, by simp [wtX], Within.refl _ _ _, by simpa [mkX] using HO.out⟩
  case round =>
    obtain ⟨i, hi, rfl, rfl, hw, ho⟩ := hrel
    by_cases hlt : i < n
    · obtain ⟨rfl, hB, hgT⟩ := HA.out (by omega)
      have hix : i < X.length := by have := HN.out; omega
      rw [List.drop_eq_getElem_cons hix] at ho
      have hws := wtX_take (X := X) (i := i + 1)
      rw [List.take_succ_eq_append_getElem hix, wtX_append] at hws
      have htake : X.take (i + 1) = X.take i ++ [X[i]] := List.take_succ_eq_append_getElem hix
      obtain ⟨x, hx⟩ : ∃ x, x = X[i] := ⟨_, rfl⟩
      obtain ⟨A, hA⟩ : ∃ A, A = mkX k (X.take i) := ⟨_, rfl⟩
      obtain ⟨R, hR⟩ : ∃ R, R = X.drop (i + 1) := ⟨_, rfl⟩
      have hAl : A.length = i := by rw [hA, mkX_length, List.length_take]; omega
      rw [← hx] at hws htake
      rw [← hA, ← hx, ← hR] at ho
      obtain ⟨K, hK⟩ : ∃ K : Int, K = k + wtX (X.take i) := ⟨_, rfl⟩
      have hKb : 1 ≤ K ∧ K + (4 + x.t.prem.length + x.t.ctx.length + x.t.hyp.length : Nat) < 1000000000000 := by
        simp only [wtX, wt] at hws
        omega
      rw [← hK]
      have HTK := Lib.hid htake
      have HKK := Lib.hid hK
      have HAA := Lib.hid hA
      have HRR := Lib.hid hR
      have HL := Lib.hid hAl
      have ho0 : OSt B T wr (.slice (some ⟨g, 0, none⟩) n c) (A ++ x :: R) := ho
      have c0 : wr.cell? ⟨g, i * 7 + 0, none⟩ = some (.int .i64 x.t.rule) := by have := ho0.cellx (j := 0) (by decide); rw [hAl] at this; exact this
      have c1 : wr.cell? ⟨g, i * 7 + 1, none⟩ = some x.p := by have := ho0.cellx (j := 1) (by decide); rw [hAl] at this; exact this
      have f0 := ho0.frozenx (i * 7 + 0)
      rw [Nat.add_zero] at c0 f0
      have H0 := Lib.hid ho0
      have HW0 := Lib.hid hw
      obtain ⟨hb0, hb1⟩ := hKb
      clear ho ho0 hx hA hR hK hws htake hw hAl
      -- the walk
      have hI0 : I64 K := ⟨by omega, by omega⟩
      have hI5 : I64 ((K + 1 + x.t.prem.length + x.t.ctx.length + x.t.hyp.length) + 1) := ⟨by omega, by omega⟩
      have h1 : OSt B T (wr.setCell ⟨g, i * 7, none⟩ (.int .i64 K)) (.slice (some ⟨g, 0, none⟩) n c) (A ++ { x with t := { x.t with rule := K } } :: R) := by
        have := H0.out.put (j := 0) (u := .int .i64 K) (x' := { x with t := { x.t with rule := K } }) (by decide) (fun W e => ⟨e.op, e.oc, e.oh, e.ot, e.le, ⟨hI0, e.wf.2⟩⟩) ⟨rfl, rfl⟩ rfl
        rw [HL.out, Nat.add_zero] at this
        exact this
      have HH1 := Lib.hid h1
      have HW1 := Lib.hid (HW0.out.setCell (p := ⟨g, i * 7, none⟩) hB hgT (.int .i64 K))
      clear h1
      go_wp2_with fail
      generalize wr.setCell ⟨g, i * 7, none⟩ (.int .i64 K) = w1 at *
      clear c0 c1 f0
      have e1 := (HH1.out.els _ mem_mid)
      refine (c_markInt64S e1.1.op (K + 1) (by omega) (by show K + 1 + (x.t.prem.length : Int) ≤ _; omega)).mono ?_
      rintro e w2 ⟨rfl, o2, m2⟩
      have HH2 := Lib.hid (HH1.out.elem m2 (Nat.le_refl _) (by have := e1.1.le; omega) (e1.1.prem m2 o2) ⟨rfl, rfl⟩ rfl)
      have HW2 := Lib.hid (HW1.out.trans (m2.mono e1.2.1 (by have := e1.1.le; have := e1.2.2; omega)))
      have c2 : w2.cell? ⟨g, i * 7 + 2, none⟩ = some x.c := by have := HH2.out.cellx (j := 2) (by decide); rw [HL.out] at this; exact this
      clear e1 o2 m2
      go_wp2_with fail
      have e2 := (HH2.out.els _ mem_mid)
      refine (c_markInt64S e2.1.oc (K + 1 + x.t.prem.length) (by omega) (by show K + 1 + x.t.prem.length + (x.t.ctx.length : Int) ≤ _; omega)).mono ?_
      rintro e w3 ⟨rfl, o3, m3⟩
      have HH3 := Lib.hid (HH2.out.elem m3 e2.1.le.1 (by have := e2.1.le; omega) (e2.1.ctx m3 o3) ⟨rfl, rfl⟩ rfl)
      have HW3 := Lib.hid (HW2.out.trans (m3.mono (by have := e2.1.le; have := e2.2.1; omega) (by have := e2.1.le; have := e2.2.2; omega)))
      have c3 : w3.cell? ⟨g, i * 7 + 3, none⟩ = some x.h := by have := HH3.out.cellx (j := 3) (by decide); rw [HL.out] at this; exact this
      clear e2 o3 m3 c2
      go_wp2_with fail
      have e3 := (HH3.out.els _ mem_mid)
      refine (c_markStringI e3.1.oh e3.1.ot e3.1.le.2.2 (q := K + 1 + x.t.prem.length + x.t.ctx.length) (k := (K + 1 + x.t.prem.length + x.t.ctx.length).toNat) (by omega) (by omega) (by show _ + x.t.hyp.length < _; omega)).mono ?_
      rintro e w4 ⟨rfl, o4, m4⟩
      have HH4 := Lib.hid (HH3.out.elem m4 (by have := e3.1.le; exact Nat.le_trans this.1 this.2.1) (Nat.le_refl _) (e3.1.hyp m4 o4) ⟨rfl, rfl⟩ rfl)
      have HW4 := Lib.hid (HW3.out.trans (m4.mono (by have := e3.1.le; have := e3.2.1; omega) (by have := e3.2.2; omega)))
      clear e3 o4 m4 c3
      go_wp2_with fail
      refine (c_markTextI (q := K + 1 + x.t.prem.length + x.t.ctx.length + x.t.hyp.length) (k := (K + 1 + x.t.prem.length + x.t.ctx.length + x.t.hyp.length).toNat) (by omega) (by omega) (by omega) _).mono ?_
      rintro e w5 ⟨rfl, b5⟩
      have h5 := HH4.out.kept (within_of b5 (Nat.le_refl B)) (.inr (Nat.le_refl _))
      have HW5 := Lib.hid (HW4.out.trans (within_of b5 hT))
      have c4 : w5.cell? ⟨g, i * 7 + 4, none⟩ = some (.string x.t.conc) := by have := h5.cellx (j := 4) (by decide); rw [HL.out] at this; exact this
      have c5 : w5.cell? ⟨g, i * 7 + 5, none⟩ = some (.int .i64 x.t.var) := by have := h5.cellx (j := 5) (by decide); rw [HL.out] at this; exact this
      have f4 := h5.frozenx (i * 7 + 4)
      have f5 := h5.frozenx (i * 7 + 5)
      have HH5 := Lib.hid h5
      clear h5 b5
      have h6 := (HH5.out.put (j := 4) (u := .string (mT (K + 1 + x.t.prem.length + x.t.ctx.length + x.t.hyp.length).toNat)) (x' := { x with t := { x.t with rule := K, prem := mkI (K + 1) x.t.prem.length, ctx := mkI (K + 1 + x.t.prem.length) x.t.ctx.length, hyp := mks (K + 1 + x.t.prem.length + x.t.ctx.length).toNat x.t.hyp.length, conc := mT (K + 1 + x.t.prem.length + x.t.ctx.length + x.t.hyp.length).toNat } }) (by decide) (fun W e => ⟨e.op, e.oc, e.oh, e.ot, e.le, e.wf⟩) ⟨rfl, rfl⟩ rfl).put (j := 5) (u := .int .i64 ((K + 1 + x.t.prem.length + x.t.ctx.length + x.t.hyp.length) + 1)) (x' := { x with t := { x.t with rule := K, prem := mkI (K + 1) x.t.prem.length, ctx := mkI (K + 1 + x.t.prem.length) x.t.ctx.length, hyp := mks (K + 1 + x.t.prem.length + x.t.ctx.length).toNat x.t.hyp.length, conc := mT (K + 1 + x.t.prem.length + x.t.ctx.length + x.t.hyp.length).toNat, var := (K + 1 + x.t.prem.length + x.t.ctx.length + x.t.hyp.length) + 1 } }) (by decide) (fun W e => ⟨e.op, e.oc, e.oh, e.ot, e.le, ⟨e.wf.1, hI5⟩⟩) ⟨rfl, rfl⟩ rfl
      rw [HL.out] at h6
      have HH6 := Lib.hid h6
      have HW6 := Lib.hid ((HW5.out.setCell (p := ⟨g, i * 7 + 4, none⟩) hB hgT (.string (mT (K + 1 + x.t.prem.length + x.t.ctx.length + x.t.hyp.length).toNat))).setCell (p := ⟨g, i * 7 + 5, none⟩) hB hgT (.int .i64 ((K + 1 + x.t.prem.length + x.t.ctx.length + x.t.hyp.length) + 1)))
      clear h6
      go_wp2_with fail
      generalize (w5.setCell ⟨g, i * 7 + 4, none⟩ (.string (mT (K + 1 + x.t.prem.length + x.t.ctx.length + x.t.hyp.length).toNat))).setCell ⟨g, i * 7 + 5, none⟩ (.int .i64 ((K + 1 + x.t.prem.length + x.t.ctx.length + x.t.hyp.length) + 1)) = w6 at *
      clear c4 c5 f4 f5
      refine (c_markTextI (q := (K + 1 + x.t.prem.length + x.t.ctx.length + x.t.hyp.length) + 1 + 1) (k := ((K + 1 + x.t.prem.length + x.t.ctx.length + x.t.hyp.length) + 1 + 1).toNat) (by omega) (by omega) (by omega) _).mono ?_
      rintro e w7 ⟨rfl, b7⟩
      have h7 := HH6.out.kept (within_of b7 (Nat.le_refl B)) (.inr (Nat.le_refl _))
      have HW7 := Lib.hid ((HW6.out.trans (within_of b7 hT)).setCell (p := ⟨g, i * 7 + 6, none⟩) hB hgT (.string (mT ((K + 1 + x.t.prem.length + x.t.ctx.length + x.t.hyp.length) + 1 + 1).toNat)))
      have c6 : w7.cell? ⟨g, i * 7 + 6, none⟩ = some (.string x.t.temp) := by have := h7.cellx (j := 6) (by decide); rw [HL.out] at this; exact this
      have f6 := h7.frozenx (i * 7 + 6)
      have h8 := h7.put (j := 6) (u := .string (mT ((K + 1 + x.t.prem.length + x.t.ctx.length + x.t.hyp.length) + 1 + 1).toNat)) (x' := { x with t := mkSt K x.t }) (by decide) (fun W e => ⟨e.op, e.oc, e.oh, e.ot, e.le, e.wf⟩) ⟨rfl, rfl⟩ rfl
      rw [HL.out] at h8
      have HH8 := Lib.hid h8
      clear h7 b7 h8
      go_wp2_with fail
      go_roundw
      case rel =>
        refine ⟨i + 1, by omega, by go_num, ?_, HW7.out, ?_⟩
        · rw [HTK.out, wtX_append]
          simp only [wtX, wt]
          rw [HKK.out]
          congr 1
          omega
        · rw [HTK.out, mkX_append, ← HAA.out, ← HRR.out, ← HKK.out]
          simp only [mkX, List.append_assoc, List.cons_append, List.nil_append]
          exact HH8.out
      case measure => simp [intOf]; omega
    · have hie : i = n := by omega
      subst hie
      have HF := Lib.hid ho
      have HW := Lib.hid hw
      have HE := Lib.hid (show X.take i = X by rw [HN.out, List.take_length])
      have hlb : ¬ (i : Int) < (i : Int) := by omega
      clear ho hw
      go_wp2_with fail
      go_ret
      have h := HF.out
      rw [List.drop_of_length_le (by have := HN.out; omega), List.append_nil, HE.out] at h
      exact ⟨by rw [HE.out]; rfl, h, HW.out⟩
end Go.Proofs.YtjlpmfimbgbcmaaDoor
