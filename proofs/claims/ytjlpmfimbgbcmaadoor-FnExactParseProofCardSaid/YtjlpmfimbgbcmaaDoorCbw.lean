/-
  canBeWritten: whether a step has a text.
-/
import Derived.Test.YtjlpmfimbgbcmaaDoorStr
import Derived.Test.YtjlpmfimbgbcmaaDoorCml
import Derived.Deep.RegionHeld3
namespace Go.Proofs.YtjlpmfimbgbcmaaDoor
open Go.RowKit

structure St where
  rule : Int
  prem : List Int
  ctx : List Int
  hyp : List ByteArray
  conc : ByteArray
  var : Int
  temp : ByteArray

/-- The step has a text. -/
def canB (t : St) : Bool := allIn 1000000000 ([t.rule, t.var] ++ t.prem ++ t.ctx) && decide (t.hyp.length ≤ 8) && !Lib.containsS t.hyp ByteArray.empty && (t.hyp ++ [t.conc, t.temp]).all wordB

/-- The step's seven cells in block b. -/
structure SB (w : World) (b : Nat) (t : St) (vp vc vh : Value) : Prop where
  c0 : w.cell? ⟨b, 0, none⟩ = some (.int .i64 t.rule)
  c1 : w.cell? ⟨b, 1, none⟩ = some vp
  c2 : w.cell? ⟨b, 2, none⟩ = some vc
  c3 : w.cell? ⟨b, 3, none⟩ = some vh
  c4 : w.cell? ⟨b, 4, none⟩ = some (.string t.conc)
  c5 : w.cell? ⟨b, 5, none⟩ = some (.int .i64 t.var)
  c6 : w.cell? ⟨b, 6, none⟩ = some (.string t.temp)
  p : IS w vp t.prem
  c : IS w vc t.ctx
  h : SL w vh t.hyp

theorem SB.kept {w w' : World} {b : Nat} {t : St} {vp vc vh : Value} (h : SB w b t vp vc vh) (hb : Below w.heap.size w w') : SB w' b t vp vc vh :=
  ⟨upc hb h.c0, upc hb h.c1, upc hb h.c2, upc hb h.c3, upc hb h.c4, upc hb h.c5, upc hb h.c6, h.p.kept hb, h.c.kept hb, h.h.kept hb⟩

section
variable {P : Program} {w : World}
/-- append(out, list...) as one step of a region that draws. -/
theorem stepAppL {B : Nat} {v u : Value} {xs ys : List Int} {e t : TypeId} (hown : Own e w B v xs) (hyl : IS w u ys) (hl : xs.length + ys.length ≤ 4294967296) (hB : B ≤ w.heap.size)
    (ht : P.underlying t = some (.slice e)) (hinfo : (P.info? e).map (fun i => (i.zero, i.size, i.bytes)) = some (some (.int .i64 0), 1, 8))
    {ops : Array Oper} {o : Oper} {a : Act} {K : Act → World → Prop} {Q : Exit → Act → World → Prop} {F : Prop} (hgd : o.guard = none) (s y : Operand)
    (ho : o.op = .call { callee := .builtin .append, args := #[s, y], argTypes := #[t, t] })
    (hs : a.eval s = v) (hy : a.eval y = u)
    (h : ∀ v' w', Own e w' B v' (xs ++ ys) → Grew w w' v v' → K (a.put o.dst v') w') : if Region.wanted o (yielded ops a.tmps) = true then Oper.wp P o a w K Q else F := by
  have hw : Region.wanted o (yielded ops a.tmps) = true := by simp [Region.wanted, hgd]
  rw [if_pos hw]
  obtain ⟨v', w', hr, h2, h3⟩ := run_appL (P := P) (w := w) (ty := o.type) hown hyl hl hB ht hinfo
  unfold Oper.wp execOp
  simp only [ho, resolve, invoke, builtin, Sem.run_bind, Sem.run_pure, Result.andThen_ok, List.map_toArray, List.map_cons, List.map_nil, hs, hy, hr]
  exact h v' w' h2 h3
end

/-- What the region of the numbers holds on to. -/
structure KN (W : World) (b : Nat) (t : St) (vp vc vh : Value) (w' : World) : Prop where
  bl : Below W.heap.size W w'
  sb : SB w' b t vp vc vh
section
variable {W w' w'' : World} {b : Nat} {t : St} {vp vc vh : Value}
theorem KN.all (k : KN W b t vp vc vh w') : KN W b t vp vc vh w' ∧ w'.cell? ⟨b, 0, none⟩ = some (.int .i64 t.rule) ∧ w'.cell? ⟨b, 5, none⟩ = some (.int .i64 t.var) ∧ w'.cell? ⟨b, 1, none⟩ = some vp ∧ w'.cell? ⟨b, 2, none⟩ = some vc := ⟨k, k.sb.c0, k.sb.c5, k.sb.c1, k.sb.c2⟩
theorem KN.call (k : KN W b t vp vc vh w') (hb : Below w'.heap.size w' w'') : KN W b t vp vc vh w'' := ⟨bel_next k.bl hb, k.sb.kept hb⟩
theorem KN.alloc (k : KN W b t vp vc vh w') (o : Obj) : KN W b t vp vc vh (w'.alloc o) := k.call (bel_alloc (Below.refl _ _) o)
theorem KN.drew (k : KN W b t vp vc vh w') : KN W b t vp vc vh w'.drew := k.call (Drawn.below (Drawn.one (Drawn.refl w')) _)
/-- Something grows that is younger than the start. -/
theorem KN.grew (S : SB W b t vp vc vh) (k : KN W b t vp vc vh w') {v v' : Value} (hg : Grew w' w'' v v') (hv : ∀ j, v.ownBlock = some j → W.heap.size ≤ j) : KN W b t vp vc vh w'' :=
  have hb : Below W.heap.size W w'' := k.bl.grown hg.grown k.bl.size (fun j e => hv j e)
  ⟨hb, S.kept hb⟩
end

theorem own_lit2 {E : TypeId} {w : World} {a b : Int} (ha : I64 a) (hb : I64 b) : Own E (w.alloc (.cells #[.int .i64 a, .int .i64 b] E)) w.heap.size (.slice (some ⟨w.heap.size, 0, none⟩) 2 2) [a, b] :=
  ⟨⟨by simp, .inr ⟨w.heap.size, 2, #[.int .i64 a, .int .i64 b], rfl, Nat.le_refl _, heap_alloc_new w _, Nat.le_refl _, by decide, by simp, by simp⟩⟩, (fun x hx => by simp at hx; rcases hx with rfl | rfl <;> assumption), by simp⟩

theorem sl_lit2 {w : World} {a b : ByteArray} {E : TypeId} : SL (w.alloc (.cells #[.string a, .string b] E)) (.slice (some ⟨w.heap.size, 0, none⟩) 2 2) [a, b] := by
  refine ⟨⟨some ⟨w.heap.size, 0, none⟩, w.heap.size, 0, 2, rfl, fun _ => rfl, fun i hi => ?_⟩, by simp⟩
  have hi' : i = 0 ∨ i = 1 := by simp at hi; omega
  have hg := heap_alloc_new w (.cells #[.string a, .string b] E)
  rcases hi' with rfl | rfl
  · unfold World.cell?; rw [hg]; rfl
  · unfold World.cell?; rw [hg]; rfl

/-- What the region of the texts holds on to. -/
structure KM (W : World) (b : Nat) (t : St) (vp vc vh : Value) (w' : World) : Prop where
  bl : Below W.heap.size W w'
  sb : SB w' b t vp vc vh
section
variable {W w' w'' : World} {b : Nat} {t : St} {vp vc vh : Value}
theorem KM.all (k : KM W b t vp vc vh w') : KM W b t vp vc vh w' ∧ w'.cell? ⟨b, 3, none⟩ = some vh ∧ w'.cell? ⟨b, 4, none⟩ = some (.string t.conc) ∧ w'.cell? ⟨b, 6, none⟩ = some (.string t.temp) := ⟨k, k.sb.c3, k.sb.c4, k.sb.c6⟩
theorem KM.call (k : KM W b t vp vc vh w') (hb : Below w'.heap.size w' w'') : KM W b t vp vc vh w'' := ⟨bel_next k.bl hb, k.sb.kept hb⟩
theorem KM.alloc (k : KM W b t vp vc vh w') (o : Obj) : KM W b t vp vc vh (w'.alloc o) := k.call (bel_alloc (Below.refl _ _) o)
theorem KM.drew (k : KM W b t vp vc vh w') : KM W b t vp vc vh w'.drew := k.call (Drawn.below (Drawn.one (Drawn.refl w')) _)
theorem KM.grew (S : SB W b t vp vc vh) (k : KM W b t vp vc vh w') {v v' : Value} (hg : Grew w' w'' v v') (hv : ∀ j, v.ownBlock = some j → W.heap.size ≤ j) : KM W b t vp vc vh w'' :=
  have hb : Below W.heap.size W w'' := k.bl.grown hg.grown k.bl.size (fun j e => hv j e)
  ⟨hb, S.kept hb⟩
end

set_option maxRecDepth 100000 in
theorem c_canBeWritten {w : World} {b : Nat} {t : St} {vp vc vh : Value} (S : SB w b t vp vc vh) (hr : I64 t.rule ∧ I64 t.var) (hl : t.prem.length + t.ctx.length ≤ 4294967290) (hz : ∀ x ∈ t.hyp ++ [t.conc, t.temp], x.size < 4294967281) : Calls Tryd.prog 59 #[.pointer (some ⟨b, 0, none⟩)] w (fun e w' => e = .returned (.bool (canB t)) ∧ Below w.heap.size w w') := by
  obtain ⟨V, hV⟩ : ∃ V, V = canB t := ⟨_, rfl⟩
  have HV := Lib.hid hV
  rw [← hV]
  clear hV
  obtain ⟨ah, bh, oh, ch, rfl, -, -⟩ := S.h.ex
  have hhl := S.h.len
  have HS := Lib.hid S
  have K0 : KN w b t vp vc (.slice ah t.hyp.length ch) w := ⟨Below.refl _ _, S⟩
  have K1 := K0.drew.all
  go_enter Tryd.func59, Tryd.ntmps59
  have hB0 : w.heap.size ≤ ((w.alloc (.cells #[.int .i64 t.rule, .int .i64 t.var] 2)).drew).heap.size := by simp
  have hl2 : 2 + t.prem.length ≤ 4294967296 := by omega
  go_wp2_with fail
  go_region_held3 (fun w' => KN w b t vp vc (.slice ah t.hyp.length ch) w' ∧ w'.cell? ⟨b, 0, none⟩ = some (.int .i64 t.rule) ∧ w'.cell? ⟨b, 5, none⟩ = some (.int .i64 t.var) ∧ w'.cell? ⟨b, 1, none⟩ = some vp ∧ w'.cell? ⟨b, 2, none⟩ = some vc)
    (first | with_reducible exact K1 | with_reducible exact ((K0.alloc _).drew).all | with_reducible exact (KN.grew HS.out ((K0.alloc _).drew) g1 hv1).all | with_reducible exact (KN.grew HS.out (KN.grew HS.out ((K0.alloc _).drew) g1 hv1) g2 hv2).all)
    (first | (refine stepAppL (B := w.heap.size) (xs := [t.rule, t.var]) (ys := t.prem) ((own_lit2 (w := w) hr.1 hr.2).kept (Drawn.below (Drawn.one (Drawn.refl _)) _)) ((K0.alloc _).drew).sb.p hl2 hB0 Tryd.underlying42 infoInt64 ?_ (.tmp 14) (.tmp 18) ?_ ?_ ?_ ?_; (· rfl); (· rfl); (· rfl); (· rfl); intro v1 w1 o1 g1; have hv1 := fun k (hk : (Value.slice (some ⟨w.heap.size, 0, none⟩) 2 2).ownBlock = some k) => (show w.heap.size ≤ k by simp [Value.ownBlock] at hk; omega); obtain ⟨a1, e1, rfl⟩ := o1.shape) | (refine stepAppL (B := w.heap.size) (xs := [t.rule, t.var] ++ t.prem) (ys := t.ctx) o1 (KN.grew HS.out ((K0.alloc _).drew) g1 hv1).sb.c ?_ ?_ Tryd.underlying42 infoInt64 ?_ (.tmp 19) (.tmp 23) ?_ ?_ ?_ ?_; (· simp; omega); (· have := g1.grown.size; simp at this; omega); (· rfl); (· rfl); (· rfl); (· rfl); intro v2 w2 o2 g2; have hv2 := fun k (hk : _ = some k) => (o1.lt k hk).1))
  have KE := (‹KN w b t vp vc (.slice ah t.hyp.length ch) w2 ∧ _›).1
  have HO := Lib.hid o2.is
  have HK := Lib.hid KE
  have e3 := KE.sb.c3
  clear ‹KN w b t vp vc (.slice ah t.hyp.length ch) w2 ∧ _› KE o1 g1 g2 hv1 hv2 K0 K1 hB0 o2
  obtain ⟨A, hA⟩ : ∃ A, A = allIn 1000000000 ([t.rule, t.var] ++ t.prem ++ t.ctx) := ⟨_, rfl⟩
  have HA := Lib.hid hA
  have HW := Lib.hid (c_within HO.out 1000000000 (by decide) (by decide))
  rw [← hA] at HW
  clear hA
  cases A with
  | false =>
    go_wp2_with (go_at_call 69; refine HW.out.mono ?_; rintro e w3 ⟨rfl, m3, hw3⟩; have K3 := HK.out.call (Drawn.below ⟨m3, hw3⟩ _); have f3 := K3.sb.c3; clear hw3)
    go_ret
    exact ⟨by rw [HV.out, canB, ← HA.out]; rfl, K3.bl⟩
  | true =>
    by_cases h8 : t.hyp.length ≤ 8
    · obtain ⟨C, hC⟩ : ∃ C, C = Lib.containsS t.hyp ByteArray.empty := ⟨_, rfl⟩
      have HC := Lib.hid hC
      have HCS := Lib.hid (fun (v : Value) W (h : SL W v t.hyp) => c_ContainsS h ByteArray.empty)
      rw [← hC] at HCS
      clear hC
      cases C
      all_goals go_wp2_with first | (go_at_call 69; refine HW.out.mono ?_; rintro e w3 ⟨rfl, m3, hw3⟩; have K3 := HK.out.call (Drawn.below ⟨m3, hw3⟩ _); have f3 := K3.sb.c3; clear hw3) | (go_at_call 79; refine (HCS.out _ _ K3.sb.h).mono ?_; rintro e w4 ⟨rfl, rfl⟩)
      · have M0 : KM w4 b t vp vc (.slice ah t.hyp.length ch) w4 := ⟨Below.refl _ _, K3.sb⟩
        have M1 := M0.drew.all
        have HB4 := Lib.hid K3.bl
        have S4 := K3.sb
        have HCL := Lib.hid (fun (v : Value) W (h : SL W v t.hyp) => c_CloneS h)
        have h10 : t.hyp.length + 2 ≤ 4294967296 := by omega
        clear K3 f3 e3 HCS HW HK HO
        go_region_held3 (fun w' => KM w4 b t vp vc (.slice ah t.hyp.length ch) w' ∧ w'.cell? ⟨b, 3, none⟩ = some (.slice ah t.hyp.length ch) ∧ w'.cell? ⟨b, 4, none⟩ = some (.string t.conc) ∧ w'.cell? ⟨b, 6, none⟩ = some (.string t.temp))
          (first | with_reducible exact M1 | with_reducible exact ((M0.alloc _).drew).all | (with_reducible refine (KM.call ?_ b5).all; with_reducible exact And.left (by assumption)) | (with_reducible refine (KM.alloc ?_ _).all; with_reducible exact And.left (by assumption)) | (with_reducible refine (KM.grew S4 ?_ g6 hv6).all; with_reducible exact And.left (by assumption)))
          (first | (go_at_call 80; refine (HCL.out _ _ (KM.sb (And.left (by assumption))).h).mono ?_; rintro e w5 ⟨u5, rfl, o5, b5⟩) | (refine stepAppS (B := w4.heap.size) (xs := t.hyp) (ys := [t.conc, t.temp]) ((o5.mono (B' := w4.heap.size) ?_).kept (bel_box _ _)) sl_lit2 h10 ?_ ?_ (.tmp 47) (.tmp 56) ?_ ?_ ?_ ?_; (· simp); (· have := b5.size; simp at this ⊢; omega); (· rfl); (· rfl); (· rfl); (· rfl); intro v6 w6 o6 g6; have hv6 := fun k (hk : u5.ownBlock = some k) => Nat.le_trans (show w4.heap.size ≤ w4.drew.heap.size by simp) (o5.lt k hk).1; obtain ⟨a6, e6, rfl⟩ := o6.shape) | (refine stepAppS (B := w4.heap.size) (xs := t.hyp) (ys := [t.conc, t.temp]) (o5.mono (B' := w4.heap.size) ?_) ((sl_lit2.kept (Drawn.below (Drawn.one (Drawn.refl _)) _)).kept b5) h10 ?_ ?_ (.tmp 47) (.tmp 56) ?_ ?_ ?_ ?_; (· simp); (· have := b5.size; simp at this ⊢; omega); (· rfl); (· rfl); (· rfl); (· rfl); intro v6 w6 o6 g6; have hv6 := fun k (hk : u5.ownBlock = some k) => Nat.le_trans (show w4.heap.size ≤ ((w4.alloc (.cells #[.string t.conc, .string t.temp] 9)).drew).heap.size by simp) (o5.lt k hk).1; obtain ⟨a6, e6, rfl⟩ := o6.shape))
        all_goals
          have KE := (‹KM w4 b t vp vc (.slice ah t.hyp.length ch) w6 ∧ _›).1
          have HB6 := Lib.hid (HB4.out.trans (KE.bl.mono HB4.out.size))
          clear ‹KM w4 b t vp vc (.slice ah t.hyp.length ch) w6 ∧ _› KE M0 M1 g6 hv6 o5 b5
          obtain ⟨xs, hxs⟩ : ∃ xs, xs = t.hyp ++ [t.conc, t.temp] := ⟨_, rfl⟩
          rw [← hxs] at o6 hz
          obtain ⟨ao, bo, oo, co, he, ha, hc⟩ := o6.sl.ex
          injection he with he1 he2 he3
          subst he1 he3
          have hxl := o6.len
          have HX := Lib.hid hxs
          have hCA := fun (x : ByteArray) (hx : x.size < 4294967281) W => c_ContainsAny hx W
          unfold C3 at hCA
          have HCA := Lib.hid hCA
          have hxn : xs.length = t.hyp.length + 2 := by rw [hxs]; simp
          have HVX := Lib.hid (show V = xs.all wordB by rw [HV.out, canB, ← HA.out, ← HC.out, decide_eq_true h8, hxs]; simp)
          have hcx := hc
          have ha' := ha (by omega)
          subst ha'
          have HXC := Lib.hid hcx
          have HZ := Lib.hid (fun (i : Nat) (hi : i < xs.length) => hz _ (List.getElem_mem hi))
          clear hc hcx ha hxs hz o6 hCA
          go_wp2_with fail
          go_loopw [5, 59] (fun _ i wr => ∃ k : Nat, k ≤ xs.length ∧ i = .int .i64 k ∧ Below w6.heap.size w6 wr ∧ Hid (∀ (j : Nat) (hj : j < xs.length), j < k → wordB xs[j] = true)) (fun _ i _ => xs.length - (intOf i).toNat)
          case atStart => exact ⟨0, by omega, rfl, Below.refl _ _, Lib.hid (fun j hj h => by omega)⟩
          case round =>
            obtain ⟨k, hk, rfl, hbr, HG⟩ := hrel
            by_cases hlt : k < xs.length
            · have c1 : wr.cell? ⟨bo, oo + k, none⟩ = some (.string xs[k]) := upc hbr (HXC.out k hlt)
              obtain ⟨x, hx⟩ : ∃ x, x = xs[k] := ⟨_, rfl⟩
              rw [← hx] at c1
              have HCX := Lib.hid (HCA.out x (by rw [hx]; exact HZ.out k hlt))
              have HXX := Lib.hid hx
              have hl1 : (k : Int) < (t.hyp.length : Int) + 1 + 1 := by omega
              clear hx
              go_wp2_with (go_at_call 81; refine (HCX.out _).mono ?_; rintro e w7 ⟨rfl, hb7⟩)
              · have hw : (!wordB x) = true := by assumption
                have hV : V = false := by
                  rw [HVX.out]
                  cases hq : xs.all wordB with
                  | false => rfl
                  | true =>
                    have := List.all_eq_true.1 hq xs[k] (List.getElem_mem hlt)
                    rw [← HXX.out] at this
                    rw [this] at hw; cases hw
                go_ret
                exact ⟨by rw [hV]; rfl, HB6.out.trans ((bel_next hbr hb7).mono HB6.out.size)⟩
              · have hw : (!wordB x) = false := by assumption
                go_roundw
                case rel =>
                  refine ⟨k + 1, by omega, by go_num, bel_next hbr hb7, Lib.hid (fun j hj h => ?_)⟩
                  by_cases e : j = k
                  · subst e
                    rw [← HXX.out]
                    cases hq : wordB x with
                    | true => rfl
                    | false => rw [hq] at hw; cases hw
                  · exact HG.out j hj (by omega)
                case measure => simp [intOf]; omega
            · have hl1 : ¬ (k : Int) < (t.hyp.length : Int) + 1 + 1 := by omega
              have hl2' : ¬ (k : Int) < (t.hyp.length : Int) + 2 := by omega
              have hV := Lib.hid (show V = true by
                rw [HVX.out, List.all_eq_true]
                intro y hy
                obtain ⟨j, hj, rfl⟩ := List.getElem_of_mem hy
                exact HG.out j hj (by omega))
              go_wp2_with fail
              go_ret
              exact ⟨by rw [hV.out]; rfl, HB6.out.trans (hbr.mono HB6.out.size)⟩
      · have hV := Lib.hid (show V = false by rw [HV.out, canB, ← HC.out]; simp)
        have HB := Lib.hid K3.bl
        go_ret
        exact ⟨by rw [hV.out]; rfl, HB.out⟩
    · have d8 : decide ((8 : Int) < (t.hyp.length : Int)) = true := decide_eq_true (by omega)
      have hV := Lib.hid (show V = false by rw [HV.out, canB, decide_eq_false h8]; simp)
      go_wp2_with (go_at_call 69; refine HW.out.mono ?_; rintro e w3 ⟨rfl, m3, hw3⟩; have K3 := HK.out.call (Drawn.below ⟨m3, hw3⟩ _); have f3 := K3.sb.c3; clear hw3)
      go_ret
      exact ⟨by rw [hV.out]; rfl, K3.bl⟩
end Go.Proofs.YtjlpmfimbgbcmaaDoor
