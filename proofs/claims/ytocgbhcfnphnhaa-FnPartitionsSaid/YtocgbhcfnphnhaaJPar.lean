/-
  Chapter 1: JoinPartitions of program and reference.
-/
import Derived.Test.YtocgbhcfnphnhaaCoeq
import Derived.Test.YtocgbhcfnphnhaaSets5
namespace Go.Proofs.Ytocgbhcfnphnhaa
open Go.RowKit Go.Maps

theorem joinL_append (a b : List (List Int)) : ∀ ls, joinL (a ++ b) ls = joinL b (joinL a ls) := by
  induction a with
  | nil => intro ls; rfl
  | cons q r ih => intro ls; exact ih _
/-- Each element with the first one of its class. -/
def fpr (p : List Int) (k : Nat) : List (List Int) := (List.range k).map fun (i : Nat) => [ix p (gi p i), (i : Int)]
theorem fpr_length (p : List Int) (k : Nat) : (fpr p k).length = k := by simp [fpr]
theorem fpr_succ (p : List Int) (k : Nat) : fpr p (k + 1) = fpr p k ++ [[ix p (gi p k), (k : Int)]] := by simp [fpr, List.range_succ]
theorem gr_fpr {p : List Int} {k i : Nat} (h : i < k) : gr (fpr p k) i = [ix p (gi p i), (i : Int)] := by
  rw [gr_lt (by rw [fpr_length]; exact h)]; simp [fpr]
theorem ix_here {p : List Int} {k : Nat} (h : k < p.length) : ix p (gi p k) = if ix (p.take k) (gi p k) < 0 then (k : Int) else ix (p.take k) (gi p k) := by
  have e : p = p.take k ++ p.drop k := (List.take_append_drop k p).symm
  have hl : (p.take k).length = k := by simp; omega
  have e2 : ix p (gi p k) = ix (p.take k ++ p.drop k) (gi p k) := by rw [← e]
  rw [e2, ix_append, drop_gi h, ixF_cons, if_pos rfl, hl]
theorem ix_in {p : List Int} {k : Nat} (h : k < p.length) : 0 ≤ ix p (gi p k) ∧ ix p (gi p k) < p.length := by
  rw [ix_here h]
  have := ix_bd (p.take k) (gi p k)
  have hl : (p.take k).length = k := by simp; omega
  split <;> omega
theorem seen_old {p : List Int} {k : Nat} (h : k < p.length) (hn : ¬ ix (p.take k) (gi p k) < 0) : seenAt (p.take (k + 1)) = seenAt (p.take k) := by
  funext q
  unfold seenAt
  rw [take_gi h, ix_append, ixF_cons, ixF_nil]
  by_cases e : gi p k = q
  · subst e
    rw [if_neg hn, if_neg hn]
  · rw [if_neg e]
    by_cases h2 : ix (p.take k) q < 0
    · rw [if_pos h2, if_pos h2, if_pos (by omega)]
    · rw [if_neg h2, if_neg h2]
theorem seen_new {p : List Int} {k : Nat} (h : k < p.length) (hn : ix (p.take k) (gi p k) < 0) : (fun q => if q = gi p k then some (k : Int) else seenAt (p.take k) q) = seenAt (p.take (k + 1)) := by
  have hl : (p.take k).length = k := by simp; omega
  have e := seenAt_snoc hn
  rw [hl] at e
  rw [e, take_gi h]
def both (p q : List Int) : Nat → List (List Int)
  | 0 => []
  | 1 => fpr p p.length
  | _ => fpr p p.length ++ fpr q q.length
def jparR (p q : List Int) : List Int × Int := if twoParts p q = true then (cls (joinL (fpr p p.length ++ fpr q q.length) (upto p.length)), 0) else ([], 1)
theorem MapI.within {P : Program} {k e : TypeId} {w w' : World} {b c : Nat} {F : Int → Option Int} {B T : Nat} (h : MapI P k e w b c F) (hb : Within B T w w') (hg : b < B ∨ T ≤ b) : MapI P k e w' b c F := by
  obtain ⟨n, D, ho, r⟩ := h.ex
  obtain ⟨es, clock, hb', rest⟩ := ho
  exact ⟨n, D, ⟨es, clock, by rw [hb.block b hg (Array.getElem?_eq_some_iff.1 hb').1]; exact hb', rest⟩, r⟩
set_option maxHeartbeats 1000000 in
theorem i_JoinPartitions {w : World} {u v : Value} {p q : List Int} (hp : IS w u p) (hq : IS w v q) : Calls Try.prog 15 #[u, v] w (Mk2 2 w (jparR p q)) := by
  have Hm := Lib.hid (c_pairOfPartitions hp hq)
  obtain ⟨ao, b, o, c, rfl, ha, hc⟩ := hp.ex
  obtain ⟨ao', b', o', c', rfl, ha', hc'⟩ := hq.ex
  have l1 := hp.len
  have l2 := hq.len
  have hwf := hp.wf
  have hwf' := hq.wf
  clear hp hq
  by_cases h1 : twoParts p q = true
  · have h1' := h1
    simp [twoParts] at h1'
    obtain ⟨hp1, hp2⟩ := isPart_bd h1'.1
    obtain ⟨N, hN⟩ : ∃ N, p.length = N := ⟨_, rfl⟩
    have hlen : p.length ≤ N ∧ N ≤ p.length ∧ q.length ≤ N ∧ N ≤ q.length ∧ N ≤ 4294967295 := by omega
    have HN := Lib.hid hN
    have H1 := Lib.hid h1
    clear h1' hp1 hp2 hN
    have hmm := @run_makeMap Try.prog
    go_enter Try.func15, Try.ntmps15
    go_wp2_with fail
    refine Hm.out.mono ?_
    rintro e w1 ⟨rfl, b1⟩
    replace b1 : Below w.heap.size w w1 := b1
    clear Hm
    go_wp2_with fail
    refine (show Calls Try.prog 49 #[.int .i64 (p.length : Int)] w1 _ from by rw [HN.out]; exact c_joinerOf N (by omega) w1).mono ?_
    rintro e w2 ⟨rfl, jn, b2⟩
    have bj2 := b1.trans (b2.mono b1.size)
    have hs1 := b1.size
    clear b2
    go_wp2_with fail
    obtain ⟨gj, hgj⟩ : ∃ gj, gj = w1.heap.size := ⟨_, rfl⟩
    have hgw : w.heap.size ≤ gj := by omega
    rw [← hgj] at jn
    rw [← hgj]
    clear hgj b1 hs1 h1
    go_loopw [8, 9, 10, 11, 12, 13, 24] (fun _ _ _ _ _ _ i wr => ∃ (o : Nat) (R : Nat → Nat), o ≤ 2 ∧ i = .int .i64 o ∧ Below w.heap.size w wr ∧ w.heap.size ≤ wr.heap.size ∧ JN wr gj N R ∧ Hid (SameR N R (joinL (both p q o) (upto N)))) (fun _ _ _ _ _ _ i _ => 2 - (intOf i).toNat)
    case atStart => exact ⟨0, id, by omega, rfl, bj2, bj2.size, jn, SameR.start _⟩
    case round =>
      clear jn bj2
      obtain ⟨o, R, ho, rfl, hb, hw2, hj, hp⟩ := hrel
      have hoo : o = 0 ∨ o = 1 ∨ o = 2 := by omega
      rcases hoo with rfl | rfl | rfl
      · rw [show (((0 : Nat) : Int)) = 0 from rfl]
        have ix0 : ∀ w, (Instr.index 60 (.agg #[.slice ao p.length c, .slice ao' q.length c']) (.int .i64 0)).run Try.prog w = .ok (.slice ao p.length c) w := fun _ => by kernel_rfl
        go_wp2_with fail
        clear ix0
        obtain ⟨gm, hgm⟩ : ∃ gm, gm = wr.heap.size := ⟨_, rfl⟩
        have hb1 := bel_alloc hb (.map #[] 0)
        have hj1 := hj.kept (below_within (bel_alloc (Below.refl _ _) (.map #[] 0)) 0) (.inr (Nat.zero_le _))
        have hm1 := MapI.made Try.prog 2 2 wr
        have hjl := hj.lt
        rw [← hgm] at hm1 hjl
        rw [← hgm]
        have hgw2 : wr.heap.size ≤ gm ∧ gm ≤ wr.heap.size := by omega
        clear hgm hb hj
        clear hmm
        go_loopw [10, 11, 12, 13, 30] (fun _ _ _ _ i wr => ∃ (k c : Nat) (R : Nat → Nat), k ≤ p.length ∧ i = .int .i64 k ∧ Below w.heap.size w wr ∧ w.heap.size ≤ wr.heap.size ∧ gm < wr.heap.size ∧ c ≤ k ∧ JN wr gj N R ∧ MapI Try.prog 2 2 wr gm c (seenAt (p.take k)) ∧ Hid (SameR N R (joinL (both p q 0 ++ fpr p k) (upto N)))) (fun _ _ _ _ i _ => p.length - (intOf i).toNat)
        case atStart => exact ⟨0, 0, R, Nat.zero_le _, rfl, hb1, by simp; omega, by simp; omega, Nat.le_refl _, hj1, hm1, by unfold Hid; simpa [fpr] using hp.out⟩
        case round =>
          clear hb1 hj1 hm1
          obtain ⟨k, c, R, hk, rfl, hb, hw2, hgm2, hck, hj, hm, hp⟩ := hrel
          by_cases hlt : k < p.length
          · obtain rfl := ha (by omega)
            have cx := IS.cellAt hb (hc k hlt) rfl
            have hxi : I64 (gi p k) := gi_I64 hwf k
            have hix := Lib.hid (ix_here hlt)
            have hll : (p.take k).length = k := by simp; omega
            rcases ix_bd (p.take k) (gi p k) with hi | ⟨hi0, hi1⟩
            · have hneg : ix (p.take k) (gi p k) < 0 := by omega
              have hF : seenAt (p.take k) (gi p k) = none := by unfold seenAt; rw [if_pos hneg]
              have hlk := hm.lookNo Try.underlying2 Try.underlying2 Try.underlying61 (zeroI64 _) hxi hF
              have HSN := Lib.hid (seen_new hlt hneg)
              have HF := Lib.hid hF
              have HM := Lib.hid hm
              have HE : Hid (ix p (gi p k) = k) := by unfold Hid; rw [hix.out, if_pos hneg]
              clear hF hi hneg hm hll hix
              go_wp2_with (at_mapUpdate; refine hold ?_)
              clear hlk
              refine mapPut (z := (k : Int)) HM.out Try.underlying2 Try.underlying2 Try.underlying61 hxi (by constructor <;> omega) HF.out (by omega) (by rfl) _ _ _ (by rfl) (by rfl) (by rfl) (by rfl) ?_
              intro w2 hm2 hg2
              rw [HSN.out] at hm2
              have hb2 : Below w.heap.size w w2 := hb.grown hg2 (by omega) (fun k hk => by cases hk; omega)
              have hsz := hb2.size
              have hj2 : JN w2 gj N R := by
                obtain ⟨js, hr, hpp⟩ := hj
                exact ⟨js, hr.of_block (hg2.block _ hr.lt (by simp; omega)), hpp⟩
              have hgm3 := hm2.lt
              have HS : Hid (SameR N R (joinL (both p q 0 ++ fpr p (k + 1)) (upto N))) := by
                unfold Hid
                rw [fpr_succ, ← List.append_assoc, joinL_snoc, HE.out]
                show SameR N R (relabel (gi _ ((k : Int)).toNat) (gi _ ((k : Int)).toNat) _)
                rw [relabel_same]; exact hp.out
              clear hb hj hg2 HM HF HSN HE hp cx
              go_wp2_with fail
              go_roundw
              case rel => exact ⟨k + 1, c + 1, R, by omega, by go_num, hb2, by omega, by omega, by omega, hj2, hm2, HS⟩
              case measure => simp [intOf]; omega
            · have hn : ¬ ix (p.take k) (gi p k) < 0 := by omega
              obtain ⟨x, hx⟩ := Int.eq_ofNat_of_zero_le hi0
              have hF : seenAt (p.take k) (gi p k) = some (x : Int) := by unfold seenAt; rw [if_neg hn, hx]
              have hlk := hm.lookYes Try.underlying2 Try.underlying2 Try.underlying61 (zeroI64 _) hxi hF
              have hxn : x < N := by omega
              have hkn : k < N := by omega
              have HE : Hid (ix p (gi p k) = (x : Int)) := by unfold Hid; rw [hix.out, if_neg hn, hx]
              have HSN := Lib.hid (seen_old hlt hn)
              have HM := Lib.hid hm
              clear hn hF hi0 hi1 hx hm hll hix
              go_wp2_with fail
              refine (c_join hj (by omega) x k hxn hkn).mono ?_
              rintro e w3 ⟨rfl, hj4, hw3⟩
              clear hlk
              have hb4 := hw3.below hb hgw (Nat.le_refl _)
              have hsz4 := hw3.size
              have hm4 : MapI Try.prog 2 2 w3 gm c (seenAt (p.take (k + 1))) := by
                rw [HSN.out]
                exact HM.out.within hw3 (by omega)
              have HS : Hid (SameR N (joinR R (R x) (R k)) (joinL (both p q 0 ++ fpr p (k + 1)) (upto N))) := by
                unfold Hid
                rw [fpr_succ, ← List.append_assoc, joinL_snoc, HE.out]
                exact hp.out.join hxn hkn
              clear hw3 hj hb HM HE HSN hp cx
              go_wp2_with fail
              go_roundw
              case rel => exact ⟨k + 1, c, _, by omega, by go_num, hb4, by omega, by omega, by omega, hj4, hm4, HS⟩
              case measure => simp [intOf]; omega
          · have hke : p.length = k := by omega
            subst hke
            have HS : Hid (SameR N R (joinL (both p q 1) (upto N))) := hp.out
            clear hp hm
            go_wp2_with fail
            go_roundw
            case rel => exact ⟨1, R, by omega, by rfl, hb, hw2, hj, HS⟩
            case measure => simp [intOf]
      · rw [show (((1 : Nat) : Int)) = 1 from rfl]
        have ix0 : ∀ w, (Instr.index 60 (.agg #[.slice ao p.length c, .slice ao' q.length c']) (.int .i64 1)).run Try.prog w = .ok (.slice ao' q.length c') w := fun _ => by kernel_rfl
        go_wp2_with fail
        clear ix0
        obtain ⟨gm, hgm⟩ : ∃ gm, gm = wr.heap.size := ⟨_, rfl⟩
        have hb1 := bel_alloc hb (.map #[] 0)
        have hj1 := hj.kept (below_within (bel_alloc (Below.refl _ _) (.map #[] 0)) 0) (.inr (Nat.zero_le _))
        have hm1 := MapI.made Try.prog 2 2 wr
        have hjl := hj.lt
        rw [← hgm] at hm1 hjl
        rw [← hgm]
        have hgw2 : wr.heap.size ≤ gm ∧ gm ≤ wr.heap.size := by omega
        clear hgm hb hj
        clear hmm
        go_loopw [10, 11, 12, 13, 30] (fun _ _ _ _ i wr => ∃ (k c : Nat) (R : Nat → Nat), k ≤ q.length ∧ i = .int .i64 k ∧ Below w.heap.size w wr ∧ w.heap.size ≤ wr.heap.size ∧ gm < wr.heap.size ∧ c ≤ k ∧ JN wr gj N R ∧ MapI Try.prog 2 2 wr gm c (seenAt (q.take k)) ∧ Hid (SameR N R (joinL (both p q 1 ++ fpr q k) (upto N)))) (fun _ _ _ _ i _ => q.length - (intOf i).toNat)
        case atStart => exact ⟨0, 0, R, Nat.zero_le _, rfl, hb1, by simp; omega, by simp; omega, Nat.le_refl _, hj1, hm1, by unfold Hid; simpa [fpr] using hp.out⟩
        case round =>
          clear hb1 hj1 hm1
          obtain ⟨k, c, R, hk, rfl, hb, hw2, hgm2, hck, hj, hm, hp⟩ := hrel
          by_cases hlt : k < q.length
          · obtain rfl := ha' (by omega)
            have cx := IS.cellAt hb (hc' k hlt) rfl
            have hxi : I64 (gi q k) := gi_I64 hwf' k
            have hix := Lib.hid (ix_here hlt)
            have hll : (q.take k).length = k := by simp; omega
            rcases ix_bd (q.take k) (gi q k) with hi | ⟨hi0, hi1⟩
            · have hneg : ix (q.take k) (gi q k) < 0 := by omega
              have hF : seenAt (q.take k) (gi q k) = none := by unfold seenAt; rw [if_pos hneg]
              have hlk := hm.lookNo Try.underlying2 Try.underlying2 Try.underlying61 (zeroI64 _) hxi hF
              have HSN := Lib.hid (seen_new hlt hneg)
              have HF := Lib.hid hF
              have HM := Lib.hid hm
              have HE : Hid (ix q (gi q k) = k) := by unfold Hid; rw [hix.out, if_pos hneg]
              clear hF hi hneg hm hll hix
              go_wp2_with (at_mapUpdate; refine hold ?_)
              clear hlk
              refine mapPut (z := (k : Int)) HM.out Try.underlying2 Try.underlying2 Try.underlying61 hxi (by constructor <;> omega) HF.out (by omega) (by rfl) _ _ _ (by rfl) (by rfl) (by rfl) (by rfl) ?_
              intro w2 hm2 hg2
              rw [HSN.out] at hm2
              have hb2 : Below w.heap.size w w2 := hb.grown hg2 (by omega) (fun k hk => by cases hk; omega)
              have hsz := hb2.size
              have hj2 : JN w2 gj N R := by
                obtain ⟨js, hr, hpp⟩ := hj
                exact ⟨js, hr.of_block (hg2.block _ hr.lt (by simp; omega)), hpp⟩
              have hgm3 := hm2.lt
              have HS : Hid (SameR N R (joinL (both p q 1 ++ fpr q (k + 1)) (upto N))) := by
                unfold Hid
                rw [fpr_succ, ← List.append_assoc, joinL_snoc, HE.out]
                show SameR N R (relabel (gi _ ((k : Int)).toNat) (gi _ ((k : Int)).toNat) _)
                rw [relabel_same]; exact hp.out
              clear hb hj hg2 HM HF HSN HE hp cx
              go_wp2_with fail
              go_roundw
              case rel => exact ⟨k + 1, c + 1, R, by omega, by go_num, hb2, by omega, by omega, by omega, hj2, hm2, HS⟩
              case measure => simp [intOf]; omega
            · have hn : ¬ ix (q.take k) (gi q k) < 0 := by omega
              obtain ⟨x, hx⟩ := Int.eq_ofNat_of_zero_le hi0
              have hF : seenAt (q.take k) (gi q k) = some (x : Int) := by unfold seenAt; rw [if_neg hn, hx]
              have hlk := hm.lookYes Try.underlying2 Try.underlying2 Try.underlying61 (zeroI64 _) hxi hF
              have hxn : x < N := by omega
              have hkn : k < N := by omega
              have HE : Hid (ix q (gi q k) = (x : Int)) := by unfold Hid; rw [hix.out, if_neg hn, hx]
              have HSN := Lib.hid (seen_old hlt hn)
              have HM := Lib.hid hm
              clear hn hF hi0 hi1 hx hm hll hix
              go_wp2_with fail
              refine (c_join hj (by omega) x k hxn hkn).mono ?_
              rintro e w3 ⟨rfl, hj4, hw3⟩
              clear hlk
              have hb4 := hw3.below hb hgw (Nat.le_refl _)
              have hsz4 := hw3.size
              have hm4 : MapI Try.prog 2 2 w3 gm c (seenAt (q.take (k + 1))) := by
                rw [HSN.out]
                exact HM.out.within hw3 (by omega)
              have HS : Hid (SameR N (joinR R (R x) (R k)) (joinL (both p q 1 ++ fpr q (k + 1)) (upto N))) := by
                unfold Hid
                rw [fpr_succ, ← List.append_assoc, joinL_snoc, HE.out]
                exact hp.out.join hxn hkn
              clear hw3 hj hb HM HE HSN hp cx
              go_wp2_with fail
              go_roundw
              case rel => exact ⟨k + 1, c, _, by omega, by go_num, hb4, by omega, by omega, by omega, hj4, hm4, HS⟩
              case measure => simp [intOf]; omega
          · have hke : q.length = k := by omega
            subst hke
            have HS : Hid (SameR N R (joinL (both p q 2) (upto N))) := hp.out
            clear hp hm
            go_wp2_with fail
            go_roundw
            case rel => exact ⟨2, R, by omega, by rfl, hb, hw2, hj, HS⟩
            case measure => simp [intOf]
      · go_wp2_with fail
        refine (show Calls _ _ _ _ _ from c_partition hj (by omega)).mono ?_
        rintro e w2 ⟨u2, rfl, o2, hw3⟩
        have hb2 := hw3.below hb hgw (Nat.le_refl _)
        clear hw3
        go_wp2_with fail
        go_ret2
        exact mk2_own (by rw [jparR, if_pos H1.out, hp.out.cls, ← HN.out]; rfl) (o2.own.base hw2) hb2
  · have H1 := Lib.hid h1
    go_enter Try.func15, Try.ntmps15
    go_wp2_with fail
    refine Hm.out.mono ?_
    rintro e w1 ⟨rfl, b1⟩
    go_wp2_with fail
    go_ret2
    exact mk2_nil (by rw [jparR, if_neg H1.out]) b1
section
variable {P : Program} {w : World}
/-- append(v, u...), both slices of slices of the call's own. -/
theorem appSS2 {E E' t : TypeId} {B N M g n cap : Nat} {v : Value} {L1 L2 : List (List Int)} (hv : OF E E' B N w v L1.length (gr L1)) (hu : OF E E' N M w (.slice (some ⟨g, 0, none⟩) n cap) L2.length (gr L2)) (hnn : n = L2.length) (hne : E ≠ E') (hBN : B ≤ N) (hNw : N ≤ w.heap.size) (hM : M ≤ w.heap.size) (hl : L1.length + L2.length ≤ 4294967296)
    (ht : P.underlying t = some (.slice E')) (hinfo : (P.info? E').map (fun i => (i.zero, i.size, i.bytes)) = some (some (.slice none 0 0), 1, 24))
    {ops : Array Oper} {rest : List Oper} {o : Oper} {a : Act} {Q : Exit → Act → World → Prop} (hgd : o.guard = none) (s y : Operand)
    (ho : o.op = .call { callee := .builtin .append, args := #[s, y], argTypes := #[t, t] })
    (hs : a.eval s = v) (hy : a.eval y = .slice (some ⟨g, 0, none⟩) n cap)
    (h : ∀ v' w', ISS w' v' (L1 ++ L2) → Grew w w' v v' → wpList P ops Q rest (a.put o.dst v') w') : Hold (wpList P ops Q (o :: rest) a w) := by
  show wpList P ops Q (o :: rest) a w
  subst hnn
  obtain ⟨i, hi, hz0, hz1, hz2⟩ := info_parts hinfo
  obtain ⟨V, h1, h2, h3, h4, h5⟩ := hv
  obtain ⟨V', k1, k2, k3, k4, k5⟩ := hu
  refine wpList_append_own2 hgd s y t ho B E' i (.slice none 0 0) 1 24 ht hi hz0 hz1 hz2 rfl (by decide) v _ _ hs h1 ⟨g, 0, none⟩ L2.length cap ((List.range L2.length).map V') hy (by simp) ?_ ?_ ?_ ?_ ?_ ?_
  · intro j x hj
    have hjl : j < L2.length := by
      have := (List.getElem?_eq_some_iff.1 hj).1
      simpa using this
    rw [show (Addr.add ⟨g, 0, none⟩ j) = ⟨g, j, none⟩ from by by_cases e : j = 0 <;> simp [Addr.add, e]]
    rw [k1.cellAt j (by omega), hj]
  · intro x hx
    simp only [List.mem_map, List.mem_range] at hx
    obtain ⟨j, hj, rfl⟩ := hx
    rcases (k3 j hj).own.row.2 with ⟨e, _⟩ | ⟨g, cap, cur, e, _⟩ <;> rw [e] <;> rfl
  · unfold maxLen; omega
  · omega
  · omega
  · intro v' w' m2 m3
    have hdj : ∀ j, j < L2.length → Dj (V' j) v := fun j hj => (Dj.of_lt h2 (fun k hk => ((k3 j hj).lt k hk).1)).symm
    refine h v' w' ⟨?_, by simp; omega⟩ m3
    have hrd : ∀ j, j < (L1 ++ L2).length → IS w' (if j < L1.length then V j else V' (j - L1.length)) (gr (L1 ++ L2) j) := by
      intro j hj
      rw [List.length_append] at hj
      by_cases e : j < L1.length
      · rw [if_pos e]
        have e2 : gr (L1 ++ L2) j = gr L1 j := by rw [gr_lt (by simp; omega), gr_lt e, List.getElem_append_left e]
        rw [e2]
        exact ((h3 j e).grew m3 (h5 j e)).is
      · rw [if_neg e]
        have e2 : gr (L1 ++ L2) j = gr L2 (j - L1.length) := by rw [gr_lt (by simp; omega), gr_lt (by omega), List.getElem_append_right (by omega)]
        rw [e2]
        exact ((k3 _ (by omega)).grew m3 (hdj _ (by omega))).is
    rcases m2.2 with ⟨rfl, hn⟩ | ⟨g', cap', cur', rfl, hB, hg, hn, hc, hs', ht'⟩
    · refine ⟨none, 0, 0, 0, _, by rw [List.length_append, hn], fun h0 => ?_, fun j hj => ?_, hrd⟩
      · rw [List.length_append] at h0; omega
      · rw [List.length_append] at hj; omega
    · refine ⟨some ⟨g', 0, none⟩, g', 0, cap', _, by rw [List.length_append], fun _ => rfl, fun j hj => ?_, hrd⟩
      rw [List.length_append] at hj
      rw [Nat.zero_add, m2.cellAt j (by omega)]
      by_cases e : j < L1.length
      · rw [List.getElem?_append_left (by simpa using e)]; simp [e]
      · rw [List.getElem?_append_right (by simp; omega), List.length_map, List.length_range, List.getElem?_map, List.getElem?_range (by omega)]; simp [e]
end
theorem c_l01Pairs {w : World} {v : Value} {p : List Int} (h : IS w v p) (hl : p.length ≤ 65536) : Calls Try.prog 55 #[v] w (Mk w fun w' u => OF 2 24 w.heap.size w'.heap.size w' u (fpr p p.length).length (gr (fpr p p.length)) ∧ ∃ g c, u = .slice (some ⟨g, 0, none⟩) (fpr p p.length).length c) := by
  have HI := Lib.hid h
  obtain ⟨ao, b, o, c, rfl, ha, hc⟩ := h.ex
  clear h
  go_enter Try.func55, Try.ntmps55
  go_wp2_with fail
  go_loopw [3, 4] (fun out i wr => ∃ (k g9 c9 : Nat) (L : List (List Int)), k ≤ p.length ∧ i = .int .i64 k ∧ Below w.heap.size w wr ∧ w.heap.size ≤ wr.heap.size ∧ OF 2 24 w.heap.size wr.heap.size wr out L.length (gr L) ∧ out = .slice (some ⟨g9, 0, none⟩) L.length c9 ∧ L.length ≤ k ∧ Hid (L = fpr p k)) (fun _ i _ => p.length - (intOf i).toNat)
  case atStart => exact ⟨0, w.heap.size, 0, [], Nat.zero_le _, rfl, bel_alloc (Below.refl _ _) _, by simp, by rw [World.size_alloc]; exact OF.empty (Nat.le_refl _) rfl, rfl, Nat.zero_le _, rfl⟩
  case round =>
    obtain ⟨k, g9, c9, L, hk, rfl, hb, hw2, ho, rfl, hL, hp⟩ := hrel
    by_cases hlt : k < p.length
    · obtain rfl := ha (by omega)
      have cx := IS.cellAt hb (hc k hlt) rfl
      have hix := ix_in hlt
      have HI2 := Lib.hid (HI.out.kept hb)
      go_wp2_with (first | (go_at_call 73; (with_reducible refine (c_l01Index HI2.out _).mono ?_); rintro e w' ⟨rfl, n1, rfl⟩) | (at_builtin; refine hold ?_))
      clear cx HI2
      generalize hwq : wr.drewN n1 = wq
      have hdq : Drawn wr wq := by subst hwq; exact Drawn.step (Drawn.refl _) _
      have hsq : wq.heap.size = wr.heap.size := by subst hwq; rfl
      replace hb := hb.trans (hdq.below _)
      replace ho := ho.keptB (hdq.below _)
      clear hwq hdq
      refine appSS (by decide) (ho.alloc _) (OwnT.lit2' (a := ix p (gi p k)) (b := (k : Int)) (by constructor <;> omega) (by constructor <;> omega) hsq) hw2 (by rw [World.size_alloc, hsq]; omega) (by omega) Try.underlying34 infoInts (by rfl) _ _ (by rfl) (by rfl) (by rfl) (by rw [World.size_alloc, hsq]) ?_
      intro v' w4 ho4 g4
      have g4' := g4.of_alloc
      have hsz4 := g4'.grown.size
      have hb4 := g4'.below hb (by omega) (fun k hk => by obtain ⟨V, h1, _⟩ := ho; exact (h1.lt k hk).1)
      have ho5 := ho4.snoc
      obtain ⟨ao9, g8, c8, V9, hv9, hg8, -, -⟩ := ho5.opened
      obtain ⟨rfl, -⟩ := hg8 (by simp)
      have HO4 := Lib.hid ho5
      have HV := Lib.hid hv9
      clear g4 g4' ho4 ho5 ho hb V9 hg8 hv9
      go_wp2_with fail
      go_roundw
      case rel => exact ⟨k + 1, g8, c8, _, by omega, by go_num, hb4, by omega, HO4.out, HV.out, by simp; omega, by unfold Hid; rw [fpr_succ, hp.out]⟩
      case measure => simp [intOf]; omega
    · have hke : p.length = k := by omega
      subst hke
      obtain rfl := hp.out
      clear hL
      go_wp2_with fail
      go_ret
      exact ⟨_, rfl, ⟨ho, g9, c9, rfl⟩, hb⟩
set_option maxHeartbeats 1000000 in
theorem s_JoinPartitions {w : World} {u v : Value} {p q : List Int} (hp : IS w u p) (hq : IS w v q) : Calls Try.prog 17 #[u, v] w (Mk2 2 w (jparR p q)) := by
  have Hm := Lib.hid (c_l01Both hp hq)
  have HP := Lib.hid hp
  have HQ := Lib.hid hq
  obtain ⟨ao, b, o, c, rfl, ha, hc⟩ := hp.ex
  obtain ⟨ao', b', o', c', rfl, ha', hc'⟩ := hq.ex
  have l1 := hp.len
  have l2 := hq.len
  have hwf := hp.wf
  have hwf' := hq.wf
  clear hp hq
  by_cases h1 : twoParts p q = true
  · have h1' := h1
    simp [twoParts] at h1'
    obtain ⟨hp1, hp2⟩ := isPart_bd h1'.1
    have hlen : p.length ≤ q.length ∧ q.length ≤ p.length ∧ p.length ≤ 256 := by omega
    have H1 := Lib.hid h1
    clear h1' hp1 hp2
    go_enter Try.func17, Try.ntmps17
    go_wp2_with fail
    refine Hm.out.mono ?_
    rintro e w1 ⟨rfl, b1⟩
    replace b1 : Below w.heap.size w w1 := b1
    have hs1 := b1.size
    clear Hm
    go_wp2_with fail
    refine (c_l01Pairs (HP.out.kept b1) (by omega)).mono ?_
    rintro e w2 ⟨u2, rfl, ⟨o2, g2, c2, rfl⟩, b2⟩
    have hs2 := b2.size
    have bb2 := b1.trans (b2.mono hs1)
    go_wp2_with fail
    refine (c_l01Pairs (HQ.out.kept bb2) (by omega)).mono ?_
    rintro e w3 ⟨u3, rfl, ⟨o3, g3, c3, rfl⟩, b3⟩
    have hs3 := b3.size
    have bb3 := bb2.trans (b3.mono (by omega))
    have o2' := o2.keptB b3
    have hf1 := fpr_length p p.length
    have hf2 := fpr_length q q.length
    clear b2 b3 o2
    have HF1 := Lib.hid hf1
    have HF2 := Lib.hid hf2
    clear hf1 hf2
    go_wp2_with (at_builtin; refine hold ?_)
    refine appSS2 o2' o3 rfl (by decide) hs2 hs3 (Nat.le_refl _) (by rw [HF1.out, HF2.out]; omega) Try.underlying34 infoInts (by rfl) _ _ (by rfl) (by rfl) (by rfl) ?_
    intro v' w4 hi4 g4
    have hb4 := g4.below bb3 (by omega) (fun k hk => by obtain ⟨V, k1, _⟩ := o2'; have := (k1.lt k hk).1; omega)
    have HI4 := Lib.hid hi4
    have hs4 := hb4.size
    clear hi4 g4 o2' o3 bb3 bb2 b1 h1
    have HOK : Hid (PairsOk p.length (fpr p p.length ++ fpr q q.length)) := by
      intro i hi
      rw [List.length_append, HF1.out, HF2.out] at hi
      by_cases e : i < p.length
      · have e2 : gr (fpr p p.length ++ fpr q q.length) i = [ix p (gi p i), (i : Int)] := by
          rw [gr_lt (by rw [List.length_append, HF1.out]; omega), List.getElem_append_left (by rw [HF1.out]; exact e), ← gr_lt, gr_fpr e]
        have := ix_in e
        rw [e2]
        exact ⟨rfl, this.1, this.2, by show (0 : Int) ≤ (i : Int); omega, by show (i : Int) < _; omega⟩
      · have e2 : gr (fpr p p.length ++ fpr q q.length) i = [ix q (gi q (i - p.length)), ((i - p.length : Nat) : Int)] := by
          rw [gr_lt (by rw [List.length_append, HF1.out, HF2.out]; omega), List.getElem_append_right (by rw [HF1.out]; omega), ← gr_lt, gr_fpr (by rw [HF1.out]; omega), HF1.out]
        have := ix_in (show i - p.length < q.length by omega)
        rw [e2]
        refine ⟨rfl, this.1, ?_, ?_, ?_⟩
        · show ix q _ < _
          omega
        · show (0 : Int) ≤ ((i - p.length : Nat) : Int)
          omega
        · show ((i - p.length : Nat) : Int) < _
          omega
    go_wp2_with fail
    refine (c_l01Join HI4.out p.length (by omega) HOK.out).mono ?_
    rintro e w5 ⟨u5, rfl, o5, b5⟩
    go_wp2_with fail
    go_ret2
    exact mk2_own (by rw [jparR, if_pos H1.out]) (o5.own.base hs4) (hb4.trans (b5.mono hs4))
  · have H1 := Lib.hid h1
    go_enter Try.func17, Try.ntmps17
    go_wp2_with fail
    refine Hm.out.mono ?_
    rintro e w1 ⟨rfl, b1⟩
    go_wp2_with fail
    go_ret2
    exact mk2_nil (by rw [jparR, if_neg H1.out]) b1
end Go.Proofs.Ytocgbhcfnphnhaa
