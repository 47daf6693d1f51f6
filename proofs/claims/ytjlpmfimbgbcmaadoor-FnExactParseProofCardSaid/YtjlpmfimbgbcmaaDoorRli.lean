/-
  The reference's l31List.
-/
import Derived.Test.YtjlpmfimbgbcmaaDoorRsp
import Derived.Test.YtjlpmfimbgbcmaaDoorCml
namespace Go.Proofs.YtjlpmfimbgbcmaaDoor
open Go.RowKit

theorem dj_ss {w : World} {B B' : Nat} {u v : Value} {xs : List ByteArray} {ys : List Int} (hu : OwS w B u xs) (hv : Own 2 w B' v ys) : Dj u v := by
  unfold Dj
  rcases hu.row.2 with ⟨rfl, _⟩ | ⟨g, cap, cur, rfl, _, hg, _⟩
  · exact .inl rfl
  · refine .inr fun e => ?_
    rcases hv.row.2 with ⟨rfl, _⟩ | ⟨g', cap', cur', rfl, _, hg', _⟩
    · cases e
    · have e' : g = g' := by simpa [Value.ownBlock] using e
      subst e'
      rw [hg] at hg'
      simp at hg'

theorem i64_val {x : ByteArray} (h : 0 ≤ val x) : I64 (val x) := by
  have := val_lt h
  constructor <;> omega

set_option maxHeartbeats 400000 in
set_option maxRecDepth 100000 in
theorem c_l31List {s : ByteArray} (hs : s.size < 4294967281) (w : World) : Calls Tryd.prog 53 #[.string s] w (fun e w' => ∃ v, e = .returned (.tuple #[v, .bool (clist s).isSome]) ∧ Below w.heap.size w w' ∧
      (∀ zs, clist s = some zs → Own 2 w' w.heap.size v zs) ∧ (clist s = none → v = .slice none 0 0)) := by
  have HSP := Lib.hid (fun W => c_l01Split hs 44 W)
  have HCV := Lib.hid (fun (x : ByteArray) (h : x.size < 4294967281) W => c_l01Value h W)
  have hcb := Lib.countB_le ⟨#[44]⟩ (Nat.le_refl _) s.size s (Nat.le_refl _)
  have hpl := pcs_len 44 s
  have hps := Lib.hid (fun x hx => pcs_size 44 _ s (Nat.le_refl _) x hx)
  by_cases h0 : s.size = 0
  · have hl : s.toList.isEmpty = true := by
      rw [ByteArray.toList_eq, List.isEmpty_iff]
      exact List.length_eq_zero_iff.1 (by simpa using h0)
    have HC := Lib.hid (show clist s = some [] by unfold clist; rw [if_pos h0])
    obtain ⟨q, hq⟩ : ∃ q, q = clist s := ⟨_, rfl⟩
    rw [← hq] at HC ⊢
    clear hq h0 hpl hcb
    go_enter Tryd.func53, Tryd.ntmps53
    go_wp2_with fail
    go_ret2
    refine ⟨.slice (some ⟨w.heap.size, 0, none⟩) 0 0, by rw [HC.out]; rfl, (Below.refl _ w).alloc (Nat.le_refl _) _, fun zs hz => ?_, fun hz => by rw [HC.out] at hz; cases hz⟩
    rw [HC.out] at hz; cases hz
    exact Own.empty _ w _ (Nat.le_refl _)
  · have hl : s.toList.isEmpty = false := by
      rw [ByteArray.toList_eq, List.isEmpty_eq_false_iff]
      exact fun e => h0 (by have := congrArg List.length e; simpa using this)
    have HCN := Lib.hid (fun (h : ¬ ∀ x ∈ pcs 44 s, 0 ≤ val x) => (show clist s = none by unfold clist; rw [if_neg h0, if_neg h]))
    have HCS := Lib.hid (fun (h : ∀ x ∈ pcs 44 s, 0 ≤ val x) => (show clist s = some ((pcs 44 s).map val) by unfold clist; rw [if_neg h0, if_pos h]))
    obtain ⟨q, hq⟩ : ∃ q, q = clist s := ⟨_, rfl⟩
    obtain ⟨xs, hxs⟩ : ∃ xs, xs = pcs 44 s := ⟨_, rfl⟩
    rw [← hq] at HCN HCS ⊢
    rw [← hxs] at HCN HCS hps hpl HSP
    have hx2 : xs.length ≤ 4294967290 := by omega
    clear hq hxs hpl hcb h0
    go_enter Tryd.func53, Tryd.ntmps53
    go_wp2_with fail
    refine (HSP.out _).mono ?_
    rintro e w1 ⟨u, rfl, o1, b1⟩
    have B1 : Below w.heap.size w w1 := bel_next ((Below.refl _ w).alloc (Nat.le_refl _) _) b1
    obtain ⟨ao, co, rfl⟩ := o1.shape
    have OE := (Own.empty 2 w w.heap.size (Nat.le_refl _)).kept b1
    have HOU := Lib.hid (o1.mono (B' := w.heap.size) (by simp))
    clear o1 b1
    go_wp2_with fail
    go_loopw [4, 6, 7] (fun o i _ wr => ∃ k : Nat, i = .int .i64 (k : Int) ∧ k ≤ xs.length ∧ Own 2 wr w.heap.size o ((xs.take k).map val) ∧ Below w.heap.size w wr ∧ OwS wr w.heap.size (.slice ao xs.length co) xs ∧ Hid (∀ x ∈ xs.take k, 0 ≤ val x)) (fun _ i _ _ => xs.length - (intOf i).toNat)
    case atStart => exact ⟨0, rfl, Nat.zero_le _, OE, B1, HOU.out, Lib.hid (fun x hx => by simp at hx)⟩
    case round =>
      obtain ⟨k, rfl, hk, ho, hb, hb1, HG⟩ := hrel
      have hlen : ((xs.take k).map val).length = k := by simp; omega
      obtain ⟨a4, c4, rfl⟩ := ho.shape
      rw [hlen] at ho ⊢
      have k0 : (0 : Int) ≤ (k : Int) := by omega
      have HO := Lib.hid ho
      have HB := Lib.hid hb
      have HB1 := Lib.hid hb1
      by_cases hlt : k < xs.length
      · obtain ⟨ao', bo, oo, co', he, ha, hcc⟩ := hb1.sl.ex
        injection he with he1 he2 he3
        subst he1 he3
        obtain rfl := ha (by omega)
        have k1 : (k : Int) < (xs.length : Int) := by omega
        have d1 : decide ((k : Int) < (xs.length : Int)) = true := decide_eq_true k1
        have d1' : decide (k < xs.length) = true := decide_eq_true hlt
        have c1 : wr.cell? ⟨bo, oo + k, none⟩ = some (.string xs[k]) := hcc k hlt
        obtain ⟨x, hx⟩ : ∃ x, x = xs[k] := ⟨_, rfl⟩
        have hmem : x ∈ xs := by rw [hx]; exact List.getElem_mem hlt
        have htk : xs.take (k + 1) = xs.take k ++ [x] := by rw [hx, List.take_succ_eq_append_getElem hlt]
        rw [← hx] at c1
        have hxz := hps.out x hmem
        have HV := Lib.hid (HCV.out x (by omega))
        by_cases hv : 0 ≤ val x
        · have HI := Lib.hid (i64_val hv)
          have HT := Lib.hid htk
          have HG2 := Lib.hid (show ∀ y ∈ xs.take (k + 1), 0 ≤ val y by
            rw [htk]
            intro y hy
            rcases List.mem_append.1 hy with h | h
            · exact HG.out y h
            · simp at h; rw [h]; exact hv)
          have hw0 := hb.size
          obtain ⟨V, hV⟩ : ∃ V, V = val x := ⟨_, rfl⟩
          rw [← hV] at HV hv HI
          have HVV := Lib.hid hV
          have dv : decide (V < 0) = false := decide_eq_false (by omega)
          clear hV htk hx ho hb hb1 hmem hxz hcc ha
          go_wp2_with fail
          refine (HV.out _).mono ?_
          rintro e w2 ⟨rfl, rfl⟩
          go_wp2_with (at_builtin; refine hold ?_)
          refine app1 HO.out HI.out (by rw [hlen]; omega) (by omega) Tryd.underlying42 infoInt64 (by rfl) _ _ (by rfl) (by rfl) (by rfl) ?_
          intro v' w' ho2 hg
          have hb2 : Below w.heap.size w w' := hg.below HB.out (by omega) (fun q hq => (HO.out.lt q hq).1)
          have hk2 : OwS w' w.heap.size _ xs := ⟨ownsRow_grew HB1.out.row hg (dj_ss HB1.out HO.out), HB1.out.len⟩
          obtain ⟨a5, c5, rfl⟩ := ho2.shape
          have HO2 := Lib.hid (show Own 2 w' w.heap.size (.slice a5 (k + 1) c5) ((xs.take (k + 1)).map val) by
            have h := ho2
            rw [List.length_append, hlen] at h
            rw [HT.out, List.map_append]
            rw [HVV.out] at h
            exact h)
          have HB2 := Lib.hid hb2
          have HK2 := Lib.hid hk2
          clear ho2 hb2 hg hk2
          go_wp2_with fail
          go_roundw
          case rel => exact ⟨k + 1, by go_num, by omega, by have h := HO2.out; first | exact h | simpa [hlen] using h, HB2.out, HK2.out, HG2⟩
          case measure => simp [intOf]; omega
        · have HF := Lib.hid (HCN.out (fun h => hv (h x hmem)))
          have dv : decide (val x < 0) = true := decide_eq_true (by omega)
          clear ho hb hb1 hcc ha hx htk hmem hxz
          go_wp2_with fail
          refine (HV.out _).mono ?_
          rintro e w2 ⟨rfl, rfl⟩
          go_wp2_with fail
          go_ret2
          exact ⟨.slice none 0 0, by rw [HF.out]; rfl, HB.out, (fun zs hz => by rw [HF.out] at hz; cases hz), fun _ => rfl⟩
      · have d1 : decide ((k : Int) < (xs.length : Int)) = false := decide_eq_false (by omega)
        have d1' : decide (k < xs.length) = false := decide_eq_false hlt
        have hkx : k = xs.length := by omega
        have HF := Lib.hid (HCS.out (by
          have := HG.out
          rwa [hkx, List.take_length] at this))
        have HO3 := Lib.hid (show Own 2 wr w.heap.size (.slice a4 k c4) (xs.map val) by
          have h := HO.out
          rw [hkx, List.take_length] at h
          rw [hkx]; exact h)
        clear ho hb hb1 hkx
        go_wp2_with fail
        go_ret2
        refine ⟨.slice a4 k c4, by rw [HF.out]; rfl, HB.out, fun zs hz => ?_, fun hz => by rw [HF.out] at hz; cases hz⟩
        rw [HF.out] at hz; cases hz
        exact HO3.out
end Go.Proofs.YtjlpmfimbgbcmaaDoor
