/-
  Chapter 1: l01Index, l01Same, l01Classes, isNormal, IsPartition of program and reference.
-/
import Derived.Test.YtocgbhcfnphnhaaSets1
import Derived.Test.YtocgbhcfnphnhaaSetsPlain
import Derived.Test.YtocgbhcfnphnhaaApp
namespace Go.Proofs.Ytocgbhcfnphnhaa
open Go.RowKit

theorem c_l01Index {w : World} {v : Value} {xs : List Int} (h : IS w v xs) (x : Int) : Calls Try.prog 73 #[v, .int .i64 x] w (Rd w (.int .i64 (ix xs x))) := by
  obtain ⟨ao, b, o, c, rfl, ha, hc⟩ := h.ex
  have hlen := h.len
  clear h
  go_enter Try.func73, Try.ntmps73
  go_wp2
  go_loopw [5] (fun i wr => ∃ k m : Nat, k ≤ xs.length ∧ i = .int .i64 k ∧ wr = w.drewN m ∧ Hid (ix xs x = ixF x (xs.drop k) k)) (fun i _ => xs.length - (intOf i).toNat)
  case atStart => exact ⟨0, 0, Nat.zero_le _, rfl, rfl, rfl⟩
  case round =>
    obtain ⟨k, m, hk, rfl, rfl, hp⟩ := hrel
    by_cases hlt : k < xs.length
    · obtain rfl := ha (by omega)
      have cx := hc k hlt
      clear hc
      have hs := Lib.hid (drop_gi hlt)
      by_cases he : gi xs k = x
      · have hb : (gi xs k == x) = true := by simp [he]
        have HE := Lib.hid he
        clear he
        go_wp2
        go_ret
        exact rd_int (by rw [hp.out, hs.out, ixF_cons, if_pos HE.out]) (by repeat (first | exact Drawn.refl _ | refine Drawn.step ?_ _ | refine Drawn.one ?_))
      · have hb : (gi xs k == x) = false := by simp [he]
        have HE := Lib.hid he
        clear he
        go_wp2
        go_roundw
        case rel => exact ⟨k + 1, _, by omega, by go_num, rfl, by unfold Hid; rw [hp.out, hs.out, ixF_cons, if_neg HE.out]; rfl⟩
        case measure => simp [intOf]; omega
    · have hk' : k = xs.length := by omega
      subst hk'
      go_wp2_with fail
      go_ret
      exact rd_int (by rw [hp.out, List.drop_length, ixF_nil]) (by repeat (first | exact Drawn.refl _ | refine Drawn.step ?_ _ | refine Drawn.one ?_))
theorem c_l01Same {w : World} {u v : Value} {xs ys : List Int} (hu : IS w u xs) (hv : IS w v ys) :
    Calls Try.prog 77 #[u, v] w (Rd w (.bool (xs == ys))) := by
  obtain ⟨ao, b, o, c, rfl, ha, hc⟩ := hu.ex
  obtain ⟨ao', b', o', c', rfl, ha', hc'⟩ := hv.ex
  have hlen := hu.len
  have hlen' := hv.len
  clear hu hv
  by_cases hl : xs.length = ys.length
  · have hlb : ((xs.length : Int) != (ys.length : Int)) = false := by simp [hl]
    have HL := Lib.hid hl
    clear hl
    go_enter Try.func77, Try.ntmps77
    go_wp2
    go_loopw [5] (fun i wr => ∃ k m : Nat, k ≤ xs.length ∧ i = .int .i64 k ∧ wr = w.drewN m ∧ Hid ((xs == ys) = (xs.drop k == ys.drop k))) (fun i _ => xs.length - (intOf i).toNat)
    case atStart => exact ⟨0, 0, Nat.zero_le _, rfl, rfl, rfl⟩
    case round =>
      obtain ⟨k, m, hk, rfl, rfl, hp⟩ := hrel
      by_cases hlt : k < xs.length
      · have hlt' : k < ys.length := by have := HL.out; omega
        obtain rfl := ha (by omega)
        obtain rfl := ha' (by omega)
        have cx := hc k hlt
        have cy := hc' k hlt'
        clear hc hc'
        have hs := Lib.hid (eq_step hlt hlt')
        by_cases he : gi xs k = gi ys k
        · have hne : (gi xs k != gi ys k) = false := by simp [he]
          have HE := Lib.hid he
          clear he
          go_wp2_with fail
          go_quiet (fail)
          go_wp2
          go_roundw
          case rel => exact ⟨k + 1, _, by omega, by go_num, rfl, by unfold Hid; rw [hp.out, hs.out.1 HE.out]⟩
          case measure => simp [intOf]; omega
        · have hne : (gi xs k != gi ys k) = true := by simp [he]
          have HE := Lib.hid he
          clear he
          go_wp2_with fail
          go_quiet (fail)
          go_wp2
          go_ret
          exact rd_bool (by rw [hp.out, hs.out.2 HE.out]) (by repeat (first | exact Drawn.refl _ | refine Drawn.step ?_ _ | refine Drawn.one ?_))
      · have hk' : k = xs.length := by omega
        subst hk'
        go_wp2
        go_ret
        refine rd_bool ?_ (by repeat (first | exact Drawn.refl _ | refine Drawn.step ?_ _ | refine Drawn.one ?_))
        have := HL.out
        rw [hp.out, List.drop_length, this, List.drop_length]; rfl
  · have hlb : ((xs.length : Int) != (ys.length : Int)) = true := by simp; omega
    go_enter Try.func77, Try.ntmps77
    go_wp2
    go_ret
    exact rd_bool (beq_false_of_length hl) (by repeat (first | exact Drawn.refl _ | refine Drawn.step ?_ _ | refine Drawn.one ?_))
theorem upto_I64 {n : Nat} {y : Int} (h : 0 ≤ y) (h2 : y < n) (hn : n ≤ 4294967296) : I64 y := ⟨by omega, by omega⟩
theorem c_l01Classes {w : World} {v : Value} {xs : List Int} (h : IS w v xs) (hlen : xs.length < 4294967296) :
    Calls Try.prog 53 #[v] w (Mk w fun w' u => OwnT 2 w.heap.size w'.heap.size w' u (cls xs)) := by
  obtain ⟨ao, b, o, c, rfl, ha, hc⟩ := h.ex
  have hwf := h.wf
  clear h
  go_enter Try.func53, Try.ntmps53
  go_wp2
  go_loopw [3, 4, 5, 6] (fun out seen i _ wr => ∃ (k : Nat) (os ss : List Int), k ≤ xs.length ∧ i = .int .i64 k ∧ Below w.heap.size w wr ∧ Own 2 wr w.heap.size out os ∧ Own 2 wr w.heap.size seen ss ∧
      Hid (Dj out seen ∧ os.length = k ∧ cls xs = os ++ clsG (xs.drop k) ss) ∧ ss.length ≤ k) (fun _ _ i _ _ => xs.length - (intOf i).toNat)
  case atStart => exact ⟨0, [], [], Nat.zero_le _, rfl, bel_alloc (bel_alloc (Below.refl _ _) _) _, (Own.empty _ _ _ (Nat.le_refl _)).alloc _, Own.empty' (le_alloc _ _) (World.size_alloc _ _), ⟨Dj.lit (by omega), rfl, rfl⟩, Nat.le_refl _⟩
  case round =>
    obtain ⟨k, os, ss, hk, rfl, hb, ho, hsn, hp, hsl⟩ := hrel
    by_cases hlt : k < xs.length
    · obtain rfl := ha (by omega)
      have hx := hc k hlt
      have cx := IS.cellAt hb hx rfl
      have hxi := gi_I64 hwf k
      have hw0 := hb.size
      have hs := Lib.hid (drop_gi hlt)
      go_wp2_with fail
      refine (c_l01Index hsn.is _).mono ?_
      rintro e w1 ⟨rfl, d1⟩
      have b1 := d1.below wr.heap.size
      have hw1 := b1.size
      replace hb := hb.trans (b1.mono hw0)
      replace ho := ho.kept b1
      replace hsn := hsn.kept b1
      have cx := IS.cellAt hb hx rfl
      clear b1 d1 hc
      obtain ⟨asn, csn, hsv⟩ := hsn.shape
      rcases ix_bd ss (gi xs k) with hi | ⟨hi0, hi1⟩
      · have HI := Lib.hid hi
        have hneg : ix ss (gi xs k) < 0 := by omega
        clear hi
        subst hsv
        go_wp2_with (at_builtin; refine hold ?_)
        refine app1 hsn hxi (by omega) (by omega) Try.underlying24 infoInt64 (by rfl) _ _ (by rfl) (by rfl) (by rfl) ?_
        intro v' w2 hsn' g2
        have hw2 := g2.grown.size
        have hb' := g2.below hb (by omega) (fun k hk => (hsn.lt k hk).1)
        have ho' := ho.grew g2 hp.out.1
        have hd' := Lib.hid (hp.out.1.grew g2 (fun k hk => (ho.lt k hk).2))
        clear hsn g2 hb cx ho hx
        go_wp2_with (at_builtin; refine hold ?_)
        have hpl : os.length = k := hp.out.2.1
        refine app1 ho' (by constructor <;> omega) (by omega) (by omega) Try.underlying24 infoInt64 (by rfl) _ _ (by rfl) (by rfl) (by rfl) ?_
        intro v'' w3 ho3 g3
        have hb3 := g3.below hb' (by omega) (fun k hk => (ho'.lt k hk).1)
        have hsn3 := hsn'.grew g3 hd'.out.symm
        have hd3 := hd'.out.symm.grew g3 (fun k hk => (hsn'.lt k hk).2)
        have HP := Lib.hid hpl
        clear ho' g3 hb' hsn' hpl
        go_wp2_with fail
        go_roundw
        case rel =>
          refine ⟨k + 1, _, _, by omega, by go_num, hb3, ho3, hsn3, ⟨hd3.symm, by simp [HP.out], ?_⟩, by simp; omega⟩
          rw [hp.out.2.2, hs.out]
          rw [clsG, if_pos hneg, List.append_assoc]; rfl
        case measure => simp [intOf]; omega
      · subst hsv
        go_wp2_with (at_builtin; refine hold ?_)
        have hpl : os.length = k := hp.out.2.1
        refine app1 ho (by constructor <;> omega) (by omega) (by omega) Try.underlying24 infoInt64 (by rfl) _ _ (by rfl) (by rfl) (by rfl) ?_
        intro v'' w3 ho3 g3
        have hb3 := g3.below hb (by omega) (fun k hk => (ho.lt k hk).1)
        have hsn3 := hsn.grew g3 hp.out.1.symm
        have hd3 := hp.out.1.symm.grew g3 (fun k hk => (hsn.lt k hk).2)
        have HP := Lib.hid hpl
        clear ho g3 hb hsn hpl
        go_wp2_with fail
        go_roundw
        case rel =>
          refine ⟨k + 1, _, _, by omega, by go_num, hb3, ho3, hsn3, ⟨hd3.symm, by simp [HP.out], ?_⟩, by omega⟩
          rw [hp.out.2.2, hs.out]
          rw [clsG, if_neg (by omega), List.append_assoc]; rfl
        case measure => simp [intOf]; omega
    · have hk' : k = xs.length := by omega
      subst hk'
      go_wp2_with fail
      go_ret
      have := hp.out.2.2
      rw [List.drop_length, clsG, List.append_nil] at this
      exact ⟨_, rfl, by rw [this]; exact ho.top, hb⟩
theorem c_isNormal {w : World} {v : Value} {xs : List Int} (h : IS w v xs) : Calls Try.prog 58 #[v] w (Rd w (.bool (nrm xs 0))) := by
  obtain ⟨ao, b, o, c, rfl, ha, hc⟩ := h.ex
  have hlen := h.len
  clear h
  go_enter Try.func58, Try.ntmps58
  go_wp2
  go_loopw [3, 5, 8] (fun q _ i wr => ∃ k m t : Nat, k ≤ xs.length ∧ i = .int .i64 k ∧ wr = w.drewN m ∧ q = .int .i64 t ∧ t ≤ k ∧ Hid (nrm xs 0 = nrm (xs.drop k) t)) (fun _ _ i _ => xs.length - (intOf i).toNat)
  case atStart => exact ⟨0, 0, 0, Nat.zero_le _, rfl, rfl, rfl, Nat.le_refl _, rfl⟩
  case round =>
    obtain ⟨k, m, t, hk, rfl, rfl, rfl, ht, hp⟩ := hrel
    by_cases hlt : k < xs.length
    · obtain rfl := ha (by omega)
      have cx := hc k hlt
      clear hc
      have hs := Lib.hid (drop_gi hlt)
      by_cases he : 0 ≤ gi xs k ∧ gi xs k ≤ t
      · have hb : inR (gi xs k) 0 t = true := by simp [inR, he]
        by_cases hq : gi xs k = t
        · have hqb : (gi xs k == (t : Int)) = true := by simp [hq]
          have HQ := Lib.hid hq
          have HE := Lib.hid he
          clear hq he
          go_wp2_with (go_at_call 43; refine (c_inRange _ _ _ _).mono ?_; rintro e w' ⟨rfl, n1, rfl⟩)
          go_roundw
          case rel => exact ⟨k + 1, _, t + 1, by omega, by go_num, rfl, by go_num, by omega, by unfold Hid; rw [hp.out, hs.out, nrm, if_pos HE.out, if_pos HQ.out]; rfl⟩
          case measure => simp [intOf]; omega
        · have hqb : (gi xs k == (t : Int)) = false := by simp [hq]
          have HQ := Lib.hid hq
          have HE := Lib.hid he
          clear hq he
          go_wp2_with (go_at_call 43; refine (c_inRange _ _ _ _).mono ?_; rintro e w' ⟨rfl, n1, rfl⟩)
          go_roundw
          case rel => exact ⟨k + 1, _, t, by omega, by go_num, rfl, by go_num, by omega, by unfold Hid; rw [hp.out, hs.out, nrm, if_pos HE.out, if_neg HQ.out]⟩
          case measure => simp [intOf]; omega
      · have hb : inR (gi xs k) 0 t = false := by simp [inR]; omega
        have HE := Lib.hid he
        clear he
        go_wp2_with (go_at_call 43; refine (c_inRange _ _ _ _).mono ?_; rintro e w' ⟨rfl, n1, rfl⟩)
        go_ret
        exact rd_bool (by rw [hp.out, hs.out, nrm, if_neg HE.out]) (by repeat (first | exact Drawn.refl _ | refine Drawn.step ?_ _ | refine Drawn.one ?_))
    · have hk' : k = xs.length := by omega
      subst hk'
      go_wp2_with fail
      go_ret
      exact rd_bool (by rw [hp.out, List.drop_length, nrm]) (by repeat (first | exact Drawn.refl _ | refine Drawn.step ?_ _ | refine Drawn.one ?_))
theorem c_IsPartition {w : World} {v : Value} {xs : List Int} (h : IS w v xs) : Calls Try.prog 19 #[v] w (Rd w (.bool (isPart xs))) := by
  have hc := c_isNormal h
  obtain ⟨ao, b, o, c, rfl, -, -⟩ := h.ex
  have hlen := h.len
  clear h
  by_cases hl : xs.length ≤ 256
  all_goals
    go_enter Try.func19, Try.ntmps19
    go_wp2_with (go_at_call 58; refine hc.mono ?_; rintro e w' ⟨rfl, n1, rfl⟩)
    go_ret
    exact rd_bool (by rw [isPart_nrm]; simp [hl]) (by repeat (first | exact Drawn.refl _ | refine Drawn.step ?_ _ | refine Drawn.one ?_))
theorem i_IsPartition {w : World} {v : Value} {xs : List Int} (h : IS w v xs) : Calls Try.prog 19 #[v] w (Ret w (.bool (isPart xs))) := (c_IsPartition h).mono fun _ _ h => rd_ret h
theorem s_IsPartition {w : World} {v : Value} {xs : List Int} (h : IS w v xs) : Calls Try.prog 72 #[v] w (Ret w (.bool (isPart xs))) := by
  by_cases hl : xs.length ≤ 256
  · have hc := c_l01Classes h (by omega)
    obtain ⟨ao, b, o, c, hv, -, -⟩ := h.ex
    have hlen := h.len
    have hI := Lib.hid h
    clear h
    subst hv
    go_enter Try.func72, Try.ntmps72
    go_wp2_with fail
    refine hc.mono ?_
    rintro e w1 ⟨u1, rfl, o1, b1⟩
    clear hc
    go_wp2_with fail
    refine (c_l01Same (hI.out.kept b1) o1.is).mono ?_
    rintro e w2 ⟨rfl, d2⟩
    go_wp2_with fail
    go_ret
    exact ⟨by simp [isPart, hl], b1.trans (d2.below _)⟩
  · obtain ⟨ao, b, o, c, rfl, -, -⟩ := h.ex
    have hlen := h.len
    clear h
    go_enter Try.func72, Try.ntmps72
    go_wp2_with fail
    go_ret
    exact ⟨by simp [isPart, hl], Below.refl _ _⟩
end Go.Proofs.Ytocgbhcfnphnhaa
