/-
  Chapters 5, 11, 13: idempotents, terminal objects, IsIso: program and reference.
-/
import Derived.Test.YtkmkbmhpdnddnaaCat7
namespace Go.Proofs.Ytkmkbmhpdnddnaa
open Go.RowKit

def hasB (xs : List Int) (x : Int) : Bool := xs.any fun y => y == x
theorem hasB_iff {xs : List Int} {x : Int} : hasB xs x = true ↔ x ∈ xs := by simp [hasB]
theorem hasB_step {x : Int} {xs : List Int} {k : Nat} (h : k < xs.length) : hasB (xs.drop k) x = ((gi xs k == x) || hasB (xs.drop (k + 1)) x) := by
  rw [drop_gi h]; rfl
theorem c_l01Has {w : World} {v : Value} {xs : List Int} (h : IS w v xs) (x : Int) : Calls Try.prog 102 #[v, .int .i64 x] w (Rd w (.bool (hasB xs x))) := by
  obtain ⟨ao, b, o, c, rfl, ha, hc⟩ := h.ex
  have hlen := h.len
  clear h
  go_enter Try.func102, Try.ntmps102
  go_wp2
  go_loopw [5] (fun i wr => ∃ k m : Nat, k ≤ xs.length ∧ i = .int .i64 k ∧ wr = w.drewN m ∧ Hid (hasB xs x = hasB (xs.drop k) x)) (fun i _ => xs.length - (intOf i).toNat)
  case atStart => exact ⟨0, 0, Nat.zero_le _, rfl, rfl, rfl⟩
  case round =>
    obtain ⟨k, m, hk, rfl, rfl, hp⟩ := hrel
    by_cases hlt : k < xs.length
    · obtain rfl := ha (by omega)
      have cx := hc k hlt
      clear hc
      have hs := Lib.hid (hasB_step (x := x) hlt)
      by_cases he : gi xs k = x
      · have heb : (gi xs k == x) = true := by simp [he]
        have HE := Lib.hid he
        clear he
        go_wp2
        go_ret
        exact rd_bool (by rw [hp.out, hs.out]; simp [HE.out]) (by repeat (first | exact Drawn.refl _ | refine Drawn.step ?_ _ | refine Drawn.one ?_))
      · have heb : (gi xs k == x) = false := by simp [he]
        have HE := Lib.hid heb
        clear he
        go_wp2
        go_roundw
        case rel => exact ⟨k + 1, _, by omega, by go_num, rfl, by unfold Hid; rw [hp.out, hs.out, HE.out]; rfl⟩
        case measure => simp [intOf]; omega
    · have hk' : k = xs.length := by omega
      subst hk'
      go_wp2_with fail
      go_ret
      exact rd_bool (by rw [hp.out, List.drop_length]; rfl) (by repeat (first | exact Drawn.refl _ | refine Drawn.step ?_ _ | refine Drawn.one ?_))
/-- The idempotents. -/
def idP (c : Cat) (e : Nat) : Bool := c.M e e == (e : Int)
def idemL (c : Cat) : List Int := sel (idP c) c.fr.length
set_option maxHeartbeats 800000 in
theorem c_idempotents {w1 : World} {b : Nat} {c : Cat} (P : PC w1 b c) (S : Shape c) : Calls Try.prog 74 #[.pointer (some ⟨b, 0, none⟩)] w1 (Mk w1 fun w' u => OwnT 2 w1.heap.size w'.heap.size w' u (idemL c)) := by
  obtain ⟨aF, aT, aI, aC, bF, oF, kF, bT, oT, kT, bI, oI, kI, bC, oC, kC, bR, oR, kR, V⟩ := P.opens
  have lF := V.iF.len
  have c1 := V.c1
  have lb : b < w1.heap.size := World.block_lt_of_cell? _ _ c1
  have SH := Lib.hid S
  clear P S
  go_enter Try.func74, Try.ntmps74
  go_wp2_with fail
  clear c1
  go_loopw [3, 4, 11] (fun out _ i wr => ∃ (k : Nat) (os : List Int), k ≤ c.fr.length ∧ i = .int .i64 k ∧ Below w1.heap.size w1 wr ∧ Own 2 wr w1.heap.size out os ∧ os.length ≤ k ∧ Hid (os = sel (idP c) k)) (fun _ _ i _ => c.fr.length - (intOf i).toNat)
  case atStart => exact ⟨0, [], Nat.zero_le _, rfl, bel_alloc (Below.refl _ _) _, Own.empty _ _ _ (Nat.le_refl _), Nat.le_refl _, rfl⟩
  case round =>
    obtain ⟨k, os, hk, rfl, hb, ho, hol, hp⟩ := hrel
    have V2 := V.kept hb
    have c1 := V2.c1
    by_cases hlt : k < c.fr.length
    · have hw0 := hb.size
      have hA : c.Arr k := ⟨by omega, by unfold Cat.m; omega⟩
      obtain ⟨rfl, rfl, rfl, rfl⟩ := V.som SH.out (by omega)
      have c4 := V2.c4
      have cR := V2.row SH.out hA
      have cM := V2.cM SH.out hA hA
      simp only [Int.toNat_natCast] at cR cM
      have l5 : k < c.cm.length := by rw [SH.out.cl]; exact hlt
      by_cases he : c.M k k = k
      · have heb : (c.M k k == (k : Int)) = true := by simp [he]
        have HE : Hid (idP c k = true) := heb
        clear he
        go_wp2_with (at_builtin; refine hold ?_)
        refine app1 ho (by constructor <;> omega) (by omega) (by first | omega | (simp; omega)) Try.underlying22 infoInt64 (by rfl) _ _ (by rfl) (by rfl) (by rfl) ?_
        intro v' w2 ho2 g2
        have hb2 := g2.below hb (by first | omega | (simp; omega)) (fun k hk => (ho.lt k hk).1)
        clear g2 ho hb c1 c4 cR cM
        go_wp2_with fail
        go_roundw
        case rel => exact ⟨k + 1, _, by omega, by go_num, hb2, ho2, by simp; omega, by unfold Hid; rw [sel_yes HE.out, ← hp.out]⟩
        case measure => simp [intOf]; omega
      · have heb : (c.M k k == (k : Int)) = false := by simp [he]
        have HE : Hid (idP c k = false) := heb
        clear he
        go_wp2_with fail
        go_roundw
        case rel => exact ⟨k + 1, _, by omega, by go_num, hb, ho, by omega, by unfold Hid; rw [sel_no HE.out, ← hp.out]⟩
        case measure => simp [intOf]; omega
    · have hke : c.fr.length = k := by omega
      have HE : Hid (os = idemL c) := by unfold Hid idemL; rw [hke]; exact hp.out
      have hkb : decide ((k : Int) < (c.fr.length : Int)) = false := by simp; omega
      go_wp2_with fail
      go_ret
      refine ⟨_, rfl, ?_, hb⟩
      rw [← HE.out]
      exact (ho).top
set_option maxHeartbeats 800000 in
theorem c_l11Idempotents {w : World} {v : Value} {c : Cat} (h : IC w v c) (S : Shape c) : Calls Try.prog 72 #[v] w (Mk w fun w' u => OwnT 2 w.heap.size w'.heap.size w' u (idemL c)) := by
  have lF := h.lF
  have SH := Lib.hid S
  clear S
  obtain ⟨aF, aT, aI, aC, bF, oF, kF, bT, oT, kT, bI, oI, kI, bC, oC, kC, bR, oR, kR, rfl, V⟩ := h.boxed 29
  have B : Bel w (w.alloc (.cells #[.int .i64 c.n, .slice aF c.fr.length kF, .slice aT c.to.length kT, .slice aI c.id.length kI, .slice aC c.cm.length kC] 29)) := bel_box w _
  have ZB := Lib.hid (show (w.alloc (.cells #[.int .i64 c.n, .slice aF c.fr.length kF, .slice aT c.to.length kT, .slice aI c.id.length kI, .slice aC c.cm.length kC] 29)).heap.size = w.heap.size + 1 from by simp)
  clear h
  go_enter Try.func72, Try.ntmps72
  go_wp2_with fail
  generalize w.alloc (.cells #[.int .i64 c.n, .slice aF c.fr.length kF, .slice aT c.to.length kT, .slice aI c.id.length kI, .slice aC c.cm.length kC] 29) = w1 at *
  generalize w.heap.size = b at *
  have c0 := V.c0
  have c1 := V.c1
  have c2 := V.c2
  have c3 := V.c3
  have c4 := V.c4
  clear c0 c1 c2 c3 c4
  have HB : Hid (w.heap.size ≤ w1.heap.size) := B.size
  try go_wp2_with fail
  go_loopw [3, 4] (fun out i wr => ∃ (k : Nat) (os : List Int), k ≤ c.fr.length ∧ i = .int .i64 k ∧ Below w1.heap.size w1 wr ∧ Own 2 wr w1.heap.size out os ∧ os.length ≤ k ∧ Hid (os = sel (idP c) k)) (fun _ i _ => c.fr.length - (intOf i).toNat)
  case atStart => exact ⟨0, [], Nat.zero_le _, rfl, bel_alloc (Below.refl _ _) _, Own.empty' (Nat.le_refl _) ZB.out, Nat.le_refl _, rfl⟩
  case round =>
    obtain ⟨k, os, hk, rfl, hb, ho, hol, hp⟩ := hrel
    have V2 := V.kept hb
    have c1 := V2.c1
    by_cases hlt : k < c.fr.length
    · have hw0 := hb.size
      have hA : c.Arr k := ⟨by omega, by unfold Cat.m; omega⟩
      obtain ⟨rfl, rfl, rfl, rfl⟩ := V.som SH.out (by omega)
      have c0 := V2.c0
      have c1 := V2.c1
      have c2 := V2.c2
      have c3 := V2.c3
      have c4 := V2.c4
      have cF := V2.cF hA
      have cT := V2.cT SH.out hA
      simp only [Int.toNat_natCast] at cF cT
      have l2 : k < c.to.length := by rw [SH.out.tl]; exact hlt
      have VI := V2.ic
      by_cases ht : c.F k = c.T k
      · have htb : (c.F k == c.T k) = true := by simp [ht]
        have HT := Lib.hid ht
        clear ht
        by_cases he : c.M k k = k
        · have heb : (c.M k k == (k : Int)) = true := by simp [he]
          have HE : Hid (idP c k = true) := heb
          clear he
          go_wp2_with fail
          go_region_held3 (fun w' => Below wr.heap.size wr w' ∧ w'.cell? ⟨b, 0, none⟩ = some (.int .i64 c.n) ∧ w'.cell? ⟨b, 1, none⟩ = some (.slice (some ⟨bF, oF, none⟩) c.fr.length kF) ∧ w'.cell? ⟨b, 2, none⟩ = some (.slice (some ⟨bT, oT, none⟩) c.to.length kT) ∧ w'.cell? ⟨b, 3, none⟩ = some (.slice (some ⟨bI, oI, none⟩) c.id.length kI) ∧ w'.cell? ⟨b, 4, none⟩ = some (.slice (some ⟨bC, oC, none⟩) c.cm.length kC) ∧ w'.cell? ⟨bF, oF + k, none⟩ = some (.int .i64 (c.F k)) ∧ w'.cell? ⟨bT, oT + k, none⟩ = some (.int .i64 (c.T k)))
            (first | exact ⟨(Drawn.one (Drawn.refl _)).bel0, c0, c1, c2, c3, c4, cF, cT⟩ | (refine keep7 ?_ hb7; assumption) | (refine keep7 ?_ (bel_box _ _); assumption))
            (first | (go_at_call 104; (with_reducible refine (c_l02Then (VI.kept (And.left (by assumption))) SH.out hA hA).mono ?_); rintro e w' ⟨rfl, hb7⟩))
          obtain ⟨hbl, -⟩ := ‹Below wr.heap.size wr _ ∧ _›
          have hbx := bel_next hb hbl
          have hox := ho.kept hbl
          have hwx := hbx.size
          go_wp2_with (at_builtin; refine hold ?_)
          refine app1 hox (by constructor <;> omega) (by omega) (by first | omega | (simp; omega)) Try.underlying22 infoInt64 (by rfl) _ _ (by rfl) (by rfl) (by rfl) ?_
          intro v' w2 ho2 g2
          have hb2 := g2.below hbx (by first | omega | (simp; omega)) (fun k hk => (hox.lt k hk).1)
          clear g2 hox hbx
          go_wp2_with fail
          go_roundw
          case rel => exact ⟨k + 1, _, by omega, by go_num, hb2, ho2, by simp; omega, by unfold Hid; rw [sel_yes HE.out, ← hp.out]⟩
          case measure => simp [intOf]; omega
        · have heb : (c.M k k == (k : Int)) = false := by simp [he]
          have HE : Hid (idP c k = false) := heb
          clear he
          go_wp2_with fail
          go_region_held3 (fun w' => Below wr.heap.size wr w' ∧ w'.cell? ⟨b, 0, none⟩ = some (.int .i64 c.n) ∧ w'.cell? ⟨b, 1, none⟩ = some (.slice (some ⟨bF, oF, none⟩) c.fr.length kF) ∧ w'.cell? ⟨b, 2, none⟩ = some (.slice (some ⟨bT, oT, none⟩) c.to.length kT) ∧ w'.cell? ⟨b, 3, none⟩ = some (.slice (some ⟨bI, oI, none⟩) c.id.length kI) ∧ w'.cell? ⟨b, 4, none⟩ = some (.slice (some ⟨bC, oC, none⟩) c.cm.length kC) ∧ w'.cell? ⟨bF, oF + k, none⟩ = some (.int .i64 (c.F k)) ∧ w'.cell? ⟨bT, oT + k, none⟩ = some (.int .i64 (c.T k)))
            (first | exact ⟨(Drawn.one (Drawn.refl _)).bel0, c0, c1, c2, c3, c4, cF, cT⟩ | (refine keep7 ?_ hb7; assumption) | (refine keep7 ?_ (bel_box _ _); assumption))
            (first | (go_at_call 104; (with_reducible refine (c_l02Then (VI.kept (And.left (by assumption))) SH.out hA hA).mono ?_); rintro e w' ⟨rfl, hb7⟩))
          obtain ⟨hbl, -⟩ := ‹Below wr.heap.size wr _ ∧ _›
          have hbx := bel_next hb hbl
          have hox := ho.kept hbl
          go_wp2_with fail
          go_roundw
          case rel => exact ⟨k + 1, _, by omega, by go_num, hbx, hox, by omega, by unfold Hid; rw [sel_no HE.out, ← hp.out]⟩
          case measure => simp [intOf]; omega
      · have htb : (c.F k == c.T k) = false := by simp [ht]
        have HE : Hid (idP c k = false) := by
          unfold Hid idP
          rw [SH.out.mN k k hA hA (fun q => ht q.symm)]
          simp <;> omega
        clear ht
        go_wp2_with fail
        go_quiet (fail)
        go_wp2_with fail
        go_roundw
        case rel => exact ⟨k + 1, _, by omega, by go_num, (bel_next hb (Drawn.step (Drawn.refl _) _).bel0), (ho.kept (Drawn.step (Drawn.refl _) _).bel0), by omega, by unfold Hid; rw [sel_no HE.out, ← hp.out]⟩
        case measure => simp [intOf]; omega
    · have hke : c.fr.length = k := by omega
      have HE : Hid (os = idemL c) := by unfold Hid idemL; rw [hke]; exact hp.out
      have hkb : decide ((k : Int) < (c.fr.length : Int)) = false := by simp; omega
      go_wp2_with fail
      go_ret
      refine ⟨_, rfl, ?_, B.next hb⟩
      rw [← HE.out]
      exact (ho.base HB.out).top
/-- What IdempotentArrows returns. -/
noncomputable def idemsR (c : Cat) : List Int × Int := if catB c then (idemL c, 0) else ([], 1)
/-- The terminal objects. -/
def one (c : Cat) (x : Int) (y : Nat) : Bool := (homL c (y : Int) x).length == 1
def termP (c : Cat) (x : Nat) : Bool := (List.range c.n.toNat).all (one c x)
def termL (c : Cat) : List Int := sel (termP c) c.n.toNat
theorem all_step {p : Nat → Bool} {k : Nat} : (List.range (k + 1)).all p = ((List.range k).all p && p k) := by simp [List.range_succ]
theorem all_no {p : Nat → Bool} {k n : Nat} (h : k < n) (hp : p k = false) : (List.range n).all p = false := by
  rw [Bool.eq_false_iff]
  intro h2
  rw [List.all_eq_true] at h2
  have := h2 k (List.mem_range.2 h)
  rw [hp] at this; cases this
set_option maxHeartbeats 800000 in
theorem c_terminal {w1 : World} {b : Nat} {c : Cat} (P : PC w1 b c) (S : Shape c) : Calls Try.prog 68 #[.pointer (some ⟨b, 0, none⟩)] w1 (Mk w1 fun w' u => OwnT 2 w1.heap.size w'.heap.size w' u (termL c)) := by
  obtain ⟨aF, aT, aI, aC, bF, oF, kF, bT, oT, kT, bI, oI, kI, bC, oC, kC, bR, oR, kR, V⟩ := P.opens
  have n0 := S.n0
  have n8 := S.n8
  have lF := V.iF.len
  have SH := Lib.hid S.tl
  clear P S
  go_enter Try.func68, Try.ntmps68
  go_wp2_with fail
  go_step3
  go_wp2_with fail
  go_step3
  go_wp2_with fail
  go_loopw [3, 4, 5] (fun out i _ wr => ∃ (k : Nat) (os : List Int), (k : Int) ≤ c.n ∧ i = .int .i64 k ∧ Below w1.heap.size w1 wr ∧ Own 2 wr w1.heap.size out os ∧ os.length ≤ k ∧ Hid (os = sel (termP c) k)) (fun _ i _ _ => (c.n - intOf i).toNat)
  case atStart => exact ⟨0, [], by omega, rfl, bel_alloc (Below.refl _ _) _, Own.empty _ _ _ (Nat.le_refl _), Nat.le_refl _, rfl⟩
  case round =>
    obtain ⟨k, os, hk, rfl, hb, ho, hol, hp⟩ := hrel
    have c0 := (V.kept hb).c0
    by_cases hlt : (k : Int) < c.n
    · have hw0 := hb.size
      go_wp2_with fail
      clear c0
      obtain ⟨wo, rfl⟩ : ∃ wo : World, wo = wr := ⟨_, rfl⟩
      go_loopw [5] (fun i wr => ∃ (j : Nat), (j : Int) ≤ c.n ∧ i = .int .i64 j ∧ Below wo.heap.size wo wr ∧ Hid ((List.range j).all (one c k) = true)) (fun i _ => (c.n - intOf i).toNat)
      case atStart => exact ⟨0, by omega, rfl, Below.refl _ _, rfl⟩
      case round =>
        obtain ⟨j, hj, rfl, hbi, hq⟩ := hrel
        have c0 := (V.kept (bel_next hb hbi)).c0
        by_cases hlj : (j : Int) < c.n
        · go_wp2_with fail
          refine (c_hom (V.kept (bel_next hb hbi)).pc SH.out _ _).mono ?_
          rintro e w4 ⟨u, rfl, o4, b4⟩
          obtain ⟨ao, cc, rfl⟩ := o4.own.shape
          have hL := homL_le c j k
          have hb4 := bel_next hbi b4
          clear o4 b4 c0
          by_cases e1 : (homL c j k).length = 1
          · have e1b : (((homL c j k).length : Int) != 1) = false := by rw [e1]; rfl
            have E1 := Lib.hid e1
            clear e1
            go_wp2_with fail
            go_roundw
            case rel => exact ⟨j + 1, by omega, by go_num, hb4, by unfold Hid; rw [all_step, hq.out]; simp [one, E1.out]⟩
            case measure => simp [intOf]; omega
          · have e1b : (((homL c j k).length : Int) != 1) = true := by simp; omega
            have HE : Hid (termP c k = false) := all_no (k := j) (by omega) (by simp [one]; omega)
            clear e1
            go_wp2_with fail
            go_roundw
            case rel => exact ⟨k + 1, _, by omega, by go_num, bel_next hb hb4, ho.kept hb4, by omega, by unfold Hid; rw [sel_no HE.out, ← hp.out]⟩
            case measure => simp [intOf]; omega
        · have HE : Hid (termP c k = true) := by
            have : c.n.toNat = j := by omega
            unfold Hid termP; rw [this]; exact hq.out
          have hb2 := bel_next hb hbi
          have ho2 := ho.kept hbi
          have hw2 := hb2.size
          clear hq
          go_wp2_with (at_builtin; refine hold ?_)
          refine app1 ho2 (by constructor <;> omega) (by omega) (by first | omega | (simp; omega)) Try.underlying22 infoInt64 (by rfl) _ _ (by rfl) (by rfl) (by rfl) ?_
          intro v' wz ho3 g3
          have hb3 := g3.below hb2 (by first | omega | (simp; omega)) (fun k hk => (ho2.lt k hk).1)
          clear g3 ho2 hb2
          go_wp2_with fail
          go_roundw
          case rel => exact ⟨k + 1, _, by omega, by go_num, hb3, ho3, by simp; omega, by unfold Hid; rw [sel_yes HE.out, ← hp.out]⟩
          case measure => simp [intOf]; omega
    · have hke : (k : Int) = c.n := by omega
      have HE : Hid (os = termL c) := by
        have : c.n.toNat = k := by omega
        unfold Hid termL; rw [this]; exact hp.out
      go_wp2_with fail
      try rw [Exit.noGoto_ret]
      go_ret
      refine ⟨_, rfl, ?_, hb⟩
      rw [← HE.out]
      exact ho.top
set_option maxHeartbeats 800000 in
theorem c_l13Terminal {w : World} {v : Value} {c : Cat} (h : IC w v c) (S : Shape c) : Calls Try.prog 67 #[v] w (Mk w fun w' u => OwnT 2 w.heap.size w'.heap.size w' u (termL c)) := by
  have n0 := S.n0
  have n8 := S.n8
  have lF := h.lF
  have SH := Lib.hid S.tl
  clear S
  obtain ⟨aF, aT, aI, aC, bF, oF, kF, bT, oT, kT, bI, oI, kI, bC, oC, kC, bR, oR, kR, rfl, V⟩ := h.boxed 29
  have B : Bel w (w.alloc (.cells #[.int .i64 c.n, .slice aF c.fr.length kF, .slice aT c.to.length kT, .slice aI c.id.length kI, .slice aC c.cm.length kC] 29)) := bel_box w _
  have ZB := Lib.hid (show (w.alloc (.cells #[.int .i64 c.n, .slice aF c.fr.length kF, .slice aT c.to.length kT, .slice aI c.id.length kI, .slice aC c.cm.length kC] 29)).heap.size = w.heap.size + 1 from by simp)
  clear h
  go_enter Try.func67, Try.ntmps67
  go_wp2_with fail
  generalize w.alloc (.cells #[.int .i64 c.n, .slice aF c.fr.length kF, .slice aT c.to.length kT, .slice aI c.id.length kI, .slice aC c.cm.length kC] 29) = w1 at *
  generalize w.heap.size = b at *
  have c0 := V.c0
  have c1 := V.c1
  have c2 := V.c2
  have c3 := V.c3
  have c4 := V.c4
  clear c0 c1 c2 c3 c4
  have HB : Hid (w.heap.size ≤ w1.heap.size) := B.size
  try go_wp2_with fail
  go_loopw [3, 4, 5, 6] (fun out i _ _ wr => ∃ (k : Nat) (os : List Int), (k : Int) ≤ c.n ∧ i = .int .i64 k ∧ Below w1.heap.size w1 wr ∧ Own 2 wr w1.heap.size out os ∧ os.length ≤ k ∧ Hid (os = sel (termP c) k)) (fun _ i _ _ _ => (c.n - intOf i).toNat)
  case atStart => exact ⟨0, [], by omega, rfl, bel_alloc (Below.refl _ _) _, Own.empty' (Nat.le_refl _) ZB.out, Nat.le_refl _, rfl⟩
  case round =>
    obtain ⟨k, os, hk, rfl, hb, ho, hol, hp⟩ := hrel
    have c0 := (V.kept hb).c0
    by_cases hlt : (k : Int) < c.n
    · have hw0 := hb.size
      go_wp2_with fail
      clear c0
      obtain ⟨wo, rfl⟩ : ∃ wo : World, wo = wr := ⟨_, rfl⟩
      go_loopw [5, 6] (fun bv i wr => ∃ (j : Nat) (q : Bool), (j : Int) ≤ c.n ∧ i = .int .i64 j ∧ bv = .bool q ∧ Below wo.heap.size wo wr ∧ Hid ((List.range j).all (one c k) = q)) (fun _ i _ => (c.n - intOf i).toNat)
      case atStart => exact ⟨0, true, by omega, rfl, rfl, Below.refl _ _, rfl⟩
      case round =>
        obtain ⟨j, q, hj, rfl, rfl, hbi, hq⟩ := hrel
        have V3 := V.kept (bel_next hb hbi)
        have c0 := V3.c0
        have c1 := V3.c1
        have c2 := V3.c2
        have c3 := V3.c3
        have c4 := V3.c4
        cases q with
        | true =>
          by_cases hlj : (j : Int) < c.n
          · go_wp2_with fail
            refine (c_l02Hom V3.ic SH.out _ _).mono ?_
            rintro e w4 ⟨u, rfl, o4, b4⟩
            obtain ⟨ao, cc, rfl⟩ := o4.own.shape
            have hL := homL_le c j k
            have hb4 := bel_next hbi b4
            clear o4 b4 c0 c1 c2 c3 c4 V3
            go_wp2_with fail
            go_roundw
            case rel => exact ⟨j + 1, ((homL c j k).length : Int) == 1, by omega, by go_num, rfl, hb4, by
              unfold Hid; rw [all_step, hq.out, Bool.true_and]
              show ((homL c j k).length == 1) = _
              by_cases e : (homL c j k).length = 1
              · rw [e]; rfl
              · have e2 : ((homL c j k).length : Int) ≠ 1 := by omega
                rw [beq_false_of_ne e, beq_false_of_ne e2]⟩
            case measure => simp [intOf]; omega
          · have HE : Hid (termP c k = true) := by
              have : c.n.toNat = j := by omega
              unfold Hid termP; rw [this]; exact hq.out
            have hb2 := bel_next hb hbi
            have ho2 := ho.kept hbi
            have hw2 := hb2.size
            clear hq V3 c1 c2 c3 c4
            go_wp2_with (at_builtin; refine hold ?_)
            refine app1 ho2 (by constructor <;> omega) (by omega) (by first | omega | (simp; omega)) Try.underlying22 infoInt64 (by rfl) _ _ (by rfl) (by rfl) (by rfl) ?_
            intro v' wz ho3 g3
            have hb3 := g3.below hb2 (by first | omega | (simp; omega)) (fun k hk => (ho2.lt k hk).1)
            clear g3 ho2 hb2
            go_wp2_with fail
            go_roundw
            case rel => exact ⟨k + 1, _, by omega, by go_num, hb3, ho3, by simp; omega, by unfold Hid; rw [sel_yes HE.out, ← hp.out]⟩
            case measure => simp [intOf]; omega
        | false =>
          have HE : Hid (termP c k = false) := by
            have h1 : ∃ y, y < j ∧ one c k y = false := by
              have hq2 := hq.out
              rw [List.all_eq_false] at hq2
              obtain ⟨y, hy, hy2⟩ := hq2
              exact ⟨y, List.mem_range.1 hy, by simpa using hy2⟩
            obtain ⟨y, hy, hy2⟩ := h1
            exact all_no (k := y) (by omega) hy2
          clear hq V3 c1 c2 c3 c4
          go_wp2_with fail
          go_roundw
          case rel => exact ⟨k + 1, _, by omega, by go_num, bel_next hb hbi, ho.kept hbi, by omega, by unfold Hid; rw [sel_no HE.out, ← hp.out]⟩
          case measure => simp [intOf]; omega
    · have hke : (k : Int) = c.n := by omega
      have HE : Hid (os = termL c) := by
        have : c.n.toNat = k := by omega
        unfold Hid termL; rw [this]; exact hp.out
      go_wp2_with fail
      go_ret
      refine ⟨_, rfl, ?_, B.next hb⟩
      rw [← HE.out]
      exact (ho.base HB.out).top
/-- What TerminalObjects returns. -/
noncomputable def termR (c : Cat) : List Int × Int := if catB c then (termL c, 0) else ([], 1)
theorem i_TerminalObjects {w : World} {v : Value} {c : Cat} (h : IC w v c) : Calls Try.prog 32 #[v] w (Mk2 2 w (termR c)) := by
  obtain ⟨aF, aT, aI, aC, bF, oF, kF, bT, oT, kT, bI, oI, kI, bC, oC, kC, bR, oR, kR, rfl, V⟩ := h.boxed 29
  have B : Bel w (w.alloc (.cells #[.int .i64 c.n, .slice aF c.fr.length kF, .slice aT c.to.length kT, .slice aI c.id.length kI, .slice aC c.cm.length kC] 29)) := bel_box w _
  have ZB := Lib.hid (show (w.alloc (.cells #[.int .i64 c.n, .slice aF c.fr.length kF, .slice aT c.to.length kT, .slice aI c.id.length kI, .slice aC c.cm.length kC] 29)).heap.size = w.heap.size + 1 from by simp)
  clear h
  go_enter Try.func32, Try.ntmps32
  go_wp2_with fail
  generalize w.alloc (.cells #[.int .i64 c.n, .slice aF c.fr.length kF, .slice aT c.to.length kT, .slice aI c.id.length kI, .slice aC c.cm.length kC] 29) = w1 at *
  generalize w.heap.size = b at *
  have c0 := V.c0
  have c1 := V.c1
  have c2 := V.c2
  have c3 := V.c3
  have c4 := V.c4
  clear c0 c1 c2 c3 c4
  refine (c_isCategory V.pc).mono ?_
  rintro e w2 ⟨rfl, b2⟩
  have V2 := V.kept b2
  by_cases hc : catB c = true
  · have HC := Lib.hid hc
    have S := (catB_s hc).s
    go_wp2_with fail
    refine (c_terminal V2.pc S).mono ?_
    rintro e w3 ⟨u, rfl, o3, b3⟩
    have HB : Hid (w.heap.size ≤ w2.heap.size) := (B.next b2).size
    clear S
    go_wp2_with fail
    go_ret2
    exact mk2_own (by rw [termR, if_pos HC.out]) (o3.own.base HB.out) (B.next (bel_next b2 b3))
  · have HC := Lib.hid hc
    have hn : catB c = false := by simpa using hc
    clear hc
    go_wp2_with fail
    go_ret2
    exact mk2_nil (by rw [termR, if_neg HC.out]) (B.next b2)
theorem s_TerminalObjects {w : World} {v : Value} {c : Cat} (h : IC w v c) : Calls Try.prog 31 #[v] w (Mk2 2 w (termR c)) := by
  obtain ⟨aF, aT, aI, aC, bF, oF, kF, bT, oT, kT, bI, oI, kI, bC, oC, kC, bR, oR, kR, rfl, V⟩ := h.boxed 29
  have B : Bel w (w.alloc (.cells #[.int .i64 c.n, .slice aF c.fr.length kF, .slice aT c.to.length kT, .slice aI c.id.length kI, .slice aC c.cm.length kC] 29)) := bel_box w _
  have ZB := Lib.hid (show (w.alloc (.cells #[.int .i64 c.n, .slice aF c.fr.length kF, .slice aT c.to.length kT, .slice aI c.id.length kI, .slice aC c.cm.length kC] 29)).heap.size = w.heap.size + 1 from by simp)
  clear h
  go_enter Try.func31, Try.ntmps31
  go_wp2_with fail
  generalize w.alloc (.cells #[.int .i64 c.n, .slice aF c.fr.length kF, .slice aT c.to.length kT, .slice aI c.id.length kI, .slice aC c.cm.length kC] 29) = w1 at *
  generalize w.heap.size = b at *
  have c0 := V.c0
  have c1 := V.c1
  have c2 := V.c2
  have c3 := V.c3
  have c4 := V.c4
  refine (c_l02Is V.ic).mono ?_
  rintro e w2 ⟨rfl, b2⟩
  have V2 := V.kept b2
  clear c0 c1 c2 c3 c4
  by_cases hc : catB c = true
  · have HC := Lib.hid hc
    have S := (catB_s hc).s
    have c0 := V2.c0
    have c1 := V2.c1
    have c2 := V2.c2
    have c3 := V2.c3
    have c4 := V2.c4
    go_wp2_with fail
    refine (c_l13Terminal V2.ic S).mono ?_
    rintro e w3 ⟨u, rfl, o3, b3⟩
    have HB : Hid (w.heap.size ≤ w2.heap.size) := (B.next b2).size
    clear S c0 c1 c2 c3 c4
    go_wp2_with fail
    go_ret2
    exact mk2_own (by rw [termR, if_pos HC.out]) (o3.own.base HB.out) (B.next (bel_next b2 b3))
  · have HC := Lib.hid hc
    have hn : catB c = false := by simpa using hc
    clear hc
    go_wp2_with fail
    go_ret2
    exact mk2_nil (by rw [termR, if_neg HC.out]) (B.next b2)
end Go.Proofs.Ytkmkbmhpdnddnaa
