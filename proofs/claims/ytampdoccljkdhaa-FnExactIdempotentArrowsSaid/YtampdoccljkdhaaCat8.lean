/-
  Chapters 5, 11, 13: idempotents, terminal objects, IsIso: program and reference.
-/
import Derived.Test.YtampdoccljkdhaaCat7
namespace Go.Proofs.Ytampdoccljkdhaa
open Go.RowKit

def hasB (xs : List Int) (x : Int) : Bool := xs.any fun y => y == x
theorem hasB_iff {xs : List Int} {x : Int} : hasB xs x = true ↔ x ∈ xs := by simp [hasB]
theorem hasB_step {x : Int} {xs : List Int} {k : Nat} (h : k < xs.length) : hasB (xs.drop k) x = ((gi xs k == x) || hasB (xs.drop (k + 1)) x) := by
  rw [drop_gi h]; rfl
/-- The idempotents. -/
def idP (c : Cat) (e : Nat) : Bool := c.M e e == (e : Int)
def idemL (c : Cat) : List Int := sel (idP c) c.fr.length
set_option maxHeartbeats 800000 in
theorem c_idempotents {w1 : World} {b : Nat} {c : Cat} (P : PC w1 b c) (S : Shape c) : Calls Try.prog 69 #[.pointer (some ⟨b, 0, none⟩)] w1 (Mk w1 fun w' u => OwnT 2 w1.heap.size w'.heap.size w' u (idemL c)) := by
  obtain ⟨aF, aT, aI, aC, bF, oF, kF, bT, oT, kT, bI, oI, kI, bC, oC, kC, bR, oR, kR, V⟩ := P.opens
  have lF := V.iF.len
  have c1 := V.c1
  have lb : b < w1.heap.size := World.block_lt_of_cell? _ _ c1
  have SH := Lib.hid S
  clear P S
  go_enter Try.func69, Try.ntmps69
  go_wp2_with fail
  clear c1
  go_loopw [3, 4, 11] (fun out _ i wr => ∃ (k : Nat) (os : List Int), k ≤ c.fr.length ∧ i = .int .i64 k ∧ Below w1.heap.size w1 wr ∧ Own 2 wr w1.heap.size out os ∧ os.length ≤ k ∧ Hid (os = sel (idP c) k)) (fun _ _ i _ => c.fr.length - (intOf i).toNat)
  case atStart => exact ⟨0, [], Nat.zero_le _, rfl, bel_alloc (Below.refl _ _) _, Own.empty _ _ _ (Nat.le_refl _), Nat.le_refl _, rfl⟩
  case round =>
    obtain ⟨k, os, hk, rfl, hb, ho, hol, hp⟩ := hrel
    have V2 := V.kept hb
    have c1 := V2.c1
    by_cases hlt : k < c.fr.length
    · have hw0 := hb.size
      have hA : c.Arr k := ⟨by omega, by unfold Cat.m; omega⟩
      obtain ⟨rfl, rfl, rfl, rfl⟩ := V.som SH.out (by omega)
      have c4 := V2.c4
      have cR := V2.row SH.out hA
      have cM := V2.cM SH.out hA hA
      simp only [Int.toNat_natCast] at cR cM
      have l5 : k < c.cm.length := by rw [SH.out.cl]; exact hlt
      by_cases he : c.M k k = k
      · have heb : (c.M k k == (k : Int)) = true := by simp [he]
        have HE : Hid (idP c k = true) := heb
        clear he
        go_wp2_with (at_builtin; refine hold ?_)
        refine app1 ho (by constructor <;> omega) (by omega) (by first | omega | (simp; omega)) Try.underlying22 infoInt64 (by rfl) _ _ (by rfl) (by rfl) (by rfl) ?_
        intro v' w2 ho2 g2
        have hb2 := g2.below hb (by first | omega | (simp; omega)) (fun k hk => (ho.lt k hk).1)
        clear g2 ho hb c1 c4 cR cM
        go_wp2_with fail
        go_roundw
        case rel => exact ⟨k + 1, _, by omega, by go_num, hb2, ho2, by simp; omega, by unfold Hid; rw [sel_yes HE.out, ← hp.out]⟩
        case measure => simp [intOf]; omega
      · have heb : (c.M k k == (k : Int)) = false := by simp [he]
        have HE : Hid (idP c k = false) := heb
        clear he
        go_wp2_with fail
        go_roundw
        case rel => exact ⟨k + 1, _, by omega, by go_num, hb, ho, by omega, by unfold Hid; rw [sel_no HE.out, ← hp.out]⟩
        case measure => simp [intOf]; omega
    · have hke : c.fr.length = k := by omega
      have HE : Hid (os = idemL c) := by unfold Hid idemL; rw [hke]; exact hp.out
      have hkb : decide ((k : Int) < (c.fr.length : Int)) = false := by simp; omega
      go_wp2_with fail
      go_ret
      refine ⟨_, rfl, ?_, hb⟩
      rw [← HE.out]
      exact (ho).top
set_option maxHeartbeats 800000 in
theorem c_l11Idempotents {w : World} {v : Value} {c : Cat} (h : IC w v c) (S : Shape c) : Calls Try.prog 68 #[v] w (Mk w fun w' u => OwnT 2 w.heap.size w'.heap.size w' u (idemL c)) := by
  have lF := h.lF
  have SH := Lib.hid S
  clear S
  obtain ⟨aF, aT, aI, aC, bF, oF, kF, bT, oT, kT, bI, oI, kI, bC, oC, kC, bR, oR, kR, rfl, V⟩ := h.boxed 28
  have B : Bel w (w.alloc (.cells #[.int .i64 c.n, .slice aF c.fr.length kF, .slice aT c.to.length kT, .slice aI c.id.length kI, .slice aC c.cm.length kC] 28)) := bel_box w _
  have ZB := Lib.hid (show (w.alloc (.cells #[.int .i64 c.n, .slice aF c.fr.length kF, .slice aT c.to.length kT, .slice aI c.id.length kI, .slice aC c.cm.length kC] 28)).heap.size = w.heap.size + 1 from by simp)
  clear h
  go_enter Try.func68, Try.ntmps68
  go_wp2_with fail
  generalize w.alloc (.cells #[.int .i64 c.n, .slice aF c.fr.length kF, .slice aT c.to.length kT, .slice aI c.id.length kI, .slice aC c.cm.length kC] 28) = w1 at *
  generalize w.heap.size = b at *
  have c0 := V.c0
  have c1 := V.c1
  have c2 := V.c2
  have c3 := V.c3
  have c4 := V.c4
  clear c0 c1 c2 c3 c4
  have HB : Hid (w.heap.size ≤ w1.heap.size) := B.size
  try go_wp2_with fail
  go_loopw [3, 4] (fun out i wr => ∃ (k : Nat) (os : List Int), k ≤ c.fr.length ∧ i = .int .i64 k ∧ Below w1.heap.size w1 wr ∧ Own 2 wr w1.heap.size out os ∧ os.length ≤ k ∧ Hid (os = sel (idP c) k)) (fun _ i _ => c.fr.length - (intOf i).toNat)
  case atStart => exact ⟨0, [], Nat.zero_le _, rfl, bel_alloc (Below.refl _ _) _, Own.empty' (Nat.le_refl _) ZB.out, Nat.le_refl _, rfl⟩
  case round =>
    obtain ⟨k, os, hk, rfl, hb, ho, hol, hp⟩ := hrel
    have V2 := V.kept hb
    have c1 := V2.c1
    by_cases hlt : k < c.fr.length
    · have hw0 := hb.size
      have hA : c.Arr k := ⟨by omega, by unfold Cat.m; omega⟩
      obtain ⟨rfl, rfl, rfl, rfl⟩ := V.som SH.out (by omega)
      have c0 := V2.c0
      have c1 := V2.c1
      have c2 := V2.c2
      have c3 := V2.c3
      have c4 := V2.c4
      have cF := V2.cF hA
      have cT := V2.cT SH.out hA
      simp only [Int.toNat_natCast] at cF cT
      have l2 : k < c.to.length := by rw [SH.out.tl]; exact hlt
      have VI := V2.ic
      by_cases ht : c.F k = c.T k
      · have htb : (c.F k == c.T k) = true := by simp [ht]
        have HT := Lib.hid ht
        clear ht
        by_cases he : c.M k k = k
        · have heb : (c.M k k == (k : Int)) = true := by simp [he]
          have HE : Hid (idP c k = true) := heb
          clear he
          go_wp2_with fail
          go_region_held3 (fun w' => Below wr.heap.size wr w' ∧ w'.cell? ⟨b, 0, none⟩ = some (.int .i64 c.n) ∧ w'.cell? ⟨b, 1, none⟩ = some (.slice (some ⟨bF, oF, none⟩) c.fr.length kF) ∧ w'.cell? ⟨b, 2, none⟩ = some (.slice (some ⟨bT, oT, none⟩) c.to.length kT) ∧ w'.cell? ⟨b, 3, none⟩ = some (.slice (some ⟨bI, oI, none⟩) c.id.length kI) ∧ w'.cell? ⟨b, 4, none⟩ = some (.slice (some ⟨bC, oC, none⟩) c.cm.length kC) ∧ w'.cell? ⟨bF, oF + k, none⟩ = some (.int .i64 (c.F k)) ∧ w'.cell? ⟨bT, oT + k, none⟩ = some (.int .i64 (c.T k)))
            (first | exact ⟨(Drawn.one (Drawn.refl _)).bel0, c0, c1, c2, c3, c4, cF, cT⟩ | (refine keep7 ?_ hb7; assumption) | (refine keep7 ?_ (bel_box _ _); assumption))
            (first | (go_at_call 65; (with_reducible refine (c_l02Then (VI.kept (And.left (by assumption))) SH.out hA hA).mono ?_); rintro e w' ⟨rfl, hb7⟩))
          obtain ⟨hbl, -⟩ := ‹Below wr.heap.size wr _ ∧ _›
          have hbx := bel_next hb hbl
          have hox := ho.kept hbl
          have hwx := hbx.size
          go_wp2_with (at_builtin; refine hold ?_)
          refine app1 hox (by constructor <;> omega) (by omega) (by first | omega | (simp; omega)) Try.underlying22 infoInt64 (by rfl) _ _ (by rfl) (by rfl) (by rfl) ?_
          intro v' w2 ho2 g2
          have hb2 := g2.below hbx (by first | omega | (simp; omega)) (fun k hk => (hox.lt k hk).1)
          clear g2 hox hbx
          go_wp2_with fail
          go_roundw
          case rel => exact ⟨k + 1, _, by omega, by go_num, hb2, ho2, by simp; omega, by unfold Hid; rw [sel_yes HE.out, ← hp.out]⟩
          case measure => simp [intOf]; omega
        · have heb : (c.M k k == (k : Int)) = false := by simp [he]
          have HE : Hid (idP c k = false) := heb
          clear he
          go_wp2_with fail
          go_region_held3 (fun w' => Below wr.heap.size wr w' ∧ w'.cell? ⟨b, 0, none⟩ = some (.int .i64 c.n) ∧ w'.cell? ⟨b, 1, none⟩ = some (.slice (some ⟨bF, oF, none⟩) c.fr.length kF) ∧ w'.cell? ⟨b, 2, none⟩ = some (.slice (some ⟨bT, oT, none⟩) c.to.length kT) ∧ w'.cell? ⟨b, 3, none⟩ = some (.slice (some ⟨bI, oI, none⟩) c.id.length kI) ∧ w'.cell? ⟨b, 4, none⟩ = some (.slice (some ⟨bC, oC, none⟩) c.cm.length kC) ∧ w'.cell? ⟨bF, oF + k, none⟩ = some (.int .i64 (c.F k)) ∧ w'.cell? ⟨bT, oT + k, none⟩ = some (.int .i64 (c.T k)))
            (first | exact ⟨(Drawn.one (Drawn.refl _)).bel0, c0, c1, c2, c3, c4, cF, cT⟩ | (refine keep7 ?_ hb7; assumption) | (refine keep7 ?_ (bel_box _ _); assumption))
            (first | (go_at_call 65; (with_reducible refine (c_l02Then (VI.kept (And.left (by assumption))) SH.out hA hA).mono ?_); rintro e w' ⟨rfl, hb7⟩))
          obtain ⟨hbl, -⟩ := ‹Below wr.heap.size wr _ ∧ _›
          have hbx := bel_next hb hbl
          have hox := ho.kept hbl
          go_wp2_with fail
          go_roundw
          case rel => exact ⟨k + 1, _, by omega, by go_num, hbx, hox, by omega, by unfold Hid; rw [sel_no HE.out, ← hp.out]⟩
          case measure => simp [intOf]; omega
      · have htb : (c.F k == c.T k) = false := by simp [ht]
        have HE : Hid (idP c k = false) := by
          unfold Hid idP
          rw [SH.out.mN k k hA hA (fun q => ht q.symm)]
          simp <;> omega
        clear ht
        go_wp2_with fail
        go_quiet (fail)
        go_wp2_with fail
        go_roundw
        case rel => exact ⟨k + 1, _, by omega, by go_num, (bel_next hb (Drawn.step (Drawn.refl _) _).bel0), (ho.kept (Drawn.step (Drawn.refl _) _).bel0), by omega, by unfold Hid; rw [sel_no HE.out, ← hp.out]⟩
        case measure => simp [intOf]; omega
    · have hke : c.fr.length = k := by omega
      have HE : Hid (os = idemL c) := by unfold Hid idemL; rw [hke]; exact hp.out
      have hkb : decide ((k : Int) < (c.fr.length : Int)) = false := by simp; omega
      go_wp2_with fail
      go_ret
      refine ⟨_, rfl, ?_, B.next hb⟩
      rw [← HE.out]
      exact (ho.base HB.out).top
/-- What IdempotentArrows returns. -/
noncomputable def idemsR (c : Cat) : List Int × Int := if catB c then (idemL c, 0) else ([], 1)
theorem i_IdempotentArrows {w : World} {v : Value} {c : Cat} (h : IC w v c) : Calls Try.prog 33 #[v] w (Mk2 2 w (idemsR c)) := by
  obtain ⟨aF, aT, aI, aC, bF, oF, kF, bT, oT, kT, bI, oI, kI, bC, oC, kC, bR, oR, kR, rfl, V⟩ := h.boxed 28
  have B : Bel w (w.alloc (.cells #[.int .i64 c.n, .slice aF c.fr.length kF, .slice aT c.to.length kT, .slice aI c.id.length kI, .slice aC c.cm.length kC] 28)) := bel_box w _
  have ZB := Lib.hid (show (w.alloc (.cells #[.int .i64 c.n, .slice aF c.fr.length kF, .slice aT c.to.length kT, .slice aI c.id.length kI, .slice aC c.cm.length kC] 28)).heap.size = w.heap.size + 1 from by simp)
  clear h
  go_enter Try.func33, Try.ntmps33
  go_wp2_with fail
  generalize w.alloc (.cells #[.int .i64 c.n, .slice aF c.fr.length kF, .slice aT c.to.length kT, .slice aI c.id.length kI, .slice aC c.cm.length kC] 28) = w1 at *
  generalize w.heap.size = b at *
  have c0 := V.c0
  have c1 := V.c1
  have c2 := V.c2
  have c3 := V.c3
  have c4 := V.c4
  clear c0 c1 c2 c3 c4
  refine (c_isCategory V.pc).mono ?_
  rintro e w2 ⟨rfl, b2⟩
  by_cases hc : catB c = true
  · have HC := Lib.hid hc
    have S := (catB_s hc).s
    go_wp2_with fail
    refine (c_idempotents (V.kept b2).pc S).mono ?_
    rintro e w3 ⟨u, rfl, o3, b3⟩
    have HB : Hid (w.heap.size ≤ w2.heap.size) := (B.next b2).size
    clear S
    go_wp2_with fail
    go_ret2
    exact mk2_own (by rw [idemsR, if_pos HC.out]) (o3.own.base HB.out) (B.next (bel_next b2 b3))
  · have HC := Lib.hid hc
    have hn : catB c = false := by simpa using hc
    clear hc
    go_wp2_with fail
    go_ret2
    exact mk2_nil (by rw [idemsR, if_neg HC.out]) (B.next b2)
theorem s_IdempotentArrows {w : World} {v : Value} {c : Cat} (h : IC w v c) : Calls Try.prog 32 #[v] w (Mk2 2 w (idemsR c)) := by
  obtain ⟨aF, aT, aI, aC, bF, oF, kF, bT, oT, kT, bI, oI, kI, bC, oC, kC, bR, oR, kR, rfl, V⟩ := h.boxed 28
  have B : Bel w (w.alloc (.cells #[.int .i64 c.n, .slice aF c.fr.length kF, .slice aT c.to.length kT, .slice aI c.id.length kI, .slice aC c.cm.length kC] 28)) := bel_box w _
  have ZB := Lib.hid (show (w.alloc (.cells #[.int .i64 c.n, .slice aF c.fr.length kF, .slice aT c.to.length kT, .slice aI c.id.length kI, .slice aC c.cm.length kC] 28)).heap.size = w.heap.size + 1 from by simp)
  clear h
  go_enter Try.func32, Try.ntmps32
  go_wp2_with fail
  generalize w.alloc (.cells #[.int .i64 c.n, .slice aF c.fr.length kF, .slice aT c.to.length kT, .slice aI c.id.length kI, .slice aC c.cm.length kC] 28) = w1 at *
  generalize w.heap.size = b at *
  have c0 := V.c0
  have c1 := V.c1
  have c2 := V.c2
  have c3 := V.c3
  have c4 := V.c4
  refine (c_l02Is V.ic).mono ?_
  rintro e w2 ⟨rfl, b2⟩
  have V2 := V.kept b2
  clear c0 c1 c2 c3 c4
  by_cases hc : catB c = true
  · have HC := Lib.hid hc
    have S := (catB_s hc).s
    have c0 := V2.c0
    have c1 := V2.c1
    have c2 := V2.c2
    have c3 := V2.c3
    have c4 := V2.c4
    go_wp2_with fail
    refine (c_l11Idempotents V2.ic S).mono ?_
    rintro e w3 ⟨u, rfl, o3, b3⟩
    have HB : Hid (w.heap.size ≤ w2.heap.size) := (B.next b2).size
    clear S c0 c1 c2 c3 c4
    go_wp2_with fail
    go_ret2
    exact mk2_own (by rw [idemsR, if_pos HC.out]) (o3.own.base HB.out) (B.next (bel_next b2 b3))
  · have HC := Lib.hid hc
    have hn : catB c = false := by simpa using hc
    clear hc
    go_wp2_with fail
    go_ret2
    exact mk2_nil (by rw [idemsR, if_neg HC.out]) (B.next b2)
/-- The terminal objects. -/
def one (c : Cat) (x : Int) (y : Nat) : Bool := (homL c (y : Int) x).length == 1
def termP (c : Cat) (x : Nat) : Bool := (List.range c.n.toNat).all (one c x)
def termL (c : Cat) : List Int := sel (termP c) c.n.toNat
theorem all_step {p : Nat → Bool} {k : Nat} : (List.range (k + 1)).all p = ((List.range k).all p && p k) := by simp [List.range_succ]
theorem all_no {p : Nat → Bool} {k n : Nat} (h : k < n) (hp : p k = false) : (List.range n).all p = false := by
  rw [Bool.eq_false_iff]
  intro h2
  rw [List.all_eq_true] at h2
  have := h2 k (List.mem_range.2 h)
  rw [hp] at this; cases this
/-- What TerminalObjects returns. -/
noncomputable def termR (c : Cat) : List Int × Int := if catB c then (termL c, 0) else ([], 1)
end Go.Proofs.Ytampdoccljkdhaa
