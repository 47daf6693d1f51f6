/-
  Chapter 5: PowerCycle: program and reference.
-/
import Derived.Test.YtampdoccljkdhaaCat7
import Derived.Test.YtampdoccljkdhaaMapI
import Derived.Test.YtampdoccljkdhaaSets2
namespace Go.Proofs.Ytampdoccljkdhaa
open Go.RowKit Go.Maps

/-- The powers of an arrow, from the first one on. -/
def pw (c : Cat) (f : Int) : Nat → Int
  | 0 => f
  | k + 1 => c.M (pw c f k) f
def pws (c : Cat) (f : Int) : Nat → List Int
  | 0 => []
  | k + 1 => pws c f k ++ [pw c f k]
theorem pws_length (c : Cat) (f : Int) : ∀ n, (pws c f n).length = n
  | 0 => rfl
  | n + 1 => by simp [pws, pws_length c f n]
theorem pw_ok {c : Cat} {f : Int} (S : Shape c) (hf : c.Arr f) (he : c.F f = c.T f) : ∀ k, c.Arr (pw c f k) ∧ c.T (pw c f k) = c.F f
  | 0 => ⟨hf, he.symm⟩
  | k + 1 => by
    have ih := pw_ok S hf he k
    have h := S.mA _ _ ih.1 hf ih.2
    exact ⟨h.1, h.2.2.trans he.symm⟩
theorem pws_arr {c : Cat} {f : Int} (S : Shape c) (hf : c.Arr f) (he : c.F f = c.T f) : ∀ n, ∀ x ∈ pws c f n, c.Arr x
  | 0 => fun x hx => by cases hx
  | n + 1 => fun x hx => by
    simp only [pws, List.mem_append, List.mem_singleton] at hx
    rcases hx with hx | rfl
    · exact pws_arr S hf he n x hx
    · exact (pw_ok S hf he n).1
/-- No power before n has come twice. -/
def Fresh (c : Cat) (f : Int) (n : Nat) : Prop := ∀ j, j < n → ix (pws c f j) (pw c f j) < 0
theorem Fresh.nodup {c : Cat} {f : Int} : ∀ {n : Nat}, Fresh c f n → (pws c f n).Nodup
  | 0, _ => List.nodup_nil
  | n + 1, h => by
    have ih := Fresh.nodup (n := n) fun j hj => h j (by omega)
    have hn := h n (by omega)
    rw [pws, List.nodup_append]
    refine ⟨ih, by simp, ?_⟩
    intro a ha b hb e
    simp only [List.mem_singleton] at hb
    subst hb e
    exact (ix_mem _ _).1 ha hn
theorem pig : ∀ (m : Nat) (l : List Int), l.Nodup → (∀ x ∈ l, 0 ≤ x ∧ x < (m : Int)) → l.length ≤ m
  | 0, l, _, h => by
    cases l with
    | nil => simp
    | cons a l => have := h a (by simp); omega
  | m + 1, l, hn, h => by
    have h2 := pig m (l.erase (m : Int)) (hn.erase _) (fun x hx => by
      have h3 := (hn.mem_erase_iff).1 hx
      have := h x h3.2
      have := h3.1
      omega)
    rw [List.length_erase] at h2
    split at h2 <;> omega
theorem Fresh.le {c : Cat} {f : Int} {n : Nat} (h : Fresh c f n) (S : Shape c) (hf : c.Arr f) (he : c.F f = c.T f) : n ≤ c.fr.length := by
  have := pig c.fr.length (pws c f n) h.nodup (fun x hx => pws_arr S hf he n x hx)
  rwa [pws_length] at this
theorem Fresh.zero (c : Cat) (f : Int) : Fresh c f 0 := fun j hj => by omega
theorem Fresh.succ {c : Cat} {f : Int} {n : Nat} (h : Fresh c f n) (hn : ix (pws c f n) (pw c f n) < 0) : Fresh c f (n + 1) := fun j hj => by
  by_cases e : j = n
  · subst e; exact hn
  · exact h j (by omega)
/-- The first repetition. -/
def PC3 (c : Cat) (f : Int) (r : Int × Int × Int) : Prop := ∃ n : Nat, Fresh c f n ∧ 0 ≤ ix (pws c f n) (pw c f n) ∧ r = (ix (pws c f n) (pw c f n) + 1, (n : Int) - ix (pws c f n) (pw c f n), 0)
theorem PC3.uniq {c : Cat} {f : Int} {r s : Int × Int × Int} (h : PC3 c f r) (h' : PC3 c f s) : r = s := by
  obtain ⟨n, a1, a2, a3⟩ := h
  obtain ⟨k, b1, b2, b3⟩ := h'
  have e : n = k := by
    rcases Nat.lt_trichotomy n k with h | h | h
    · have := b1 n h; omega
    · exact h
    · have := a1 k h; omega
  subst e
  rw [a3, b3]
noncomputable def pcR (c : Cat) (f : Int) : Int × Int × Int := if codeA c [f] = 0 then (if c.F f = c.T f then Classical.epsilon (PC3 c f) else (0, 0, 5)) else (0, 0, codeA c [f])
theorem pcR_t {c : Cat} {f : Int} {r : Int × Int × Int} (h1 : codeA c [f] = 0) (h2 : c.F f = c.T f) (h : PC3 c f r) : pcR c f = r := by
  rw [pcR, if_pos h1, if_pos h2]
  exact PC3.uniq (Classical.epsilon_spec ⟨r, h⟩) h
theorem pcR_s {c : Cat} {f : Int} (h1 : codeA c [f] = 0) (h2 : ¬ c.F f = c.T f) : pcR c f = (0, 0, 5) := by rw [pcR, if_pos h1, if_neg h2]
theorem pcR_c {c : Cat} {f : Int} (h1 : ¬ codeA c [f] = 0) : pcR c f = (0, 0, codeA c [f]) := by rw [pcR, if_neg h1]
theorem ret_iii {r : Int × Int × Int} {a b d : Int} (h : r = (a, b, d)) : Ending.returned (.tuple #[.int .i64 a, .int .i64 b, .int .i64 d]) = .returned (.tuple #[.int .i64 r.1, .int .i64 r.2.1, .int .i64 r.2.2]) := by rw [h]
theorem zeroI64p (w : World) : (zeroValue 2).run Try.prog w = .ok (.int .i64 0) w := by kernel_rfl
/-- Where a power has come first, from 1 on. -/
def seen1 (ss : List Int) : Int → Option Int := fun y => if ix ss y < 0 then none else some (ix ss y + 1)
theorem seen1_snoc {ss : List Int} {y : Int} (h : ix ss y < 0) : (fun q => if q = y then some ((ss.length : Int) + 1) else seen1 ss q) = seen1 (ss ++ [y]) := by
  funext q
  unfold seen1
  rw [ix_append, ixF_cons, ixF_nil]
  by_cases e : q = y
  · subst e
    rw [if_pos rfl, if_pos h, if_pos rfl, if_neg (by omega)]
  · rw [if_neg e, if_neg (Ne.symm e)]
    by_cases h2 : ix ss q < 0
    · rw [if_pos h2, if_pos h2, if_pos (by omega)]
    · rw [if_neg h2, if_neg h2, if_neg h2]
theorem Own.lit1 {E : TypeId} {w : World} {a : Int} {B : Nat} (ha : I64 a) (hB : B ≤ w.heap.size) : Own E (w.alloc (.cells #[.int .i64 a] E)) B (.slice (some ⟨w.heap.size, 0, none⟩) 1 1) [a] := by
  refine ⟨World.ownsRow_lit w _ 1 hB (by simp [maxLen]) (by simp), ?_, by simp⟩
  intro x hx
  simp at hx
  subst hx
  exact ha
theorem Own.cellP {E : TypeId} {w : World} {B g n c : Nat} {xs : List Int} (h : Own E w B (.slice (some ⟨g, 0, none⟩) n c) xs) (hn : n = xs.length) {i : Nat} (hi : i < xs.length) : w.cell? ⟨g, i, none⟩ = some (.int .i64 (gi xs i)) := by
  subst hn
  rw [h.row.cellAt i (by omega), gi_lt hi]
  simp [hi]
theorem Own.openP {E : TypeId} {w : World} {B : Nat} {v : Value} {xs : List Int} (h : Own E w B v xs) : ∃ ao g c, v = .slice ao xs.length c ∧ (0 < xs.length → ao = some ⟨g, 0, none⟩) := by
  rcases h.row.2 with ⟨rfl, hn⟩ | ⟨g, cap, cur, rfl, hB, hg, _⟩
  · exact ⟨none, 0, 0, by rw [hn], fun h0 => by omega⟩
  · exact ⟨some ⟨g, 0, none⟩, g, cap, rfl, fun _ => rfl⟩
theorem gi_pws (c : Cat) (f : Int) (n : Nat) : gi (pws c f (n + 1)) n = pw c f n := by
  rw [pws, gi_lt (by simp [pws_length])]
  rw [List.getElem_append_right (by rw [pws_length]; exact Nat.le_refl _)]
  simp [pws_length]
def lenV : Value → Nat
  | .slice _ n _ => n
  | _ => 0
set_option maxHeartbeats 1600000 in
theorem i_PowerCycle {w : World} {v : Value} {c : Cat} (h : IC w v c) (f : Int) (hf : I64 f) : Calls Try.prog 42 #[v, .int .i64 f] w (Ret w (.tuple #[.int .i64 (pcR c f).1, .int .i64 (pcR c f).2.1, .int .i64 (pcR c f).2.2])) := by
  obtain ⟨aF, aT, aI, aC, bF, oF, kF, bT, oT, kT, bI, oI, kI, bC, oC, kC, bR, oR, kR, rfl, V⟩ := h.boxed 28
  have B : Bel w (w.alloc (.cells #[.int .i64 c.n, .slice aF c.fr.length kF, .slice aT c.to.length kT, .slice aI c.id.length kI, .slice aC c.cm.length kC] 28)) := bel_box w _
  have ZB := Lib.hid (show (w.alloc (.cells #[.int .i64 c.n, .slice aF c.fr.length kF, .slice aT c.to.length kT, .slice aI c.id.length kI, .slice aC c.cm.length kC] 28)).heap.size = w.heap.size + 1 from by simp)
  clear h
  go_enter Try.func42, Try.ntmps42
  go_wp2_with fail
  generalize w.alloc (.cells #[.int .i64 c.n, .slice aF c.fr.length kF, .slice aT c.to.length kT, .slice aI c.id.length kI, .slice aC c.cm.length kC] 28) = w1 at *
  generalize w.heap.size = b at *
  have c0 := V.c0
  have c1 := V.c1
  have c2 := V.c2
  have c3 := V.c3
  have c4 := V.c4
  clear c0 c1 c2 c3 c4
  refine (c_arrowCode (V.pc.kept (bel_box _ _)) (IS.lit1v' hf _ ZB.out)).mono ?_
  rintro e w2 ⟨rfl, b2⟩
  replace b2 := bel_next (bel_box w1 _) b2
  by_cases hc : codeA c [f] = 0
  · obtain ⟨C, fA⟩ := codeA_one hc
    have S := C.s
    have hcb : (codeA c [f] != 0) = false := by simp [hc]
    have HC := Lib.hid hc
    obtain ⟨rfl, rfl, rfl, rfl⟩ := V.som S (by have := fA.1; have := fA.2; unfold Cat.m at this; omega)
    have SH := Lib.hid S
    have m40 := S.m40
    unfold Cat.m at m40
    have f0 := fA.1
    have f1 : f < (c.fr.length : Int) := fA.2
    have f2 : f < (c.to.length : Int) := by rw [S.tl]; exact fA.2
    have wF := V.iF.wf
    clear hc C S
    have V2 := V.kept b2
    have c1 := V2.c1
    have c2 := V2.c2
    have cFf := V2.cF fA
    have cTf := V2.cT SH.out fA
    by_cases he : c.F f = c.T f
    · have heb : (c.F f != c.T f) = false := by simp [he]
      have HE := Lib.hid he
      clear he
      go_wp2_with fail
      go_quiet (fail)
      have d3 := Drawn.step (Drawn.refl w2) nq
      generalize w2.drewN nq = w3 at *
      have b3 := bel_next b2 d3.bel0
      have hmm := @run_makeMap Try.prog
      clear c1 c2 cFf cTf heb hcb
      go_wp2_with fail
      clear hmm
      go_loopw [9, 10, 11, 12] (fun pv iv _ _ wr => ∃ n : Nat, pv = .int .i64 (pw c f n) ∧ iv = .int .i64 ((n : Int) + 1) ∧ Below w1.heap.size w1 wr ∧ MapI Try.prog 2 2 wr w3.heap.size n (seen1 (pws c f n)) ∧ Hid (Fresh c f n)) (fun _ iv _ _ _ => c.fr.length + 2 - (intOf iv).toNat)
      case atStart => exact ⟨0, rfl, rfl, bel_next b3 (bel_box _ _), MapI.made _ _ _ _, Fresh.zero c f⟩
      case round =>
        obtain ⟨n, rfl, rfl, hb, hm, hfr⟩ := hrel
        have hn := hfr.out.le SH.out fA HE.out
        obtain ⟨pA, -⟩ := pw_ok SH.out fA HE.out n
        have hpi : I64 (pw c f n) := by have := pA.1; have := pA.2; unfold Cat.m at this; constructor <;> omega
        have hm1 := hm.lt
        have hw3 : w1.heap.size ≤ w3.heap.size := b3.size
        rcases ix_bd (pws c f n) (pw c f n) with hi | ⟨hi0, hi1⟩
        · have hneg : ix (pws c f n) (pw c f n) < 0 := by omega
          have HF1 := Lib.hid (Fresh.succ hfr.out hneg)
          have HL1 := Lib.hid (HF1.out.le SH.out fA HE.out)
          have hF : seen1 (pws c f n) (pw c f n) = none := by unfold seen1; rw [if_pos hneg]
          have hlk := hm.lookNo Try.underlying2 Try.underlying2 Try.underlying73 (zeroI64p _) hpi hF
          have HS := seen1_snoc hneg
          rw [pws_length] at HS
          have HSN := Lib.hid HS
          have HF := Lib.hid hF
          have HM := Lib.hid hm
          have HB := Lib.hid hb
          have HN := Lib.hid hneg
          clear hF hi hneg hm HS hb
          go_wp2_with (at_mapUpdate; refine hold ?_)
          clear hlk
          refine mapPut (z := (n : Int) + 1) HM.out Try.underlying2 Try.underlying2 Try.underlying73 hpi (by constructor <;> omega) HF.out (by omega) (by rfl) _ _ _ (by rfl) (by rfl) (by rfl) (by rfl) ?_
          intro w4 hm2 hg2
          rw [HSN.out] at hm2
          have hb2 : Below w1.heap.size w1 w4 := HB.out.grown hg2 (by have := HB.out.size; omega) (fun k hk => by cases hk; exact hw3)
          clear hg2 HM HSN HF
          go_wp2_with fail
          refine (c_then (V.kept hb2).pc SH.out pA fA).mono ?_
          rintro e w5 ⟨rfl, n5, rfl⟩
          have d5 : Drawn w4 (w4.drewN n5) := ⟨n5, rfl⟩
          generalize w4.drewN n5 = w5 at *
          have e5 : c.M (pw c f n) f = pw c f (n + 1) := rfl
          have HL := HL1.out
          rw [e5]
          clear e5
          go_wp2_with fail
          go_roundw
          case rel => exact ⟨n + 1, rfl, by go_num, hb2.trans (d5.below _), hm2.kept d5.bel0, HF1.out⟩
          case measure => simp [intOf]; omega
        · have hF : seen1 (pws c f n) (pw c f n) = some (ix (pws c f n) (pw c f n) + 1) := by unfold seen1; rw [if_neg (by omega)]
          have hlk := hm.lookYes Try.underlying2 Try.underlying2 Try.underlying73 (zeroI64p _) hpi hF
          have HR := Lib.hid (pcR_t HC.out HE.out ⟨n, hfr.out, hi0, rfl⟩)
          rw [pws_length] at hi1
          clear hF hm hm1
          go_wp2_with fail
          go_ret3
          exact ⟨ret_iii (by rw [HR.out]; congr 2; omega), B.next hb⟩
    · have heb : (c.F f != c.T f) = true := by simp [he]
      have HR := Lib.hid (pcR_s HC.out he)
      clear he
      go_wp2_with fail
      go_quiet (fail)
      go_wp2_with fail
      go_ret3
      exact ⟨ret_iii HR.out, B.next (bel_next b2 (Drawn.step (Drawn.refl _) _).bel0)⟩
  · have hcb : (codeA c [f] != 0) = true := by simp [hc]
    have HR := Lib.hid (pcR_c hc)
    clear hc
    go_wp2_with fail
    go_ret3
    exact ⟨ret_iii HR.out, B.next b2⟩
set_option maxHeartbeats 1600000 in
theorem s_PowerCycle {w : World} {v : Value} {c : Cat} (h : IC w v c) (f : Int) (hf : I64 f) : Calls Try.prog 41 #[v, .int .i64 f] w (Ret w (.tuple #[.int .i64 (pcR c f).1, .int .i64 (pcR c f).2.1, .int .i64 (pcR c f).2.2])) := by
  obtain ⟨aF, aT, aI, aC, bF, oF, kF, bT, oT, kT, bI, oI, kI, bC, oC, kC, bR, oR, kR, rfl, V⟩ := h.boxed 28
  have B : Bel w (w.alloc (.cells #[.int .i64 c.n, .slice aF c.fr.length kF, .slice aT c.to.length kT, .slice aI c.id.length kI, .slice aC c.cm.length kC] 28)) := bel_box w _
  have ZB := Lib.hid (show (w.alloc (.cells #[.int .i64 c.n, .slice aF c.fr.length kF, .slice aT c.to.length kT, .slice aI c.id.length kI, .slice aC c.cm.length kC] 28)).heap.size = w.heap.size + 1 from by simp)
  clear h
  go_enter Try.func41, Try.ntmps41
  go_wp2_with fail
  generalize w.alloc (.cells #[.int .i64 c.n, .slice aF c.fr.length kF, .slice aT c.to.length kT, .slice aI c.id.length kI, .slice aC c.cm.length kC] 28) = w1 at *
  generalize w.heap.size = b at *
  have c0 := V.c0
  have c1 := V.c1
  have c2 := V.c2
  have c3 := V.c3
  have c4 := V.c4
  refine (c_l05Code V.ic f).mono ?_
  rintro e w2 ⟨rfl, b2⟩
  clear c0 c1 c2 c3 c4
  by_cases hc : codeA c [f] = 0
  · obtain ⟨C, fA⟩ := codeA_one hc
    have S := C.s
    have hcb : (codeA c [f] != 0) = false := by simp [hc]
    have HC := Lib.hid hc
    obtain ⟨rfl, rfl, rfl, rfl⟩ := V.som S (by have := fA.1; have := fA.2; unfold Cat.m at this; omega)
    have SH := Lib.hid S
    have m40 := S.m40
    unfold Cat.m at m40
    have f0 := fA.1
    have f1 : f < (c.fr.length : Int) := fA.2
    have f2 : f < (c.to.length : Int) := by rw [S.tl]; exact fA.2
    clear hc C S
    have V2 := V.kept b2
    have c1 := V2.c1
    have c2 := V2.c2
    have cFf := V2.cF fA
    have cTf := V2.cT SH.out fA
    by_cases he : c.F f = c.T f
    · have heb : (c.F f != c.T f) = false := by simp [he]
      have HE := Lib.hid he
      clear he
      go_wp2_with fail
      go_quiet (fail)
      have d3 := Drawn.step (Drawn.refl w2) nq
      generalize w2.drewN nq = w3 at *
      have b3 := bel_next b2 d3.bel0
      have HO : Own 2 (w3.alloc (.cells #[.int .i64 f] 2)) w1.heap.size (.slice (some ⟨w3.heap.size, 0, none⟩) 1 1) (pws c f 1) := Own.lit1 hf b3.size
      have HB3 := bel_next b3 (bel_box w3 (.cells #[.int .i64 f] 2))
      clear c1 c2 cFf cTf heb hcb
      go_wp2_with fail
      generalize w3.alloc (.cells #[.int .i64 f] 2) = w4 at *
      generalize w3.heap.size = g4 at *
      go_loopw [8, 9, 10] (fun pv _ _ wr => ∃ n : Nat, lenV pv = n + 1 ∧ Below w1.heap.size w1 wr ∧ Own 2 wr w1.heap.size pv (pws c f (n + 1)) ∧ Hid (Fresh c f (n + 1))) (fun pv _ _ _ => c.fr.length + 1 - lenV pv)
      case atStart => exact ⟨0, rfl, HB3, HO, Fresh.succ (Fresh.zero c f) (show (-1 : Int) < 0 by decide)⟩
      case round =>
        clear HO HB3
        obtain ⟨n, hl, hb, ho, hfr⟩ := hrel
        have hn := hfr.out.le SH.out fA HE.out
        obtain ⟨pA, hpT⟩ := pw_ok SH.out fA HE.out n
        obtain ⟨qA, -⟩ := pw_ok SH.out fA HE.out (n + 1)
        have hqi : I64 (pw c f (n + 1)) := by have := qA.1; have := qA.2; unfold Cat.m at this; constructor <;> omega
        obtain ⟨ao, g, cc, rfl, hga⟩ := ho.openP
        rw [pws_length] at hga hl ho
        rw [pws_length]
        obtain rfl := hga (by omega)
        have cx := ho.cellP (pws_length _ _ _).symm (i := n) (by rw [pws_length]; omega)
        rw [gi_pws] at cx
        have p0 := pA.1
        have p1 : pw c f n < (c.cm.length : Int) := by rw [SH.out.cl]; exact pA.2
        have V3 := V.kept hb
        have c4 := V3.c4
        have cR := V3.row SH.out pA
        have cM := V3.cM SH.out pA fA
        have e5 : c.M (pw c f n) f = pw c f (n + 1) := rfl
        rw [e5] at cM
        clear e5 hga hl
        go_wp2_with fail
        go_quiet (fail)
        have d4 := Drawn.step (Drawn.refl wr) nq
        generalize wr.drewN nq = w5 at *
        replace hb := bel_next hb d4.bel0
        replace ho := ho.kept d4.bel0
        clear d4 c4 cR cM cx
        go_wp2_with fail
        refine (c_l01Index ho.is _).mono ?_
        rintro e w6 ⟨rfl, n6, rfl⟩
        have d6 : Drawn w5 (w5.drewN n6) := ⟨n6, rfl⟩
        generalize w5.drewN n6 = w6 at *
        replace hb := bel_next hb d6.bel0
        replace ho := ho.kept d6.bel0
        clear d6
        have hw0 := hb.size
        rcases ix_bd (pws c f (n + 1)) (pw c f (n + 1)) with hi | ⟨hi0, hi1⟩
        · have hneg : ix (pws c f (n + 1)) (pw c f (n + 1)) < 0 := by omega
          have HF1 := Lib.hid (Fresh.succ hfr.out hneg)
          have HL := HF1.out.le SH.out fA HE.out
          rw [hi]
          clear hi hneg
          go_wp2_with (at_builtin; refine hold ?_)
          refine app1 ho hqi (by rw [pws_length]; omega) (by first | omega | (simp; omega)) Try.underlying22 infoInt64 (by rfl) _ _ (by rfl) (by rfl) (by rfl) ?_
          intro v' w7 ho2 g2
          have hb2 := g2.below hb (by first | omega | (simp; omega)) (fun k hk => (ho.lt k hk).1)
          clear ho g2 hb
          have HV : Hid (lenV v' = n + 2) := by
            obtain ⟨ao, g, cc, rfl, -⟩ := ho2.openP
            simp [Hid, lenV, pws_length]
          go_wp2_with fail
          go_roundw
          case rel => exact ⟨n + 1, HV.out, hb2, ho2, HF1.out⟩
          case measure => rw [HV.out]; simp only [lenV]; omega
        · have HR := Lib.hid (pcR_t HC.out HE.out ⟨n + 1, hfr.out, hi0, rfl⟩)
          have hge : decide (ix (pws c f (n + 1)) (pw c f (n + 1)) ≥ 0) = true := by simp; exact hi0
          rw [pws_length] at hi1
          go_wp2_with fail
          go_ret3
          exact ⟨ret_iii (by rw [HR.out]; simp), B.next hb⟩
    · have heb : (c.F f != c.T f) = true := by simp [he]
      have HR := Lib.hid (pcR_s HC.out he)
      clear he
      go_wp2_with fail
      go_quiet (fail)
      go_wp2_with fail
      go_ret3
      exact ⟨ret_iii HR.out, B.next (bel_next b2 (Drawn.step (Drawn.refl _) _).bel0)⟩
  · have hcb : (codeA c [f] != 0) = true := by simp [hc]
    have HR := Lib.hid (pcR_c hc)
    clear hc
    go_wp2_with fail
    go_ret3
    exact ⟨ret_iii HR.out, B.next b2⟩
end Go.Proofs.Ytampdoccljkdhaa
