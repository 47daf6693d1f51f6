/-
  The reference's reader of diagrams: beside, then, atom; ParseDiagram.
-/
import Derived.Test.YtjlpmfimbgbcmaaDoorPs
namespace Go.Proofs.YtjlpmfimbgbcmaaDoor
open Go.RowKit

/-- What a reader of the reference answers. -/
def SP (b : Nat) (T : ByteArray) (k : Nat) (r : PR) (w : World) : Ending → World → Prop := fun e w' => ∃ v L, e = .returned v ∧ OwnP 73 w' w.heap.size v L ∧ L.length ≤ r.at_ - k ∧ (r.ok = true → L = r.L) ∧ RZ w' b T r.at_ (!r.ok) ∧ Within b (b + 1) w w'
def ReadsS (b : Nat) (T : ByteArray) (f : FuncId) (r : Nat → PR) (lo : Nat) : Prop := ∀ W k, lo ≤ k → k ≤ T.size → RZ W b T k false → Calls Tryd.prog f #[.pointer (some ⟨b, 0, none⟩)] W (SP b T k (r k) W)
def faN (w : World) (b : Nat) : Bool := match w.cell? ⟨b, 2, none⟩ with | some (.bool x) => x | _ => true
theorem RZ.faN {w : World} {b : Nat} {T : ByteArray} {k : Nat} {f : Bool} (h : RZ w b T k f) : faN w b = f := by unfold Go.Proofs.YtjlpmfimbgbcmaaDoor.faN; rw [h.facts.2.2.1]
theorem RZ.atN {w : World} {b : Nat} {T : ByteArray} {k : Nat} {f : Bool} (h : RZ w b T k f) : atN w b = k := by unfold Go.Proofs.YtjlpmfimbgbcmaaDoor.atN; rw [h.facts.2.1]; simp
def mz (T : ByteArray) (w : World) (b : Nat) : Nat := if faN w b = true then 0 else T.size + 1 - atN w b
theorem RZ.mz {w : World} {b : Nat} {T : ByteArray} {k : Nat} {f : Bool} (h : RZ w b T k f) : mz T w b = if f = true then 0 else T.size + 1 - k := by unfold Go.Proofs.YtjlpmfimbgbcmaaDoor.mz; rw [h.faN, h.atN]
/-- Where the loop of the reference's beside and then stands. -/
structure LpS (w : World) (b : Nat) (T : ByteArray) (k : Nat) (sub : Nat → PR) (c : Nat) (kind : Int) (fin : PR) (v : Value) (w' : World) (n : Nat) (r : PR) (L : List (Int × Int)) : Prop where
  own : OwnP 73 w' w.heap.size v L
  rd : RZ w' b T r.at_ (!r.ok)
  eq : r.ok = true → L = r.L
  len : L.length ≤ r.at_ - k
  win : Within b (b + 1) w w'
  snd : Snd T k r
  fin : loopP T sub c kind n r = fin
  fuel : T.size < n + r.at_
theorem LpS.start {w w1 : World} {b : Nat} {T : ByteArray} {k c : Nat} {kind : Int} {sub : Nat → PR} {r : PR} {v : Value} {L : List (Int × Int)} (hs : Snd T k r) (ho : OwnP 73 w1 w.heap.size v L) (hl : L.length ≤ r.at_ - k) (he : r.ok = true → L = r.L) (hr : RZ w1 b T r.at_ (!r.ok)) (hw : Within b (b + 1) w w1) :
    LpS w b T k sub c kind (loopP T sub c kind (T.size + 1) r) v w1 (T.size + 1) r L := ⟨ho, hr, he, hl, hw, hs, rfl, by have := hs.1; omega⟩
theorem LpS.out {w w1 w2 : World} {b : Nat} {T : ByteArray} {k c n : Nat} {kind : Int} {sub : Nat → PR} {r fin : PR} {v : Value} {L : List (Int × Int)} (h : LpS w b T k sub c kind fin v w1 n r L) (hn : ¬ (r.ok = true ∧ r.at_ < T.size ∧ bA T r.at_ = c)) (hd : Drawn w1 w2) :
    SP b T k fin w (.returned v) w2 := by
  have e := h.fin
  rw [loopP_stop hn] at e
  subst e
  exact ⟨v, L, rfl, h.own.keptB (hd.below _), h.len, h.eq, h.rd.below (hd.below _), h.win.trans (hd.in_ b)⟩
theorem LpS.go {w w1 w2 w3 w4 : World} {b : Nat} {T : ByteArray} {k c n : Nat} {kind : Int} {sub : Nat → PR} {r fin : PR} {v u : Value} {L M : List (Int × Int)} (h : LpS w b T k sub c kind fin v w1 n r L) (hs : ∀ k, k ≤ T.size → Snd T k (sub k)) (hn : r.ok = true ∧ r.at_ < T.size ∧ bA T r.at_ = c) (i2 : Within b (b + 1) w1 w2) (i3 : Within b (b + 1) w2 w3) (lm : M.length ≤ (sub (r.at_ + 1)).at_ - (r.at_ + 1)) (em : (sub (r.at_ + 1)).ok = true → M = (sub (r.at_ + 1)).L) (r3 : RZ w3 b T (sub (r.at_ + 1)).at_ (!(sub (r.at_ + 1)).ok)) (b4 : Below w3.heap.size w3 w4)
    (o4 : OwnP 73 w4 w3.heap.size u ((kind, 0) :: (L ++ M))) :
    LpS w b T k sub c kind fin u w4 (n - 1) ⟨(sub (r.at_ + 1)).ok, (sub (r.at_ + 1)).at_, (kind, 0) :: (r.L ++ (sub (r.at_ + 1)).L)⟩ ((kind, 0) :: (L ++ M)) ∧ mz T w4 b < mz T w1 b := by
  have h2 := hs (r.at_ + 1) (by omega)
  obtain ⟨n, rfl⟩ : ∃ m, n = m + 1 := ⟨n - 1, by have := h.fuel; omega⟩
  have wi := h.win
  have e := h.fin
  rw [loopP, if_pos hn] at e
  have hsz : w.heap.size ≤ w3.heap.size := Nat.le_trans wi.size (Nat.le_trans i2.size i3.size)
  have r4 : RZ w4 b T (sub (r.at_ + 1)).at_ (!(sub (r.at_ + 1)).ok) := r3.below b4
  obtain ⟨a1, a2, a3, a4⟩ := h.snd
  obtain ⟨q1, q2, q3, q4⟩ := h2
  refine ⟨⟨o4.mono hsz, r4, fun q => ?_, ?_, ((wi.trans i2).trans i3).trans (bel_in b4 b), ?_, e, ?_⟩, ?_⟩
  · rw [h.eq hn.1, em q]
  · have := h.len
    show (((kind, (0 : Int)) :: (L ++ M)).length) ≤ (sub (r.at_ + 1)).at_ - k
    simp only [List.length_cons, List.length_append]
    omega
  · refine ⟨by show k ≤ (sub (r.at_ + 1)).at_; omega, q2, ?_, fun _ => by show k < (sub (r.at_ + 1)).at_; omega⟩
    show (((kind, (0 : Int)) :: (r.L ++ (sub (r.at_ + 1)).L)).length) ≤ (sub (r.at_ + 1)).at_ - k
    simp only [List.length_cons, List.length_append]
    omega
  · have := h.fuel
    show T.size < n + (sub (r.at_ + 1)).at_
    omega
  · rw [r4.mz, h.rd.mz, hn.1]
    by_cases q : (sub (r.at_ + 1)).ok = true
    · rw [q]
      have := q4 q
      simp
      omega
    · rw [Bool.not_eq_true] at q
      rw [q]
      simp
      omega
theorem c_sn_yes {w : World} {b : Nat} {T : ByteArray} {k c : Nat} (h : RZ w b T k false) (hk : k < T.size) (hc : bA T k = c) :
    Calls Tryd.prog 62 #[.pointer (some ⟨b, 0, none⟩), .int .u8 (c : Int)] w (Rd w (.bool true)) := by
  have e : nxF T k false c = true := decide_eq_true ⟨rfl, hk, hc⟩
  have := c_l35Next h c
  rwa [e] at this
theorem c_sn_no {w : World} {b : Nat} {T : ByteArray} {k c : Nat} {f : Bool} (h : RZ w b T k f) (hc : ¬ (f = false ∧ k < T.size ∧ bA T k = c)) :
    Calls Tryd.prog 62 #[.pointer (some ⟨b, 0, none⟩), .int .u8 (c : Int)] w (Rd w (.bool false)) := by
  have e : nxF T k f c = false := decide_eq_false hc
  have := c_l35Next h c
  rwa [e] at this
set_option maxHeartbeats 1600000 in
theorem c_l35Beside {w : World} {b : Nat} {T : ByteArray} {k lo : Nat} {sub : Nat → PR} (hsub : ReadsS b T 82 sub lo) (hs : ∀ k, k ≤ T.size → Snd T k (sub k)) (hlo : lo ≤ k) (h : RZ w b T k false) (hk : k ≤ T.size) (hT : T.size ≤ 200) :
    Calls Tryd.prog 61 #[.pointer (some ⟨b, 0, none⟩)] w (SP b T k (loopP T sub 42 3 (T.size + 1) (sub k)) w) := by
  have HS := Lib.hid hsub
  have HN := Lib.hid hs
  have HR := Lib.hid h
  have hbl := h.lt
  clear hsub hs h
  go_enter Tryd.func61, Tryd.ntmps61
  go_wp2_with fail
  refine (HS.out w k hlo hk HR.out).mono ?_
  rintro e w1 ⟨v, L1, rfl, ov, l1, e1, r1, i1⟩
  obtain ⟨ao, cc, rfl⟩ := ov.shape
  have HL := Lib.hid (LpS.start (c := 42) (kind := 3) (sub := sub) (HN.out k hk) ov l1 e1 r1 i1)
  clear ov r1 e1 l1 i1
  go_wp2_with fail
  go_loopw [3] (fun v w' => ∃ (n : Nat) (r : PR) (L : List (Int × Int)), Hid (LpS w b T k sub 42 3 (loopP T sub 42 3 (T.size + 1) (sub k)) v w' n r L)) (fun _ w' => mz T w' b)
  case atStart => exact ⟨_, _, _, HL⟩
  case round =>
    obtain ⟨n, r, L, HL⟩ := hrel
    obtain ⟨ao, cc, rfl⟩ := HL.out.own.shape
    have hll := HL.out.len
    have hal := HL.out.snd.2.1
    by_cases hc : r.ok = true ∧ r.at_ < T.size ∧ bA T r.at_ = 42
    · have HC := Lib.hid hc
      have hlt := hc.2.1
      have RR := HL.out.rd
      rw [hc.1] at RR
      have HRR : Hid (RZ wr b T r.at_ false) := RR
      clear hc RR
      go_wp2_with fail
      refine (c_sn_yes HRR.out hlt HC.out.2.2).mono ?_
      rintro e w2 ⟨rfl, d2⟩
      have R2 := HRR.out.below (d2.below _)
      obtain ⟨c0, c1, c2, f1, f2⟩ := R2.facts
      have H2 := Lib.hid ((⟨R2.setAt (r.at_ + 1), (d2.in_ b).trans (in_set w2 b 1 (.int .i64 ((r.at_ + 1 : Nat) : Int)))⟩ : _ ∧ _))
      rw [show (((r.at_ + 1 : Nat) : Int)) = (r.at_ : Int) + 1 by omega] at H2
      clear R2 d2
      go_wp2_with fail
      refine (HS.out _ (r.at_ + 1) (by have := HL.out.snd.1; omega) (by omega) H2.out.1).mono ?_
      rintro e w3 ⟨y, M, rfl, oy, lm, em, r3, i3⟩
      obtain ⟨ay, cy, rfl⟩ := oy.shape
      have o3 := (HL.out.own.keptW H2.out.2 hbl).keptW i3 hbl
      have hl3 := (HN.out (r.at_ + 1) (by omega)).2.1
      have H3 := Lib.hid (⟨em, r3, i3⟩ : _ ∧ _ ∧ _)
      have HO := Lib.hid (⟨o3, oy⟩ : _ ∧ _)
      clear r3 em i3 o3 oy c0 c1 c2 f1 f2
      go_wp2_with fail
      refine (c_l35Pair HO.out.1 HO.out.2 (by omega)).mono ?_
      rintro e w4 ⟨u, rfl, o4, b4⟩
      obtain ⟨au, cu, hu⟩ := o4.shape
      rw [List.length_cons, List.length_append] at hu
      subst hu
      have HG := Lib.hid (HL.out.go HN.out HC.out H2.out.2 H3.out.2.2 lm H3.out.1 H3.out.2.1 b4 o4)
      clear o4 b4 lm
      go_wp2_with fail
      go_roundw
      case rel => exact ⟨_, _, _, HG.out.1⟩
      case measure => exact HG.out.2
    · have HC := Lib.hid hc
      have HX := Lib.hid (show ¬ ((!r.ok) = false ∧ r.at_ < T.size ∧ bA T r.at_ = 42) from fun q => hc ⟨by simpa using q.1, q.2⟩)
      clear hc
      go_wp2_with fail
      refine (c_sn_no HL.out.rd HX.out).mono ?_
      rintro e w2 ⟨rfl, d2⟩
      have HD := Lib.hid d2
      clear d2
      go_wp2_with fail
      go_ret
      exact HL.out.out HC.out HD.out
set_option maxHeartbeats 1600000 in
theorem c_l35Then {w : World} {b : Nat} {T : ByteArray} {k lo : Nat} {sub : Nat → PR} (hsub : ReadsS b T 61 sub lo) (hs : ∀ k, k ≤ T.size → Snd T k (sub k)) (hlo : lo ≤ k) (h : RZ w b T k false) (hk : k ≤ T.size) (hT : T.size ≤ 200) :
    Calls Tryd.prog 38 #[.pointer (some ⟨b, 0, none⟩)] w (SP b T k (loopP T sub 59 2 (T.size + 1) (sub k)) w) := by
  have HS := Lib.hid hsub
  have HN := Lib.hid hs
  have HR := Lib.hid h
  have hbl := h.lt
  clear hsub hs h
  go_enter Tryd.func38, Tryd.ntmps38
  go_wp2_with fail
  refine (HS.out w k hlo hk HR.out).mono ?_
  rintro e w1 ⟨v, L1, rfl, ov, l1, e1, r1, i1⟩
  obtain ⟨ao, cc, rfl⟩ := ov.shape
  have HL := Lib.hid (LpS.start (c := 59) (kind := 2) (sub := sub) (HN.out k hk) ov l1 e1 r1 i1)
  clear ov r1 e1 l1 i1
  go_wp2_with fail
  go_loopw [3] (fun v w' => ∃ (n : Nat) (r : PR) (L : List (Int × Int)), Hid (LpS w b T k sub 59 2 (loopP T sub 59 2 (T.size + 1) (sub k)) v w' n r L)) (fun _ w' => mz T w' b)
  case atStart => exact ⟨_, _, _, HL⟩
  case round =>
    obtain ⟨n, r, L, HL⟩ := hrel
    obtain ⟨ao, cc, rfl⟩ := HL.out.own.shape
    have hll := HL.out.len
    have hal := HL.out.snd.2.1
    by_cases hc : r.ok = true ∧ r.at_ < T.size ∧ bA T r.at_ = 59
    · have HC := Lib.hid hc
      have hlt := hc.2.1
      have RR := HL.out.rd
      rw [hc.1] at RR
      have HRR : Hid (RZ wr b T r.at_ false) := RR
      clear hc RR
      go_wp2_with fail
      refine (c_sn_yes HRR.out hlt HC.out.2.2).mono ?_
      rintro e w2 ⟨rfl, d2⟩
      have R2 := HRR.out.below (d2.below _)
      obtain ⟨c0, c1, c2, f1, f2⟩ := R2.facts
      have H2 := Lib.hid ((⟨R2.setAt (r.at_ + 1), (d2.in_ b).trans (in_set w2 b 1 (.int .i64 ((r.at_ + 1 : Nat) : Int)))⟩ : _ ∧ _))
      rw [show (((r.at_ + 1 : Nat) : Int)) = (r.at_ : Int) + 1 by omega] at H2
      clear R2 d2
      go_wp2_with fail
      refine (HS.out _ (r.at_ + 1) (by have := HL.out.snd.1; omega) (by omega) H2.out.1).mono ?_
      rintro e w3 ⟨y, M, rfl, oy, lm, em, r3, i3⟩
      obtain ⟨ay, cy, rfl⟩ := oy.shape
      have o3 := (HL.out.own.keptW H2.out.2 hbl).keptW i3 hbl
      have hl3 := (HN.out (r.at_ + 1) (by omega)).2.1
      have H3 := Lib.hid (⟨em, r3, i3⟩ : _ ∧ _ ∧ _)
      have HO := Lib.hid (⟨o3, oy⟩ : _ ∧ _)
      clear r3 em i3 o3 oy c0 c1 c2 f1 f2
      go_wp2_with fail
      refine (c_l35Pair HO.out.1 HO.out.2 (by omega)).mono ?_
      rintro e w4 ⟨u, rfl, o4, b4⟩
      obtain ⟨au, cu, hu⟩ := o4.shape
      rw [List.length_cons, List.length_append] at hu
      subst hu
      have HG := Lib.hid (HL.out.go HN.out HC.out H2.out.2 H3.out.2.2 lm H3.out.1 H3.out.2.1 b4 o4)
      clear o4 b4 lm
      go_wp2_with fail
      go_roundw
      case rel => exact ⟨_, _, _, HG.out.1⟩
      case measure => exact HG.out.2
    · have HC := Lib.hid hc
      have HX := Lib.hid (show ¬ ((!r.ok) = false ∧ r.at_ < T.size ∧ bA T r.at_ = 59) from fun q => hc ⟨by simpa using q.1, q.2⟩)
      clear hc
      go_wp2_with fail
      refine (c_sn_no HL.out.rd HX.out).mono ?_
      rintro e w2 ⟨rfl, d2⟩
      have HD := Lib.hid d2
      clear d2
      go_wp2_with fail
      go_ret
      exact HL.out.out HC.out HD.out
theorem drawn_tr {a b c : World} (h : Drawn a b) (k : Drawn b c) : Drawn a c := by
  obtain ⟨m, rfl⟩ := k
  exact h.step m
theorem sp_nil {b : Nat} {T : ByteArray} {k j : Nat} {r : PR} {w w' : World} (h : r.ok = false) (hj : r.at_ = j) (hr : RZ w' b T j true) (hw : Within b (b + 1) w w') : SP b T k r w (.returned (.slice none 0 0)) w' :=
  ⟨_, [], rfl, OwnP.nil, Nat.zero_le _, fun e => (by rw [h] at e; cases e), (by rw [h, hj]; exact hr), hw⟩
theorem sp_num {b : Nat} {T : ByteArray} {k lim : Nat} {kind : Int} {w w5 w6 : World} {v : Value} {V : Int} (hV : V = if numB T (k + 1) lim = true then (dV T (k + 1) (dE T (k + 1) - (k + 1)) : Int) else 0) (hr : RZ w5 b T (if numB T (k + 1) lim = true then dE T (k + 1) else (k + 1)) (!numB T (k + 1) lim)) (hw : Within b (b + 1) w w5)
    (hv : OwnP 73 w6 w5.heap.size v [(kind, V)]) (h6 : Below w5.heap.size w5 w6) : SP b T k (numP T kind lim (k + 1)) w (.returned v) w6 := by
  unfold numP
  by_cases h : numB T (k + 1) lim = true
  · rw [if_pos h] at hV hr ⊢
    subst hV
    have hlt : k + 1 < dE T (k + 1) := by
      unfold numB at h
      rw [Bool.and_eq_true] at h
      exact of_decide_eq_true h.1
    refine ⟨v, _, rfl, hv.mono hw.size, ?_, fun _ => rfl, ?_, hw.trans (bel_in h6 b)⟩
    · show 1 ≤ dE T (k + 1) - k
      omega
    · rw [h] at hr
      exact hr.below h6
  · rw [if_neg h] at hV hr ⊢
    subst hV
    refine ⟨v, _, rfl, hv.mono hw.size, ?_, fun e => (by cases e), ?_, hw.trans (bel_in h6 b)⟩
    · show 1 ≤ k + 1 - k
      omega
    · rw [Bool.not_eq_true] at h
      rw [h] at hr
      exact hr.below h6
theorem rs_beside {b : Nat} {T : ByteArray} {sub : Nat → PR} {lo : Nat} (hsub : ReadsS b T 82 sub lo) (hs : ∀ k, k ≤ T.size → Snd T k (sub k)) (hT : T.size ≤ 200) : ReadsS b T 61 (besP T sub) lo :=
  fun _ _ hlo hk hr => c_l35Beside hsub hs hlo hr hk hT
theorem rs_then {b : Nat} {T : ByteArray} {sub : Nat → PR} {lo : Nat} (hsub : ReadsS b T 82 sub lo) (hs : ∀ k, k ≤ T.size → Snd T k (sub k)) (hT : T.size ≤ 200) : ReadsS b T 38 (thnP T sub) lo :=
  fun _ _ hlo hk hr => c_l35Then (rs_beside hsub hs hT) (besP_snd hs) hlo hr hk hT
set_option maxHeartbeats 3200000 in
theorem c_l35Atom_step {b : Nat} {T : ByteArray} (hT : T.size ≤ 200) {n : Nat} (hth : ReadsS b T 38 (thnP T (atomP T n)) (T.size + 1 - n)) : ReadsS b T 82 (atomP T (n + 1)) (T.size + 1 - (n + 1)) := by
  intro w k hlo hk h
  have IH := Lib.hid hth
  have R0 : Hid (RZ w b T k false) := h
  have D0 : Hid (Drawn w w) := Drawn.refl w
  have HB : Hid (b < w.heap.size) := h.lt
  clear hth h
  have hcs : (k < T.size ∧ bA T k = 102) ∨ (k < T.size ∧ bA T k = 105) ∨ (k < T.size ∧ bA T k = 40) ∨ ¬ (k < T.size ∧ (bA T k = 40 ∨ bA T k = 105 ∨ bA T k = 102)) := by omega
  rcases hcs with ⟨hlt, hc⟩ | ⟨hlt, hc⟩ | ⟨hlt, hc⟩ | hc
  · have HN := Lib.hid (show atomP T (n + 1) k = numP T 0 40 (k + 1) by rw [atomP, if_pos hlt, if_neg (by omega), if_neg (by omega), if_pos hc])
    go_enter Tryd.func82, Tryd.ntmps82
    go_wp2_with fail
    refine (c_sn_yes R0.out (c := 102) hlt hc).mono ?_
    rintro e w1 ⟨rfl, d1⟩
    have R1 := R0.out.below (d1.below _)
    have D1 := drawn_tr D0.out d1
    obtain ⟨c0, c1, c2, f1, f2⟩ := R1.facts
    have R9 := Lib.hid (R1.setAt (k + 1))
    have I9 := Lib.hid ((D1.in_ b).trans (in_set w1 b 1 (.int .i64 ((k + 1 : Nat) : Int))))
    rw [show (((k + 1 : Nat) : Int)) = (k : Int) + 1 by omega] at R9 I9
    clear R1 D1 d1
    go_wp2_with fail
    refine (c_l35Number R9.out (by omega) hT 40).mono ?_
    rintro e w5 ⟨rfl, r5, i5⟩
    clear c0 c1 c2 f1 f2
    have H5 := Lib.hid (⟨r5, i5⟩ : _ ∧ _)
    clear r5 i5
    obtain ⟨V, hV⟩ : ∃ V : Int, V = if numB T (k + 1) 40 = true then (dV T (k + 1) (dE T (k + 1) - (k + 1)) : Int) else 0 := ⟨_, rfl⟩
    rw [← hV]
    have HV := Lib.hid hV
    clear hV
    go_wp2_with fail
    go_ret
    rw [HN.out]
    exact sp_num HV.out H5.out.1 (I9.out.trans H5.out.2) (OwnP.lit1 rfl) (bel_box _ _)
  · have HN := Lib.hid (show atomP T (n + 1) k = numP T 1 8 (k + 1) by rw [atomP, if_pos hlt, if_neg (by omega), if_pos hc])
    go_enter Tryd.func82, Tryd.ntmps82
    go_wp2_with fail
    refine (c_sn_no R0.out (c := 102) (by omega)).mono ?_
    rintro e w1 ⟨rfl, d1⟩
    have R1 := Lib.hid (R0.out.below (d1.below _))
    have D1 := Lib.hid (drawn_tr D0.out d1)
    clear d1
    go_wp2_with fail
    refine (c_sn_yes R1.out (c := 105) hlt hc).mono ?_
    rintro e w2 ⟨rfl, d2⟩
    have R2 := R1.out.below (d2.below _)
    have D2 := drawn_tr D1.out d2
    obtain ⟨c0, c1, c2, f1, f2⟩ := R2.facts
    have R9 := Lib.hid (R2.setAt (k + 1))
    have I9 := Lib.hid ((D2.in_ b).trans (in_set w2 b 1 (.int .i64 ((k + 1 : Nat) : Int))))
    rw [show (((k + 1 : Nat) : Int)) = (k : Int) + 1 by omega] at R9 I9
    clear R2 D2 d2
    go_wp2_with fail
    refine (c_l35Number R9.out (by omega) hT 8).mono ?_
    rintro e w5 ⟨rfl, r5, i5⟩
    clear c0 c1 c2 f1 f2
    have H5 := Lib.hid (⟨r5, i5⟩ : _ ∧ _)
    clear r5 i5
    obtain ⟨V, hV⟩ : ∃ V : Int, V = if numB T (k + 1) 8 = true then (dV T (k + 1) (dE T (k + 1) - (k + 1)) : Int) else 0 := ⟨_, rfl⟩
    rw [← hV]
    have HV := Lib.hid hV
    clear hV
    go_wp2_with fail
    go_ret
    rw [HN.out]
    exact sp_num HV.out H5.out.1 (I9.out.trans H5.out.2) (OwnP.lit1 rfl) (bel_box _ _)
  · have HN := Lib.hid (show atomP T (n + 1) k = parP T (thnP T (atomP T n) (k + 1)) by rw [atomP, if_pos hlt, if_pos hc])
    go_enter Tryd.func82, Tryd.ntmps82
    go_wp2_with fail
    refine (c_sn_no R0.out (c := 102) (by omega)).mono ?_
    rintro e w1 ⟨rfl, d1⟩
    have R1 := Lib.hid (R0.out.below (d1.below _))
    have D1 := Lib.hid (drawn_tr D0.out d1)
    clear d1
    go_wp2_with fail
    refine (c_sn_no R1.out (c := 105) (by omega)).mono ?_
    rintro e w2 ⟨rfl, d2⟩
    have R2 := Lib.hid (R1.out.below (d2.below _))
    have D2 := Lib.hid (drawn_tr D1.out d2)
    clear d2
    go_wp2_with fail
    refine (c_sn_yes R2.out (c := 40) hlt hc).mono ?_
    rintro e w3 ⟨rfl, d3⟩
    have R3 := R2.out.below (d3.below _)
    have D3 := drawn_tr D2.out d3
    obtain ⟨c0, c1, c2, f1, f2⟩ := R3.facts
    have R9 := Lib.hid (R3.setAt (k + 1))
    have I9 := Lib.hid ((D3.in_ b).trans (in_set w3 b 1 (.int .i64 ((k + 1 : Nat) : Int))))
    rw [show (((k + 1 : Nat) : Int)) = (k : Int) + 1 by omega] at R9 I9
    clear R3 D3 d3
    go_wp2_with fail
    refine (IH.out _ (k + 1) (by omega) (by omega) R9.out).mono ?_
    rintro e w5 ⟨v, L, rfl, ov, lL, eL, r5, i5⟩
    clear c0 c1 c2 f1 f2
    have hsn := thnP_snd (fun k hk => atomP_snd T n k hk) (k + 1) (show k + 1 ≤ T.size by omega)
    have ov2 := ov.mono (B' := w.heap.size) (Nat.le_trans I9.out.size (Nat.le_refl _))
    obtain ⟨r, hr⟩ : ∃ r, r = thnP T (atomP T n) (k + 1) := ⟨_, rfl⟩
    rw [← hr] at HN lL eL r5 hsn
    clear hr ov
    obtain ⟨ao, cc, rfl⟩ := ov2.shape
    have H5 := Lib.hid (⟨ov2, r5, I9.out.trans i5⟩ : _ ∧ _ ∧ _)
    have HE := Lib.hid eL
    have hrs := hsn.2.1
    have hrk := hsn.1
    clear ov2 i5 eL
    by_cases hp : r.ok = true ∧ r.at_ < T.size ∧ bA T r.at_ = 41
    · have HP := Lib.hid (show atomP T (n + 1) k = ⟨true, r.at_ + 1, r.L⟩ by rw [HN.out, parP, if_pos hp.1, if_pos hp.2])
      rw [hp.1] at r5
      have R5 : Hid (RZ w5 b T r.at_ false) := r5
      have HQ := Lib.hid hp
      have hlt2 := hp.2.1
      clear hp r5
      go_wp2_with fail
      refine (c_sn_yes R5.out HQ.out.2.1 HQ.out.2.2).mono ?_
      rintro e w6 ⟨rfl, d6⟩
      have r6 := R5.out.below (d6.below _)
      obtain ⟨c0, c1, c2, f1, f2⟩ := r6.facts
      have R6 := Lib.hid (r6.setAt (r.at_ + 1))
      have I6 := Lib.hid ((d6.in_ b).trans (in_set w6 b 1 (.int .i64 ((r.at_ + 1 : Nat) : Int))))
      rw [show (((r.at_ + 1 : Nat) : Int)) = (r.at_ : Int) + 1 by omega] at R6 I6
      clear r6 d6
      go_wp2_with fail
      go_ret
      rw [HP.out]
      exact ⟨_, L, rfl, H5.out.1.keptW I6.out HB.out, (by show L.length ≤ r.at_ + 1 - k; omega), fun _ => HE.out HQ.out.1, R6.out, H5.out.2.2.trans I6.out⟩
    · have HQ := Lib.hid (show ¬ ((!r.ok) = false ∧ r.at_ < T.size ∧ bA T r.at_ = 41) from fun q => hp ⟨by simpa using q.1, q.2⟩)
      have HP := Lib.hid (show (atomP T (n + 1) k).ok = false ∧ (atomP T (n + 1) k).at_ = r.at_ by
        rw [HN.out, parP]
        by_cases q : r.ok = true
        · rw [if_pos q, if_neg (fun z => hp ⟨q, z⟩)]
          exact ⟨rfl, rfl⟩
        · rw [if_neg q]
          exact ⟨by simpa using q, rfl⟩)
      clear hp r5
      go_wp2_with fail
      refine (c_sn_no H5.out.2.1 HQ.out).mono ?_
      rintro e w6 ⟨rfl, d6⟩
      have r6 := H5.out.2.1.below (d6.below _)
      obtain ⟨c0, c1, c2, f1, f2⟩ := r6.facts
      have R6 := Lib.hid (r6.setF true)
      have I6 := Lib.hid ((d6.in_ b).trans (in_set w6 b 2 (.bool true)))
      clear r6 d6
      go_wp2_with fail
      go_ret
      exact sp_nil HP.out.1 HP.out.2 R6.out (H5.out.2.2.trans I6.out)
  · have HN := Lib.hid (show atomP T (n + 1) k = fail k by
      rw [atomP]
      by_cases q : k < T.size
      · rw [if_pos q, if_neg (by omega), if_neg (by omega), if_neg (by omega)]
      · rw [if_neg q])
    go_enter Tryd.func82, Tryd.ntmps82
    go_wp2_with fail
    refine (c_sn_no R0.out (c := 102) (by omega)).mono ?_
    rintro e w1 ⟨rfl, d1⟩
    have R1 := Lib.hid (R0.out.below (d1.below _))
    have D1 := Lib.hid (drawn_tr D0.out d1)
    clear d1
    go_wp2_with fail
    refine (c_sn_no R1.out (c := 105) (by omega)).mono ?_
    rintro e w2 ⟨rfl, d2⟩
    have R2 := Lib.hid (R1.out.below (d2.below _))
    have D2 := Lib.hid (drawn_tr D1.out d2)
    clear d2
    go_wp2_with fail
    refine (c_sn_no R2.out (c := 40) (by omega)).mono ?_
    rintro e w3 ⟨rfl, d3⟩
    have R3 := Lib.hid (R2.out.below (d3.below _))
    have D3 := Lib.hid (drawn_tr D2.out d3)
    clear d3
    obtain ⟨c0, c1, c2, f1, f2⟩ := R3.out.facts
    go_wp2_with fail
    go_ret
    rw [HN.out]
    exact sp_nil rfl rfl (R3.out.setF true) ((D3.out.in_ b).trans (in_set _ _ _ _))
theorem c_l35Atom {b : Nat} {T : ByteArray} (hT : T.size ≤ 200) : ∀ n, ReadsS b T 82 (atomP T n) (T.size + 1 - n)
  | 0 => fun _ _ hlo hk _ => by omega
  | n + 1 => c_l35Atom_step hT (rs_then (c_l35Atom hT n) (fun k hk => atomP_snd T n k hk) hT)
end Go.Proofs.YtjlpmfimbgbcmaaDoor
