/-
  The program's reader of diagrams: beside, then, atom.
-/
import Derived.Test.YtjlpmfimbgbcmaaDoorPdn
namespace Go.Proofs.YtjlpmfimbgbcmaaDoor
open Go.RowKit

theorem c_next_yes {w : World} {b : Nat} {T : ByteArray} {k c : Nat} (h : RI w b T k (-1)) (hk : k < T.size) (hT : T.size ≤ 200) (hc : bA T k = c) :
    Calls Tryd.prog 65 #[.pointer (some ⟨b, 0, none⟩), .int .u8 (c : Int)] w (fun e w' => e = .returned (.bool true) ∧ RI w' b T (k + 1) (-1) ∧ Within b (b + 1) w w') := by
  refine (c_next h (Nat.le_of_lt hk) hT c).mono ?_
  have e : nxB T k (-1) c = true := decide_eq_true ⟨by decide, hk, hc⟩
  rintro _ w' ⟨rfl, h2, h3⟩
  rw [e] at h2 ⊢
  exact ⟨rfl, h2, h3⟩
theorem c_next_no {w : World} {b : Nat} {T : ByteArray} {k c : Nat} {bad : Int} (h : RI w b T k bad) (hk : k ≤ T.size) (hT : T.size ≤ 200) (hc : ¬ (bad < 0 ∧ k < T.size ∧ bA T k = c)) :
    Calls Tryd.prog 65 #[.pointer (some ⟨b, 0, none⟩), .int .u8 (c : Int)] w (fun e w' => e = .returned (.bool false) ∧ RI w' b T k bad ∧ Within b (b + 1) w w') := by
  refine (c_next h hk hT c).mono ?_
  have e : nxB T k bad c = false := decide_eq_false hc
  rintro _ w' ⟨rfl, h2, h3⟩
  rw [e] at h2 ⊢
  exact ⟨rfl, h2, h3⟩
/-- The function f reads as r says, from lo on. -/
def ReadsI (b : Nat) (T : ByteArray) (E : Value) (f : FuncId) (r : Nat → PR) (lo : Nat) : Prop := ∀ W k, lo ≤ k → k ≤ T.size → RI W b T k (-1) → ErrIn W E → Calls Tryd.prog f #[.pointer (some ⟨b, 0, none⟩)] W (RP b T (r k) W)
def badN (w : World) (b : Nat) : Int := match w.cell? ⟨b, 2, none⟩ with | some (.int _ x) => x | _ => 0
theorem RI.badN {w : World} {b : Nat} {T : ByteArray} {k : Nat} {bad : Int} (h : RI w b T k bad) : badN w b = bad := by unfold Go.Proofs.YtjlpmfimbgbcmaaDoor.badN; rw [h.facts.2.2.1]
def ms (T : ByteArray) (w : World) (b : Nat) : Nat := if badN w b < 0 then T.size + 1 - atN w b else 0
theorem RI.ms {w : World} {b : Nat} {T : ByteArray} {k : Nat} {bad : Int} (h : RI w b T k bad) : ms T w b = if bad < 0 then T.size + 1 - k else 0 := by unfold Go.Proofs.YtjlpmfimbgbcmaaDoor.ms; rw [h.badN, h.atN]
theorem RI.lt {w : World} {b : Nat} {T : ByteArray} {k : Nat} {bad : Int} (h : RI w b T k bad) : b < w.heap.size := World.rowIs.lt h
/-- The reader behind a result. -/
def bd (r : PR) : Int := if r.ok = true then -1 else (r.at_ : Int)
/-- Where the loop of beside and then stands. -/
structure LpI (w : World) (b : Nat) (T : ByteArray) (k : Nat) (sub : Nat → PR) (c : Nat) (kind : Int) (fin : PR) (v : Value) (w' : World) (n : Nat) (r : PR) (at_ : Nat) : Prop where
  own : OwnP 73 w' w.heap.size v r.L
  rd : RI w' b T at_ (bd r)
  eq : r.ok = true → at_ = r.at_
  le : at_ ≤ T.size
  win : Within b (b + 1) w w'
  snd : Snd T k r
  fin : loopP T sub c kind n r = fin
  fuel : T.size < n + r.at_
theorem LpI.start {w w1 : World} {b : Nat} {T : ByteArray} {k at_ c : Nat} {kind : Int} {sub : Nat → PR} {r : PR} {v : Value} (hs : Snd T k r) (ho : OwnP 73 w1 w.heap.size v r.L) (hr : RI w1 b T at_ (bd r)) (he : r.ok = true → at_ = r.at_) (hl : at_ ≤ T.size) (hw : Within b (b + 1) w w1) :
    LpI w b T k sub c kind (loopP T sub c kind (T.size + 1) r) v w1 (T.size + 1) r at_ := ⟨ho, hr, he, hl, hw, hs, rfl, by have := hs.1; omega⟩
theorem LpI.out {w w1 w2 : World} {b : Nat} {T : ByteArray} {k at_ c n : Nat} {kind : Int} {sub : Nat → PR} {r fin : PR} {v : Value} (h : LpI w b T k sub c kind fin v w1 n r at_) (hb : b < w.heap.size) (hn : ¬ (r.ok = true ∧ r.at_ < T.size ∧ bA T r.at_ = c)) (hr : RI w2 b T at_ (bd r)) (hw : Within b (b + 1) w1 w2) :
    RP b T fin w (.returned v) w2 := by
  have e := h.fin
  rw [loopP_stop hn] at e
  subst e
  exact ⟨v, at_, rfl, h.own.keptW hw hb, hr, h.eq, h.le, h.win.trans hw⟩
theorem LpI.go {w w1 w2 w3 w4 : World} {b : Nat} {T : ByteArray} {k at_ at2 c n : Nat} {kind : Int} {sub : Nat → PR} {r fin : PR} {v u : Value} (h : LpI w b T k sub c kind fin v w1 n r at_) (hs : ∀ k, k ≤ T.size → Snd T k (sub k)) (hn : r.ok = true ∧ r.at_ < T.size ∧ bA T r.at_ = c) (i2 : Within b (b + 1) w1 w2) (i3 : Within b (b + 1) w2 w3) (r3 : RI w3 b T at2 (bd (sub (r.at_ + 1)))) (e3 : (sub (r.at_ + 1)).ok = true → at2 = (sub (r.at_ + 1)).at_) (l3 : at2 ≤ T.size) (b4 : Below w3.heap.size w3 w4)
    (o4 : OwnP 73 w4 w3.heap.size u ((kind, 0) :: (r.L ++ (sub (r.at_ + 1)).L))) :
    LpI w b T k sub c kind fin u w4 (n - 1) ⟨(sub (r.at_ + 1)).ok, (sub (r.at_ + 1)).at_, (kind, 0) :: (r.L ++ (sub (r.at_ + 1)).L)⟩ at2 ∧ ms T w4 b < ms T w1 b := by
  have h2 := hs (r.at_ + 1) (by omega)
  obtain ⟨n, rfl⟩ : ∃ m, n = m + 1 := ⟨n - 1, by have := h.fuel; omega⟩
  have wi := h.win
  have e := h.fin
  rw [loopP, if_pos hn] at e
  have hsz : w.heap.size ≤ w3.heap.size := Nat.le_trans wi.size (Nat.le_trans i2.size i3.size)
  have hl := h.eq hn.1
  have r4 : RI w4 b T at2 (bd (sub (r.at_ + 1))) := r3.below b4
  refine ⟨⟨o4.mono hsz, r4, e3, l3, ((wi.trans i2).trans i3).trans (bel_in b4 b), ?_, e, ?_⟩, ?_⟩
  · obtain ⟨a1, a2, a3, a4⟩ := h.snd
    obtain ⟨b1, b2, b3, b4⟩ := h2
    refine ⟨by show k ≤ (sub (r.at_ + 1)).at_; omega, b2, ?_, fun _ => by show k < (sub (r.at_ + 1)).at_; omega⟩
    show (((kind, (0 : Int)) :: (r.L ++ (sub (r.at_ + 1)).L)).length) ≤ (sub (r.at_ + 1)).at_ - k
    simp only [List.length_cons, List.length_append]
    omega
  · have := h.fuel
    have := h2.1
    show T.size < n + (sub (r.at_ + 1)).at_
    omega
  · rw [r4.ms, h.rd.ms, show bd r = -1 from if_pos hn.1, if_pos (show (-1 : Int) < 0 by decide)]
    by_cases q : (sub (r.at_ + 1)).ok = true
    · rw [show bd (sub (r.at_ + 1)) = -1 from if_pos q, if_pos (show (-1 : Int) < 0 by decide), e3 q]
      have := h2.2.2.2 q
      omega
    · rw [show bd (sub (r.at_ + 1)) = (((sub (r.at_ + 1)).at_ : Nat) : Int) from if_neg q, if_neg (by omega)]
      omega
set_option maxHeartbeats 1600000 in
theorem c_beside {w : World} {b : Nat} {T : ByteArray} {k lo : Nat} {E : Value} {sub : Nat → PR} (hsub : ReadsI b T E 83 sub lo) (hs : ∀ k, k ≤ T.size → Snd T k (sub k)) (hlo : lo ≤ k) (h : RI w b T k (-1)) (hE : ErrIn w E) (hb6 : b ≠ 6) (hk : k ≤ T.size) (hT : T.size ≤ 200) :
    Calls Tryd.prog 64 #[.pointer (some ⟨b, 0, none⟩)] w (RP b T (loopP T sub 42 3 (T.size + 1) (sub k)) w) := by
  have HS := Lib.hid hsub
  have HN := Lib.hid hs
  have HE := Lib.hid hE
  have HR := Lib.hid h
  have hbl := h.lt
  clear hsub hs h hE
  go_enter Tryd.func64, Tryd.ntmps64
  go_wp2_with fail
  refine (HS.out w k hlo hk HR.out HE.out).mono ?_
  rintro e w1 ⟨v, at0, rfl, ov, r1, ea, la, i1⟩
  obtain ⟨ao, cc, rfl⟩ := ov.shape
  have HL := Lib.hid (LpI.start (c := 42) (kind := 3) (sub := sub) (HN.out k hk) ov r1 ea la i1)
  clear ov r1 ea la i1
  go_wp2_with fail
  go_loopw [3] (fun v w' => ∃ (n : Nat) (r : PR) (a : Nat), Hid (LpI w b T k sub 42 3 (loopP T sub 42 3 (T.size + 1) (sub k)) v w' n r a)) (fun _ w' => ms T w' b)
  case atStart => exact ⟨_, _, _, HL⟩
  case round =>
    obtain ⟨n, r, a, HL⟩ := hrel
    obtain ⟨ao, cc, rfl⟩ := HL.out.own.shape
    have hll := HL.out.snd.2.2.1
    have hal := HL.out.snd.2.1
    by_cases hc : r.ok = true ∧ r.at_ < T.size ∧ bA T r.at_ = 42
    · have HC := Lib.hid hc
      have hlt := hc.2.1
      have RR := HL.out.rd
      rw [HL.out.eq hc.1] at RR
      unfold bd at RR
      rw [if_pos hc.1] at RR
      have HRR := Lib.hid RR
      clear hc RR
      go_wp2_with fail
      refine (c_next_yes HRR.out hlt hT HC.out.2.2).mono ?_
      rintro e w2 ⟨rfl, r2, i2⟩
      have H2 := Lib.hid (⟨r2, i2⟩ : _ ∧ _)
      clear r2 i2
      go_wp2_with fail
      refine (HS.out w2 (r.at_ + 1) (by have := HL.out.snd.1; omega) (by omega) H2.out.1 (HE.out.in_ (HL.out.win.trans H2.out.2) hb6)).mono ?_
      rintro e w3 ⟨y, at2, rfl, oy, r3, e3, l3, i3⟩
      obtain ⟨ay, cy, rfl⟩ := oy.shape
      have o3 := (HL.out.own.keptW H2.out.2 hbl).keptW i3 hbl
      have hl2 := (HN.out (r.at_ + 1) (by omega)).2.2.1
      have hl3 := (HN.out (r.at_ + 1) (by omega)).2.1
      have H3 := Lib.hid (⟨r3, e3, l3, i3⟩ : _ ∧ _ ∧ _ ∧ _)
      have HO := Lib.hid (⟨o3, oy⟩ : _ ∧ _)
      clear r3 e3 l3 i3 o3 oy
      go_wp2_with fail
      refine (c_joined HO.out.1 HO.out.2 (by omega)).mono ?_
      rintro e w4 ⟨u, rfl, o4, b4⟩
      obtain ⟨au, cu, hu⟩ := o4.shape
      rw [List.length_cons, List.length_append] at hu
      subst hu
      have HG := Lib.hid (HL.out.go HN.out HC.out H2.out.2 H3.out.2.2.2 H3.out.1 H3.out.2.1 H3.out.2.2.1 b4 o4)
      clear o4 b4
      go_wp2_with fail
      go_roundw
      case rel => exact ⟨_, _, _, HG.out.1⟩
      case measure => exact HG.out.2
    · have HC := Lib.hid hc
      have HX := Lib.hid (show ¬ (bd r < 0 ∧ a < T.size ∧ bA T a = 42) from fun q => by
        by_cases hok : r.ok = true
        · rw [HL.out.eq hok] at q
          exact hc ⟨hok, q.2⟩
        · have q1 := q.1
          unfold bd at q1
          rw [if_neg hok] at q1
          omega)
      clear hc
      go_wp2_with fail
      refine (c_next_no HL.out.rd HL.out.le hT HX.out).mono ?_
      rintro e w2 ⟨rfl, r2, i2⟩
      go_wp2_with fail
      go_ret
      exact HL.out.out hbl HC.out r2 i2
set_option maxHeartbeats 1600000 in
theorem c_then {w : World} {b : Nat} {T : ByteArray} {k lo : Nat} {E : Value} {sub : Nat → PR} (hsub : ReadsI b T E 64 sub lo) (hs : ∀ k, k ≤ T.size → Snd T k (sub k)) (hlo : lo ≤ k) (h : RI w b T k (-1)) (hE : ErrIn w E) (hb6 : b ≠ 6) (hk : k ≤ T.size) (hT : T.size ≤ 200) :
    Calls Tryd.prog 39 #[.pointer (some ⟨b, 0, none⟩)] w (RP b T (loopP T sub 59 2 (T.size + 1) (sub k)) w) := by
  have HS := Lib.hid hsub
  have HN := Lib.hid hs
  have HE := Lib.hid hE
  have HR := Lib.hid h
  have hbl := h.lt
  clear hsub hs h hE
  go_enter Tryd.func39, Tryd.ntmps39
  go_wp2_with fail
  refine (HS.out w k hlo hk HR.out HE.out).mono ?_
  rintro e w1 ⟨v, at0, rfl, ov, r1, ea, la, i1⟩
  obtain ⟨ao, cc, rfl⟩ := ov.shape
  have HL := Lib.hid (LpI.start (c := 59) (kind := 2) (sub := sub) (HN.out k hk) ov r1 ea la i1)
  clear ov r1 ea la i1
  go_wp2_with fail
  go_loopw [3] (fun v w' => ∃ (n : Nat) (r : PR) (a : Nat), Hid (LpI w b T k sub 59 2 (loopP T sub 59 2 (T.size + 1) (sub k)) v w' n r a)) (fun _ w' => ms T w' b)
  case atStart => exact ⟨_, _, _, HL⟩
  case round =>
    obtain ⟨n, r, a, HL⟩ := hrel
    obtain ⟨ao, cc, rfl⟩ := HL.out.own.shape
    have hll := HL.out.snd.2.2.1
    have hal := HL.out.snd.2.1
    by_cases hc : r.ok = true ∧ r.at_ < T.size ∧ bA T r.at_ = 59
    · have HC := Lib.hid hc
      have hlt := hc.2.1
      have RR := HL.out.rd
      rw [HL.out.eq hc.1] at RR
      unfold bd at RR
      rw [if_pos hc.1] at RR
      have HRR := Lib.hid RR
      clear hc RR
      go_wp2_with fail
      refine (c_next_yes HRR.out hlt hT HC.out.2.2).mono ?_
      rintro e w2 ⟨rfl, r2, i2⟩
      have H2 := Lib.hid (⟨r2, i2⟩ : _ ∧ _)
      clear r2 i2
      go_wp2_with fail
      refine (HS.out w2 (r.at_ + 1) (by have := HL.out.snd.1; omega) (by omega) H2.out.1 (HE.out.in_ (HL.out.win.trans H2.out.2) hb6)).mono ?_
      rintro e w3 ⟨y, at2, rfl, oy, r3, e3, l3, i3⟩
      obtain ⟨ay, cy, rfl⟩ := oy.shape
      have o3 := (HL.out.own.keptW H2.out.2 hbl).keptW i3 hbl
      have hl2 := (HN.out (r.at_ + 1) (by omega)).2.2.1
      have hl3 := (HN.out (r.at_ + 1) (by omega)).2.1
      have H3 := Lib.hid (⟨r3, e3, l3, i3⟩ : _ ∧ _ ∧ _ ∧ _)
      have HO := Lib.hid (⟨o3, oy⟩ : _ ∧ _)
      clear r3 e3 l3 i3 o3 oy
      go_wp2_with fail
      refine (c_joined HO.out.1 HO.out.2 (by omega)).mono ?_
      rintro e w4 ⟨u, rfl, o4, b4⟩
      obtain ⟨au, cu, hu⟩ := o4.shape
      rw [List.length_cons, List.length_append] at hu
      subst hu
      have HG := Lib.hid (HL.out.go HN.out HC.out H2.out.2 H3.out.2.2.2 H3.out.1 H3.out.2.1 H3.out.2.2.1 b4 o4)
      clear o4 b4
      go_wp2_with fail
      go_roundw
      case rel => exact ⟨_, _, _, HG.out.1⟩
      case measure => exact HG.out.2
    · have HC := Lib.hid hc
      have HX := Lib.hid (show ¬ (bd r < 0 ∧ a < T.size ∧ bA T a = 59) from fun q => by
        by_cases hok : r.ok = true
        · rw [HL.out.eq hok] at q
          exact hc ⟨hok, q.2⟩
        · have q1 := q.1
          unfold bd at q1
          rw [if_neg hok] at q1
          omega)
      clear hc
      go_wp2_with fail
      refine (c_next_no HL.out.rd HL.out.le hT HX.out).mono ?_
      rintro e w2 ⟨rfl, r2, i2⟩
      go_wp2_with fail
      go_ret
      exact HL.out.out hbl HC.out r2 i2
theorem RP.of {w w' : World} {b : Nat} {T : ByteArray} {r : PR} {e : Ending} {w2 : World} (h : RP b T r w' e w2) (hw : Within b (b + 1) w w') : RP b T r w e w2 := by
  obtain ⟨v, a, rfl, h1, h2, h3, h4, h5⟩ := h
  exact ⟨v, a, rfl, h1.mono hw.size, h2, h3, h4, hw.trans h5⟩
theorem rpk_fail {w w1 : World} {b : Nat} {T : ByteArray} {a j : Nat} (h : RI w1 b T a (if (-1 : Int) < 0 then (j : Int) else -1)) (ha : a ≤ T.size) (hw : Within b (b + 1) w w1) :
    RP b T (fail j) w (.returned (.slice none 0 0)) w1 := ⟨_, a, rfl, OwnP.nil, h, fun e => (by cases e), ha, hw⟩
theorem reads_beside {b : Nat} {T : ByteArray} {E : Value} {sub : Nat → PR} {lo : Nat} (hsub : ReadsI b T E 83 sub lo) (hs : ∀ k, k ≤ T.size → Snd T k (sub k)) (hb6 : b ≠ 6) (hT : T.size ≤ 200) : ReadsI b T E 64 (besP T sub) lo :=
  fun _ _ hlo hk hr he => c_beside hsub hs hlo hr he hb6 hk hT
theorem reads_then {b : Nat} {T : ByteArray} {E : Value} {sub : Nat → PR} {lo : Nat} (hsub : ReadsI b T E 83 sub lo) (hs : ∀ k, k ≤ T.size → Snd T k (sub k)) (hb6 : b ≠ 6) (hT : T.size ≤ 200) : ReadsI b T E 39 (thnP T sub) lo :=
  fun _ _ hlo hk hr he => c_then (reads_beside hsub hs hb6 hT) (besP_snd hs) hlo hr he hb6 hk hT
set_option maxHeartbeats 3200000 in
theorem c_atom_step {b : Nat} {T : ByteArray} {E : Value} (hb6 : b ≠ 6) (hT : T.size ≤ 200) {n : Nat} (hth : ReadsI b T E 39 (thnP T (atomP T n)) (T.size + 1 - n)) : ReadsI b T E 83 (atomP T (n + 1)) (T.size + 1 - (n + 1)) := by
    intro w k hlo hk h hE
    have IH := Lib.hid hth
    clear hth
    obtain ⟨c0, c1, c2, f1, f2⟩ := h.facts
    have HR := Lib.hid h
    have HE := Lib.hid hE
    clear h hE
    have HB : Hid (b < w.heap.size) := HR.out.lt
    by_cases hlt : k < T.size
    · have b1 : ((k : Int) == (T.size : Int)) = false := by simp; omega
      have b1' : (k == T.size) = false := by simp; omega
      have kp : (0 : Int) ≤ (k : Int) := by omega
      have kq : (k : Int) < (T.size : Int) := by omega
      have hcs : bA T k = 40 ∨ bA T k = 105 ∨ bA T k = 102 ∨ (bA T k ≠ 40 ∧ bA T k ≠ 105 ∧ bA T k ≠ 102) := by omega
      rcases hcs with hc | hc | hc | hc
      · have HN := Lib.hid (show atomP T (n + 1) k = parP T (thnP T (atomP T n) (k + 1)) by rw [atomP, if_pos hlt, if_pos hc])
        have b40 : ((T[k].toNat : Int) == 40) = true := by rw [bA_lt hlt]; simp; omega
        have b40' : (T[k].toNat == 40) = true := by unfold bA at hc; rw [dif_pos hlt] at hc; simp <;> omega
        clear hc
        go_enter Tryd.func83, Tryd.ntmps83
        go_wp2_with fail
        go_quiet (fail)
        have RA := HR.out.drawn nq
        have WA := Drawn.in_ (w := w) (w' := w.drewN nq) ⟨nq, rfl⟩ b
        generalize w.drewN nq = wa at *
        clear c0 c1 c2 f1 f2
        obtain ⟨c0, c1, c2, f1, f2⟩ := RA.facts
        have HRA := Lib.hid RA
        have HWA := Lib.hid WA
        clear RA WA
        go_wp2_with fail
        go_quiet (fail)
        go_wp2_with fail
        have R2 : RI ((wa.drewN nq).setCell ⟨b, 1, none⟩ (.int .i64 ((k : Int) + 1))) b T (k + 1) (-1) := (HRA.out.drawn nq).setAt (k + 1)
        have I2 := (HWA.out.trans (Drawn.in_ (w' := wa.drewN nq) ⟨nq, rfl⟩ b)).trans (in_set (wa.drewN nq) b 1 (.int .i64 ((k : Int) + 1)))
        have HR2 := Lib.hid R2
        have HI2 := Lib.hid I2
        clear R2 I2 c0 c1 c2 f1 f2
        refine (IH.out _ (k + 1) (by omega) (by omega) HR2.out (HE.out.in_ HI2.out hb6)).mono ?_
        rintro e w3 H3
        replace H3 := H3.of HI2.out
        have hsn := thnP_snd (fun k hk => atomP_snd T n k hk) (k + 1) (show k + 1 ≤ T.size by omega)
        obtain ⟨r, hr⟩ : ∃ r, r = thnP T (atomP T n) (k + 1) := ⟨_, rfl⟩
        rw [← hr] at HN H3 hsn
        clear hr
        obtain ⟨v, a3, rfl, ov, r3, e3, l3, i3⟩ := H3
        obtain ⟨ao, cc, rfl⟩ := ov.shape
        have hrs := hsn.2.1
        by_cases hok : r.ok = true
        · rw [e3 hok, if_pos hok] at r3
          obtain ⟨c0, c1, c2, f1, f2⟩ := r3.facts
          have HOK := Lib.hid hok
          have H3 := Lib.hid (⟨ov, r3, i3⟩ : _ ∧ _ ∧ _)
          clear ov r3 i3 hok e3
          by_cases hp : r.at_ < T.size ∧ bA T r.at_ = 41
          · have HP := Lib.hid (show atomP T (n + 1) k = ⟨true, r.at_ + 1, r.L⟩ by rw [HN.out, parP, if_pos HOK.out, if_pos hp])
            have HQ := Lib.hid hp
            have hlt2 := hp.1
            clear hp
            go_wp2_with fail
            refine (c_next_yes H3.out.2.1 HQ.out.1 hT HQ.out.2).mono ?_
            rintro e w4 ⟨rfl, r4, i4⟩
            have H4 := Lib.hid (⟨r4, i4⟩ : _ ∧ _)
            clear r4 i4
            go_wp2_with fail
            go_ret
            rw [HP.out]
            exact ⟨_, r.at_ + 1, rfl, H3.out.1.keptW H4.out.2 HB.out, H4.out.1, fun _ => rfl, hlt2, H3.out.2.2.trans H4.out.2⟩
          · have HP := Lib.hid (show atomP T (n + 1) k = fail r.at_ by rw [HN.out, parP, if_pos HOK.out, if_neg hp])
            have HQ := Lib.hid (show ¬ ((-1 : Int) < 0 ∧ r.at_ < T.size ∧ bA T r.at_ = 41) from fun q => hp q.2)
            clear hp
            go_wp2_with fail
            refine (c_next_no H3.out.2.1 hrs hT HQ.out).mono ?_
            rintro e w4 ⟨rfl, r4, i4⟩
            have H4 := Lib.hid (⟨r4, i4⟩ : _ ∧ _)
            have c1 := r4.facts.2.1
            clear r4 i4
            go_wp2_with fail
            refine (c_fail H4.out.1 r.at_).mono ?_
            rintro e w5 ⟨rfl, r5, i5⟩
            go_wp2_with fail
            go_ret
            rw [HP.out]
            exact rpk_fail r5 hrs ((H3.out.2.2.trans H4.out.2).trans i5)
        · rw [if_neg hok] at r3
          obtain ⟨c0, c1, c2, f1, f2⟩ := r3.facts
          have d1 : decide ((r.at_ : Int) < 0) = false := decide_eq_false (by omega)
          have HP := Lib.hid (show atomP T (n + 1) k = r by rw [HN.out, parP, if_neg hok])
          have HOK := Lib.hid hok
          have H3 := Lib.hid (⟨ov, r3, i3⟩ : _ ∧ _ ∧ _)
          clear ov r3 i3 e3 hok
          go_wp2_with fail
          go_ret
          rw [HP.out]
          exact ⟨_, a3, rfl, H3.out.1, (by rw [if_neg HOK.out]; exact H3.out.2.1), fun q => absurd q HOK.out, l3, H3.out.2.2⟩
      · have HN := Lib.hid (show atomP T (n + 1) k = numP T 1 8 (k + 1) by rw [atomP, if_pos hlt, if_neg (by omega), if_pos hc])
        have b40 : ((T[k].toNat : Int) == 40) = false := by rw [bA_lt hlt]; simp; omega
        have b40' : (T[k].toNat == 40) = false := by unfold bA at hc; rw [dif_pos hlt] at hc; simp <;> omega
        have b105 : ((T[k].toNat : Int) == 105) = true := by rw [bA_lt hlt]; simp; omega
        have b105' : (T[k].toNat == 105) = true := by unfold bA at hc; rw [dif_pos hlt] at hc; simp <;> omega
        clear hc
        go_enter Tryd.func83, Tryd.ntmps83
        go_wp2_with fail
        go_quiet (fail)
        have RA := HR.out.drawn nq
        have WA := Drawn.in_ (w := w) (w' := w.drewN nq) ⟨nq, rfl⟩ b
        generalize w.drewN nq = wa at *
        clear c0 c1 c2 f1 f2
        obtain ⟨c0, c1, c2, f1, f2⟩ := RA.facts
        have HRA := Lib.hid RA
        have HWA := Lib.hid WA
        clear RA WA
        go_wp2_with fail
        go_quiet (fail)
        go_wp2_with fail
        have R2 : RI ((wa.drewN nq).setCell ⟨b, 1, none⟩ (.int .i64 ((k : Int) + 1))) b T (k + 1) (-1) := (HRA.out.drawn nq).setAt (k + 1)
        have I2 := (HWA.out.trans (Drawn.in_ (w' := wa.drewN nq) ⟨nq, rfl⟩ b)).trans (in_set (wa.drewN nq) b 1 (.int .i64 ((k : Int) + 1)))
        have HR2 := Lib.hid R2
        have HI2 := Lib.hid I2
        clear R2 I2 c0 c1 c2 f1 f2
        refine (c_number HR2.out (HE.out.in_ HI2.out hb6) hb6 (by omega) hT 1 8 (by omega)).mono ?_
        rintro e w3 H3
        replace H3 := H3.of HI2.out
        obtain ⟨v, a3, rfl, ov, r3, e3, l3, i3⟩ := H3
        obtain ⟨ao, cc, rfl⟩ := ov.shape
        have H3 := Lib.hid (⟨ov, r3, e3, l3, i3⟩ : _ ∧ _ ∧ _ ∧ _ ∧ _)
        clear ov r3 e3 l3 i3
        go_wp2_with fail
        go_ret
        rw [HN.out]
        exact ⟨_, a3, rfl, H3.out⟩
      · have HN := Lib.hid (show atomP T (n + 1) k = numP T 0 40 (k + 1) by rw [atomP, if_pos hlt, if_neg (by omega), if_neg (by omega), if_pos hc])
        have b40 : ((T[k].toNat : Int) == 40) = false := by rw [bA_lt hlt]; simp; omega
        have b40' : (T[k].toNat == 40) = false := by unfold bA at hc; rw [dif_pos hlt] at hc; simp <;> omega
        have b105 : ((T[k].toNat : Int) == 105) = false := by rw [bA_lt hlt]; simp; omega
        have b105' : (T[k].toNat == 105) = false := by unfold bA at hc; rw [dif_pos hlt] at hc; simp <;> omega
        have b102 : ((T[k].toNat : Int) == 102) = true := by rw [bA_lt hlt]; simp; omega
        have b102' : (T[k].toNat == 102) = true := by unfold bA at hc; rw [dif_pos hlt] at hc; simp <;> omega
        clear hc
        go_enter Tryd.func83, Tryd.ntmps83
        go_wp2_with fail
        go_quiet (fail)
        have RA := HR.out.drawn nq
        have WA := Drawn.in_ (w := w) (w' := w.drewN nq) ⟨nq, rfl⟩ b
        generalize w.drewN nq = wa at *
        clear c0 c1 c2 f1 f2
        obtain ⟨c0, c1, c2, f1, f2⟩ := RA.facts
        have HRA := Lib.hid RA
        have HWA := Lib.hid WA
        clear RA WA
        go_wp2_with fail
        go_quiet (fail)
        go_wp2_with fail
        have R2 : RI ((wa.drewN nq).setCell ⟨b, 1, none⟩ (.int .i64 ((k : Int) + 1))) b T (k + 1) (-1) := (HRA.out.drawn nq).setAt (k + 1)
        have I2 := (HWA.out.trans (Drawn.in_ (w' := wa.drewN nq) ⟨nq, rfl⟩ b)).trans (in_set (wa.drewN nq) b 1 (.int .i64 ((k : Int) + 1)))
        have HR2 := Lib.hid R2
        have HI2 := Lib.hid I2
        clear R2 I2 c0 c1 c2 f1 f2
        refine (c_number HR2.out (HE.out.in_ HI2.out hb6) hb6 (by omega) hT 0 40 (by omega)).mono ?_
        rintro e w3 H3
        replace H3 := H3.of HI2.out
        obtain ⟨v, a3, rfl, ov, r3, e3, l3, i3⟩ := H3
        obtain ⟨ao, cc, rfl⟩ := ov.shape
        have H3 := Lib.hid (⟨ov, r3, e3, l3, i3⟩ : _ ∧ _ ∧ _ ∧ _ ∧ _)
        clear ov r3 e3 l3 i3
        go_wp2_with fail
        go_ret
        rw [HN.out]
        exact ⟨_, a3, rfl, H3.out⟩
      · have HN := Lib.hid (show atomP T (n + 1) k = fail k by rw [atomP, if_pos hlt, if_neg hc.1, if_neg hc.2.1, if_neg hc.2.2])
        have b40 : ((T[k].toNat : Int) == 40) = false := by rw [bA_lt hlt]; simp; omega
        have b40' : (T[k].toNat == 40) = false := by unfold bA at hc; rw [dif_pos hlt] at hc; simp <;> omega
        have b105 : ((T[k].toNat : Int) == 105) = false := by rw [bA_lt hlt]; simp; omega
        have b105' : (T[k].toNat == 105) = false := by unfold bA at hc; rw [dif_pos hlt] at hc; simp <;> omega
        have b102 : ((T[k].toNat : Int) == 102) = false := by rw [bA_lt hlt]; simp; omega
        have b102' : (T[k].toNat == 102) = false := by unfold bA at hc; rw [dif_pos hlt] at hc; simp <;> omega
        clear hc
        go_enter Tryd.func83, Tryd.ntmps83
        go_wp2_with fail
        go_quiet (fail)
        have RA := HR.out.drawn nq
        have WA := Drawn.in_ (w := w) (w' := w.drewN nq) ⟨nq, rfl⟩ b
        generalize w.drewN nq = wa at *
        clear c0 c1 c2 f1 f2
        obtain ⟨c0, c1, c2, f1, f2⟩ := RA.facts
        have HRA := Lib.hid RA
        have HWA := Lib.hid WA
        clear RA WA
        go_wp2_with fail
        go_quiet (fail)
        go_wp2_with fail
        refine (c_fail (HRA.out.drawn nq) k).mono ?_
        rintro e w1 ⟨rfl, r1, i1⟩
        go_wp2_with fail
        go_ret
        rw [HN.out]
        exact rpk_fail r1 hk ((HWA.out.trans (Drawn.in_ (w' := wa.drewN nq) ⟨nq, rfl⟩ b)).trans i1)
    · have b1 : ((k : Int) == (T.size : Int)) = true := by simp; omega
      have b1' : (k == T.size) = true := by simp; omega
      have HN := Lib.hid (show atomP T (n + 1) k = fail k by rw [atomP, if_neg hlt])
      go_enter Tryd.func83, Tryd.ntmps83
      go_wp2_with fail
      go_quiet (fail)
      go_wp2_with fail
      refine (c_fail (HR.out.drawn nq) k).mono ?_
      rintro e w1 ⟨rfl, r1, i1⟩
      go_wp2_with fail
      go_ret
      rw [HN.out]
      exact rpk_fail r1 hk ((Drawn.in_ (w' := w.drewN nq) ⟨nq, rfl⟩ b).trans i1)
theorem c_atom {b : Nat} {T : ByteArray} {E : Value} (hb6 : b ≠ 6) (hT : T.size ≤ 200) : ∀ n, ReadsI b T E 83 (atomP T n) (T.size + 1 - n)
  | 0 => fun _ _ hlo hk _ _ => by omega
  | n + 1 => c_atom_step hb6 hT (reads_then (c_atom hb6 hT n) (fun k hk => atomP_snd T n k hk) hb6 hT)
end Go.Proofs.YtjlpmfimbgbcmaaDoor
