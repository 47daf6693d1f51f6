/-
  markNodeS and heldNodeS with the marks told; a result slice of nodes.
-/
import Derived.Test.YtmhhgaggkgcdbaaNodeOwn
namespace Go.Proofs.Ytmhhgaggkgcdbaa
open Go.ChangeShapes Go.WideShapes Go.ChangeAt Go.RowKit Go.Deep

/-- A slice of nodes of the call's own, not long. -/
structure ONL (B T : Nat) (w : World) (v : Value) (d : List Nd) : Prop where
  of : ONF B T w v d.length (gn d)
  len : d.length ≤ 1048576
  top : T ≤ w.heap.size
theorem ONL.ml {B T : Nat} {w : World} {v : Value} {d : List Nd} (h : ONL B T w v d) : ONL B T w v d := h
theorem ONL.is {B T : Nat} {w : World} {v : Value} {d : List Nd} (h : ONL B T w v d) : INS w v d := by
  have hl := h.len
  obtain ⟨ao, g, c, V, rfl, ha, hc, hV⟩ := h.of.cells
  obtain ⟨V', h1, h2, h3, h4, h5, h6⟩ := h.of
  exact ⟨⟨ao, g, 0, c, V, rfl, fun h0 => (ha h0).1, fun i hi => by rw [Nat.zero_add]; exact hc i hi, fun i hi => (hV i hi).is⟩, h6, hl⟩
theorem ONL.size {B T : Nat} {w : World} {v : Value} {d : List Nd} (h : ONL B T w v d) : pN d d.length ≤ 4503601774854144 := h.is.size
theorem ONL.kept {B T B' T' : Nat} {w w' : World} {v : Value} {d : List Nd} (h : ONL B T w v d) (hb : Within B' T' w w') (hd : T ≤ B' ∨ T' ≤ B) : ONL B T w' v d := ⟨h.of.kept hb hd, h.len, Nat.le_trans h.top hb.size⟩
theorem cN_rowN (d : List Nd) (A : Nat → Value) {n : Nat} (hn : n ≤ d.length) : (List.range (n * 3)).map (rowN d A d.length) = cN (gn d) A n := by
  induction n with
  | zero => rfl
  | succ n ih =>
    rw [show (n + 1) * 3 = n * 3 + 1 + 1 + 1 by omega, List.range_succ, List.range_succ, List.range_succ, List.map_append, List.map_append, List.map_append, ih (by omega)]
    have e0 : rowN d A d.length (n * 3) = .int .i64 (gn d n).kd := by rw [rowN, if_pos (by omega), if_pos (by omega), show n * 3 / 3 = n by omega]
    have e1 : rowN d A d.length (n * 3 + 1) = .int .i64 (gn d n).sy := by rw [rowN, if_pos (by omega), if_neg (by omega), if_pos (by omega), show (n * 3 + 1) / 3 = n by omega]
    have e2 : rowN d A d.length (n * 3 + 2) = A n := by rw [rowN, if_pos (by omega), if_neg (by omega), if_neg (by omega), show (n * 3 + 2) / 3 = n by omega]
    simp [cN, e0, e1, e2]
theorem ownsRow_of_row3 {E : TypeId} {w : World} {B b n : Nat} {f : Nat → Value} (hr : w.rowIs b E (n * 3) f) (hB : B ≤ b) (hn : n ≤ 4294967296) (c : Nat) (hc' : n ≤ c) (hc'' : c = n) : w.ownsRow B E 3 (.slice (some ⟨b, 0, none⟩) n c) n ((List.range (n * 3)).map f) := by
  subst hc''
  obtain ⟨cs, hb, hcn, hc⟩ := hr
  refine ⟨by simp, .inr ⟨b, c, cs, rfl, hB, hb, Nat.le_refl _, by unfold maxLen; omega, by omega, ?_⟩⟩
  rw [List.take_of_length_le (by simp; omega)]
  apply List.ext_getElem?
  intro i
  by_cases hi : i < c * 3
  · have := hc i hi
    rw [Array.getElem?_toList, this]
    simp [hi]
  · rw [List.getElem?_eq_none (by simp; omega), List.getElem?_eq_none (by simp; omega)]
theorem cN_set (D : Nat → Nd) (V : Nat → Value) (a b : Int) {n i : Nat} (hi : i < n) : ((cN D V n).set (i * 3) (.int .i64 a)).set (i * 3 + 1) (.int .i64 b) = cN (fun j => if j = i then ⟨a, b, (D i).ag⟩ else D j) V n := by
  have hl := cN_length D V n
  have hl' := cN_length (fun j => if j = i then (⟨a, b, (D i).ag⟩ : Nd) else D j) V n
  apply List.ext_getElem?
  intro p
  by_cases hp : p < n * 3
  · obtain ⟨q, r, rfl, hr⟩ : ∃ q r, p = q * 3 + r ∧ r < 3 := ⟨p / 3, p % 3, by omega, by omega⟩
    have hq : q < n := by omega
    obtain ⟨x0, x1, x2⟩ := cN_get D V hq
    obtain ⟨y0, y1, y2⟩ := cN_get (fun j => if j = i then (⟨a, b, (D i).ag⟩ : Nd) else D j) V hq
    have : r = 0 ∨ r = 1 ∨ r = 2 := by omega
    rw [List.getElem?_set, List.getElem?_set]
    by_cases e : q = i
    · subst e
      simp only [if_true] at y0 y1 y2
      rcases this with rfl | rfl | rfl
      · rw [if_neg (by omega), if_pos (by omega), if_pos (by omega), Nat.add_zero, y0]
      · rw [if_pos (by omega), if_pos (by simp; omega), y1]
      · rw [if_neg (by omega), if_neg (by omega), x2, y2]
    · simp only [if_neg e] at y0 y1 y2
      rw [if_neg (by omega), if_neg (by omega)]
      rcases this with rfl | rfl | rfl
      · rw [Nat.add_zero, x0, y0]
      · rw [x1, y1]
      · rw [x2, y2]
  · rw [List.getElem?_eq_none (by simp; omega), List.getElem?_eq_none (by omega)]
theorem OwnT.apart {E : TypeId} {B T g t : Nat} {w w' : World} {u : Value} {xs : List Int} (h : OwnT E B T w u xs) (hw : Within g t w w') (hk : ∀ k, u.ownBlock = some k → k < g ∨ t ≤ k) : OwnT E B T w' u xs :=
  ⟨⟨ownsRow_within h.own.row hw hk, h.own.wf, h.own.len⟩, h.top⟩
/-- Nodes that hold k, k + 1, .. -/
def mkNd (k : Int) (d : List Nd) (i : Nat) : Nd := ⟨k + (pN d i : Int), k + (pN d i : Int) + 1, mkI (k + (pN d i : Int) + 2) (gn d i).ag.length⟩
def mkNS (k : Int) (d : List Nd) : List Nd := (List.range d.length).map (mkNd k d)
theorem mkNS_length (k : Int) (d : List Nd) : (mkNS k d).length = d.length := by simp [mkNS]
theorem gn_mkNS {k : Int} {d : List Nd} {i : Nat} (h : i < d.length) : gn (mkNS k d) i = mkNd k d i := by
  rw [gn_lt (by rw [mkNS_length]; exact h)]; simp [mkNS]
/-- Node i is written: its two numbers, and its slice by a call that writes that alone. -/
theorem ONF.put {B T : Nat} {w w' : World} {g0 c0 : Nat} {n : Nat} {D : Nat → Nd} {V : Nat → Value} (h1 : w.ownsRow B 45 3 (.slice (some ⟨g0, 0, none⟩) n c0) n (cN D V n)) (h2 : ∀ k, (Value.slice (some ⟨g0, 0, none⟩) n c0).ownBlock = some k → k < T)
    (h3 : ∀ i, i < n → OwnT 2 B T w (V i) (D i).ag) (h4 : ∀ i j, i < n → j < n → i ≠ j → Dj (V i) (V j)) (h5 : ∀ i, i < n → Dj (V i) (.slice (some ⟨g0, 0, none⟩) n c0)) (h6 : ∀ i, i < n → I64 (D i).kd ∧ I64 (D i).sy) {i g t : Nat} (hi : i < n) {a b : Int} {ys : List Int}
    (hg : ((V i).ownBlock = some g ∧ t = g + 1) ∨ (V i = .slice none 0 0 ∧ g = 0 ∧ t = 0)) (hw : Within g t ((w.setCell ⟨g0, i * 3, none⟩ (.int .i64 a)).setCell ⟨g0, i * 3 + 1, none⟩ (.int .i64 b)) w') (ho : OwnT 2 g t w' (V i) ys) (ha : I64 a) (hb : I64 b) : ONF B T w' (.slice (some ⟨g0, 0, none⟩) n c0) n (fun j => if j = i then ⟨a, b, ys⟩ else D j) := by
  have key : ∀ u : Value, Dj (V i) u → ∀ k, u.ownBlock = some k → k < g ∨ t ≤ k := by
    intro u hd k hk
    rcases hg with ⟨hg, rfl⟩ | ⟨_, _, hg⟩
    · rcases hd with hd | hd
      · rw [hg] at hd; cases hd
      · rw [hg, hk] at hd
        have : k ≠ g := fun e => hd (by rw [e])
        omega
    · omega
  have s1 := ((h1.stored (i * 3) (.int .i64 a)).1.stored (i * 3 + 1) (.int .i64 b)).1
  rw [cN_set D V a b hi] at s1
  have m2 : Within g0 (g0 + 1) w ((w.setCell ⟨g0, i * 3, none⟩ (.int .i64 a)).setCell ⟨g0, i * 3 + 1, none⟩ (.int .i64 b)) :=
    ((Within.refl _ _ _).setCell (p := ⟨g0, i * 3, none⟩) (Nat.le_refl _) (Nat.lt_succ_self _) _).setCell (p := ⟨g0, i * 3 + 1, none⟩) (Nat.le_refl _) (Nat.lt_succ_self _) _
  refine ⟨V, ?_, h2, fun j hj => ?_, h4, h5, fun j hj => ?_⟩
  · rw [cN_congr (D' := fun j => if j = i then ⟨a, b, (D i).ag⟩ else D j) (V' := V) (fun j _ => by by_cases e : j = i <;> simp [e])]
    exact ownsRow_within s1 hw (key _ (h5 i hi))
  · dsimp only
    by_cases e : j = i
    · rw [if_pos e, e]
      rcases hg with ⟨hg, rfl⟩ | ⟨hg, _⟩
      · have hbb := (h3 i hi).lt g hg
        exact ho.mono hbb.1 (by omega)
      · have hrow := ho.own.row
        rw [hg] at hrow ⊢
        refine ⟨⟨⟨hrow.1, ?_⟩, ho.own.wf, ho.own.len⟩, fun k hk => by simp [Value.ownBlock] at hk⟩
        rcases hrow.2 with hh | ⟨g', c', cu, hh, _⟩
        · exact .inl hh
        · cases hh
    · rw [if_neg e]
      have hk := (h3 j hj).apart m2 (fun k hk => by
        rcases h5 j hj with hd | hd
        · rw [hd] at hk; cases hk
        · rw [hk] at hd
          have : k ≠ g0 := fun e => hd (by rw [e]; rfl)
          omega)
      exact hk.apart hw (key (V j) (h4 i j hi hj (Ne.symm e)))
  · dsimp only
    by_cases e : j = i
    · rw [if_pos e]; exact ⟨ha, hb⟩
    · rw [if_neg e]; exact h6 j hj
theorem pN_succ (d : List Nd) (i : Nat) : pN d (i + 1) = pN d i + 2 + (gn d i).ag.length := rfl
set_option maxHeartbeats 1600000 in
theorem c_markNodeS {B T : Nat} {w : World} {v : Value} {d : List Nd} (h : ONL B T w v d) (k : Int) (hk : 0 ≤ k) (hk' : k + (pN d d.length : Int) ≤ 4611686018427387904) :
    Calls Try.prog 11 #[v, .int .i64 k] w (fun e w' => e = .returned (.int .i64 (k + (pN d d.length : Int))) ∧ ONL B T w' v (mkNS k d) ∧ Within B T w w') := by
  obtain ⟨ao, g0, c, V0, rfl, hg0, -, -⟩ := h.of.cells
  have hlen := h.len
  have htop := h.top
  have HO := Lib.hid h.of
  have HM := Lib.hid (fun i (hi : i ≤ d.length) => pN_mono d hi)
  clear h
  go_enter Try.func11, Try.ntmps11
  go_wp2_with fail
  go_loopw [1, 5] (fun kv iv wr => ∃ (i : Nat), i ≤ d.length ∧ iv = .int .i64 i ∧ kv = .int .i64 (k + (pN d i : Int)) ∧ Within B T w wr ∧ ONF B T wr (.slice ao d.length c) d.length (fun j => if j < i then mkNd k d j else gn d j)) (fun _ iv _ => d.length - (intOf iv).toNat)
  case atStart => exact ⟨0, Nat.zero_le _, rfl, by simp [pN], Within.refl _ _ _, HO.out.congr (fun i _ => by simp)⟩
  case round =>
    obtain ⟨i, hi, rfl, rfl, hw, hof⟩ := hrel
    have hpi := HM.out i hi
    by_cases hlt : i < d.length
    · obtain ⟨rfl, hB, hT⟩ := hg0 (by omega)
      obtain ⟨V, h1, h2, h3, h4, h5, h6⟩ := hof
      obtain ⟨x0, x1, x2⟩ := cN_get (fun j => if j < i then mkNd k d j else gn d j) V hlt
      simp only [Nat.lt_irrefl, if_false] at x0 x1 x2
      have hl3 := cN_length (fun j => if j < i then mkNd k d j else gn d j) V d.length
      have hst : wr.cell? ⟨g0, i * 3, none⟩ = some (.int .i64 (gn d i).kd) := by rw [h1.cellAt (i * 3) (by omega)]; exact x0
      have hst1 : wr.cell? ⟨g0, i * 3 + 1, none⟩ = some (.int .i64 (gn d i).sy) := by rw [h1.cellAt (i * 3 + 1) (by omega)]; exact x1
      have hst2 : wr.cell? ⟨g0, i * 3 + 2, none⟩ = some (V i) := by rw [h1.cellAt (i * 3 + 2) (by omega)]; exact x2
      have hfz := h1.frozenAt (i * 3)
      have hfz1 := h1.frozenAt (i * 3 + 1)
      have hp1 := HM.out (i + 1) (by omega)
      have hpe := pN_succ d i
      have h3i := h3 i hlt
      simp only [Nat.lt_irrefl, if_false] at h3i
      obtain ⟨g, t, ot, hgt⟩ := h3i.tight
      have m2 : Within g0 (g0 + 1) wr ((wr.setCell ⟨g0, i * 3, none⟩ (.int .i64 (k + (pN d i : Int)))).setCell ⟨g0, i * 3 + 1, none⟩ (.int .i64 (k + (pN d i : Int) + 1))) :=
        ((Within.refl _ _ _).setCell (p := ⟨g0, i * 3, none⟩) (Nat.le_refl _) (Nat.lt_succ_self _) _).setCell (p := ⟨g0, i * 3 + 1, none⟩) (Nat.le_refl _) (Nat.lt_succ_self _) _
      have hne : ∀ q, (V i).ownBlock = some q → q ≠ g0 := fun q hq e => by
        rcases h5 i hlt with hd | hd
        · rw [hd] at hq; cases hq
        · rw [hq, e] at hd; exact hd rfl
      have hot : OwnT 2 g t ((wr.setCell ⟨g0, i * 3, none⟩ (.int .i64 (k + (pN d i : Int)))).setCell ⟨g0, i * 3 + 1, none⟩ (.int .i64 (k + (pN d i : Int) + 1))) (V i) (gn d i).ag :=
        ot.apart m2 (fun q hq => by have := hne q hq; omega)
      have hlx := ot.own.len
      have HGB : Hid ((B ≤ g ∧ g < T ∧ t = g + 1) ∨ (g = 0 ∧ t = 0)) := by
        rcases hgt with ⟨h1, h2⟩ | ⟨-, h2, h3⟩
        · have := h3i.lt g h1
          exact .inl ⟨by omega, by omega, h2⟩
        · exact .inr ⟨h2, h3⟩
      have HW2 := Lib.hid (hw.trans (m2.mono hB (by omega)))
      rw [hpe] at hp1
      have HPE := Lib.hid hpe
      have H1 := Lib.hid h1
      have H2 := Lib.hid h2
      have H3 := Lib.hid h3
      have H4 := Lib.hid h4
      have H5 := Lib.hid h5
      have H6 := Lib.hid h6
      have HGT := Lib.hid hgt
      have HOT := Lib.hid hot
      clear m2 hw h1 h2 h3 h4 h5 h6 h3i hgt hot ot hne x0 x1 x2 hl3 hpe
      go_wp2_with fail
      refine (c_markInt64S HOT.out _ (by omega) (by omega)).mono ?_
      rintro e w5 ⟨rfl, p5, m5⟩
      have hput := ONF.put H1.out H2.out H3.out H4.out H5.out H6.out hlt HGT.out m5 p5 (by constructor <;> omega) (by constructor <;> omega)
      have HPUT := Lib.hid hput
      have HW5 : Hid (Within B T w w5) := by
        rcases HGB.out with ⟨h1, h2, h3⟩ | ⟨h1, h2⟩
        · exact HW2.out.trans (m5.mono (by omega) (by omega))
        · subst h1 h2; exact HW2.out.trans (m5.zero B T)
      clear p5 m5 hput hst hst1 hst2 hfz hfz1
      go_wp2_with fail
      go_roundw
      case rel => exact ⟨i + 1, by omega, by go_num, by rw [HPE.out]; congr 1; omega, HW5.out, HPUT.out.congr (fun j hj => by
          by_cases e : j = i
          · subst e; rw [if_pos rfl, if_pos (by omega)]; simp only [mkNd]; congr 2; omega
          · rw [if_neg e]
            by_cases e2 : j < i
            · rw [if_pos e2, if_pos (by omega)]
            · rw [if_neg e2, if_neg (by omega)])⟩
      case measure => simp [intOf]; omega
    · have hie : i = d.length := by omega
      have HE : Hid ((pN d i : Int) = (pN d d.length : Int)) := by unfold Hid; rw [hie]
      have hlb : decide ((i : Int) < (d.length : Int)) = false := by simp; omega
      have HF := Lib.hid hof
      clear hof
      go_wp2_with fail
      go_ret
      refine ⟨by rw [← HE.out]; rfl, ⟨?_, by rw [mkNS_length]; exact hlen, Nat.le_trans htop hw.size⟩, hw⟩
      rw [mkNS_length]
      exact HF.out.congr (fun j hj => by rw [if_pos (by omega), gn_mkNS hj])
theorem c_heldNodeS {w : World} {v : Value} {k : Int} {d : List Nd} (h : INS w v (mkNS k d)) (hk : 0 ≤ k) (hk' : k + (pN d d.length : Int) ≤ 4611686018427387904) :
    Calls Try.prog 12 #[v, .int .i64 k] w (Rd w (.int .i64 (k + (pN d d.length : Int)))) := by
  obtain ⟨ao, b, o, c, A, rfl, ha, hc, hA⟩ := h.ex
  have hlen := h.len
  rw [mkNS_length] at ha hc hA hlen ⊢
  have HC := Lib.hid hc
  have HA := Lib.hid hA
  have HM := Lib.hid (fun i (hi : i ≤ d.length) => pN_mono d hi)
  clear h hc hA
  go_enter Try.func12, Try.ntmps12
  go_wp2_with fail
  go_loopw [1, 5] (fun kv iv wr => ∃ i m : Nat, i ≤ d.length ∧ iv = .int .i64 i ∧ kv = .int .i64 (k + (pN d i : Int)) ∧ wr = w.drewN m) (fun _ iv _ => d.length - (intOf iv).toNat)
  case atStart => exact ⟨0, 0, Nat.zero_le _, rfl, by simp [pN], rfl⟩
  case round =>
    obtain ⟨i, m, hi, rfl, rfl, rfl⟩ := hrel
    have hpi := HM.out i hi
    by_cases hlt : i < d.length
    · obtain rfl := ha (by omega)
      obtain ⟨x0, x1, x2⟩ := HC.out i hlt
      have hI := HA.out i hlt
      rw [gn_mkNS hlt] at x0 x1 hI
      simp only [mkNd] at x0 x1 hI
      have hp1 := HM.out (i + 1) (by omega)
      have hpe := pN_succ d i
      have hne0 : ((k + (pN d i : Int)) != (k + (pN d i : Int))) = false := by simp
      have hne1 : ((k + (pN d i : Int) + 1) != (k + (pN d i : Int) + 1)) = false := by simp
      have e2 : k + (pN d i : Int) + 1 + 1 = k + (pN d i : Int) + 2 := by omega
      rw [← e2] at hI
      have hlb : decide (k + (pN d i : Int) + 1 + 1 + ((gn d i).ag.length : Int) < 0) = false := by simp; omega
      have HI := Lib.hid hI
      have HPE := Lib.hid hpe
      clear hI hpe e2
      go_wp2_with fail
      refine (c_heldInt64S (HI.out.drawn (by repeat (first | exact Drawn.refl _ | refine Drawn.step ?_ _ | refine Drawn.one ?_))) (by omega) (by have := HPE.out; omega)).mono ?_
      rintro e w' ⟨rfl, n1, rfl⟩
      go_wp2_with fail
      go_roundw
      case rel => exact ⟨i + 1, _, by omega, by go_num, by rw [HPE.out]; congr 1; omega, rfl⟩
      case measure => simp [intOf]; omega
    · have hie : i = d.length := by omega
      have HE : Hid ((pN d i : Int) = (pN d d.length : Int)) := by unfold Hid; rw [hie]
      have hlb : decide ((i : Int) < (d.length : Int)) = false := by simp; omega
      clear hie
      go_wp2_with fail
      go_ret
      exact rd_int (by rw [HE.out]) (by repeat (first | exact Drawn.refl _ | refine Drawn.step ?_ _ | refine Drawn.one ?_))
theorem ONS.ml {B T : Nat} {w : World} {v : Value} {d : List Nd} (h : ONS B T w v d) : ONL B T w v d := by
  have hl := h.len
  have hwf := h.wf
  obtain ⟨b, c, A, rfl, hc, h1, h2, h3, hr, hA, hD⟩ := h.ex
  have ho := ownsRow_of_row3 hr h1 (show d.length ≤ 4294967296 by omega) c (by omega) hc
  rw [cN_rowN d A (Nat.le_refl _)] at ho
  refine ⟨⟨A, ho, fun k hk => ?_, fun i hi => (hA i hi).mono (by omega) (Nat.le_refl _), hD, fun i hi => ?_, hwf⟩, hl, h3⟩
  · have hk' : some b = some k := hk
    injection hk' with hk'
    omega
  · refine (Dj.of_lt (u := .slice (some ⟨b, 0, none⟩) d.length c) (N := b + 1) (fun k hk => ?_) (fun k hk => ((hA i hi).lt k hk).1)).symm
    have hk' : some b = some k := hk
    injection hk' with hk'
    omega
end Go.Proofs.Ytmhhgaggkgcdbaa
