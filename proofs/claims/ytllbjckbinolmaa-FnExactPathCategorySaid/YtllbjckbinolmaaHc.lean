/-
  PathCategory: hasCycle of the program.
-/
import Derived.Test.YtllbjckbinolmaaCyc
import Derived.BigRegion
namespace Go.Proofs.Ytllbjckbinolmaa
open Go.RowKit

theorem infoBool : (Try.prog.info? 4).map (fun i => (i.zero, i.size, i.bytes)) = some (some (.bool false), 1, 1) := by kernel_rfl
theorem infoBools : (Try.prog.info? 58).map (fun i => (i.zero, i.size, i.bytes)) = some (some (.slice none 0 0), 1, 24) := by kernel_rfl
def upd (f : Nat → Nat → Bool) (i j : Nat) (b : Bool) : Nat → Nat → Bool := fun x y => if x = i ∧ y = j then b else f x y
/-- The table, the first k rows made. -/
structure BT1 (w W : World) (n k : Nat) : Prop where
  bel : Below w.heap.size w W
  sz : W.heap.size = w.heap.size + 1 + k
  row : W.rowIs w.heap.size 58 n (fun i => if i < k then .slice (some ⟨w.heap.size + 1 + i, 0, none⟩) n n else .slice none 0 0)
  rows : ∀ i, i < k → W.rowIs (w.heap.size + 1 + i) 4 n (fun _ => .bool false)
theorem BT1.start (w : World) (n : Nat) : BT1 w (w.alloc (.cells (madeCells #[.slice none 0 0] n) 58)) n 0 :=
  ⟨bel_box _ _, by simp, (World.rowIs_made w _ _ _).congr (fun i _ => by simp), fun i hi => by omega⟩
theorem BT1.step {w W : World} {n k : Nat} (h : BT1 w W n k) (hk : k < n) : BT1 w ((W.alloc (.cells (madeCells #[.bool false] n) 4)).setCell ⟨w.heap.size, k, none⟩ (.slice (some ⟨W.heap.size, 0, none⟩) n n)) n (k + 1) := by
  have hb := bel_box W (.cells (madeCells #[.bool false] n) 4)
  refine ⟨(h.bel.trans (hb.mono (by have := h.sz; omega))).setCell (Nat.le_refl _) _, by simp [World.setCell, h.sz]; omega, ?_, fun i hi => ?_⟩
  · refine ((rowIs_kept h.row hb).set k _).congr (fun j _ => ?_)
    by_cases e : j = k
    · subst e; simp [h.sz]
    · by_cases e2 : j < k
      · simp [e, e2, show j < k + 1 by omega]
      · simp [e, e2, show ¬ j < k + 1 by omega]
  · by_cases e : i = k
    · subst e
      rw [← h.sz]
      exact (World.rowIs_made W _ _ _).setOther (by simp [h.sz]; omega) _
    · exact (rowIs_kept (h.rows i (by omega)) hb).setOther (by simp; omega) _
/-- The table of n rows. -/
structure BT (w W : World) (n : Nat) (f : Nat → Nat → Bool) : Prop where
  bel : Below w.heap.size w W
  sz : W.heap.size = w.heap.size + 1 + n
  row : W.rowIs w.heap.size 58 n (fun i => .slice (some ⟨w.heap.size + 1 + i, 0, none⟩) n n)
  rows : ∀ i, i < n → W.rowIs (w.heap.size + 1 + i) 4 n (fun j => .bool (f i j))
theorem BT.start {w W : World} {n : Nat} (h : BT1 w W n n) : BT w W n (fun _ _ => false) :=
  ⟨h.bel, h.sz, h.row.congr (fun i hi => by simp [hi]), fun i hi => h.rows i hi⟩
theorem BT.drawn {w W W' : World} {n : Nat} {f : Nat → Nat → Bool} (h : BT w W n f) (d : Drawn W W') : BT w W' n f := by
  have hb := d.below W.heap.size
  obtain ⟨q, rfl⟩ := d
  exact ⟨h.bel.trans (Drawn.below ⟨q, rfl⟩ _), h.sz, h.row.of_block rfl, fun i hi => (h.rows i hi).of_block rfl⟩
theorem BT.hd {w W : World} {n : Nat} {f : Nat → Nat → Bool} (h : BT w W n f) {i : Nat} (hi : i < n) : W.cell? ⟨w.heap.size, i, none⟩ = some (.slice (some ⟨w.heap.size + 1 + i, 0, none⟩) n n) := h.row.cell hi
theorem BT.at {w W : World} {n : Nat} {f : Nat → Nat → Bool} (h : BT w W n f) {i j : Nat} (hi : i < n) (hj : j < n) : W.cell? ⟨w.heap.size + 1 + i, j, none⟩ = some (.bool (f i j)) := (h.rows i hi).cell hj
theorem BT.fz {w W : World} {n : Nat} {f : Nat → Nat → Bool} (h : BT w W n f) {i : Nat} (hi : i < n) (j : Nat) : W.frozen? ⟨w.heap.size + 1 + i, j, none⟩ = false := (h.rows i hi).frozen j
theorem BT.set {w W : World} {n : Nat} {f : Nat → Nat → Bool} (h : BT w W n f) {i : Nat} (hi : i < n) (j : Nat) (b : Bool) : BT w (W.setCell ⟨w.heap.size + 1 + i, j, none⟩ (.bool b)) n (upd f i j b) := by
  refine ⟨h.bel.setCell (by simp; omega) _, by simp [World.setCell, h.sz], h.row.setOther (by simp; omega) _, fun x hx => ?_⟩
  by_cases e : x = i
  · subst e
    refine ((h.rows x hx).set j _).congr (fun y _ => ?_)
    unfold upd
    by_cases e2 : y = j <;> simp [e2]
  · refine ((h.rows x hx).setOther (by simp; omega) _).congr (fun y _ => ?_)
    unfold upd
    simp [e]
theorem Ed_succ {fr to : List Int} {m u v : Nat} : Ed fr to (m + 1) u v ↔ Ed fr to m u v ∨ ((gi fr m).toNat = u ∧ (gi to m).toNat = v) := by
  constructor
  · rintro ⟨j, hj, h1, h2⟩
    by_cases e : j = m
    · subst e; exact .inr ⟨h1, h2⟩
    · exact .inl ⟨j, by omega, h1, h2⟩
  · rintro (⟨j, hj, h⟩ | h)
    · exact ⟨j, by omega, h⟩
    · exact ⟨m, by omega, h⟩
/-- The arrows below e are in the table. -/
def EdF (fr to : List Int) (n e : Nat) (f : Nat → Nat → Bool) : Prop := ∀ i j, i < n → j < n → (f i j = true ↔ Ed fr to e i j)
theorem EdF.zero {fr to : List Int} {n : Nat} : EdF fr to n 0 (fun _ _ => false) := fun i j _ _ => ⟨(fun h => by cases h), fun ⟨q, hq, _⟩ => by omega⟩
theorem EdF.step {fr to : List Int} {n e u v : Nat} {f : Nat → Nat → Bool} (h : EdF fr to n e f) (hu : (gi fr e).toNat = u) (hv : (gi to e).toNat = v) : EdF fr to n (e + 1) (upd f u v true) := by
  intro i j hi hj
  rw [Ed_succ, hu, hv]
  unfold upd
  by_cases c : i = u ∧ j = v
  · rw [if_pos c]
    exact ⟨fun _ => .inr ⟨c.1.symm, c.2.symm⟩, fun _ => rfl⟩
  · rw [if_neg c]
    refine (h i j hi hj).trans ⟨.inl, fun q => ?_⟩
    rcases q with q | ⟨q1, q2⟩
    · exact q
    · exact absurd ⟨q1.symm, q2.symm⟩ c
/-- Warshall in place: round k, done up to (a, b). -/
structure WI (R : Nat → Nat → Prop) (n k a b : Nat) (f : Nat → Nat → Bool) : Prop where
  snd : ∀ i j, i < n → j < n → f i j = true → ∃ l, 0 < l ∧ WkF R l i j
  old : ∀ i j, i < n → j < n → Wl R k i j → f i j = true
  new : ∀ i j, i < n → j < n → (i < a ∨ (i = a ∧ j < b)) → Wl R (k + 1) i j → f i j = true
theorem WI.start {fr to : List Int} {n m : Nat} {f : Nat → Nat → Bool} (h : EdF fr to n m f) : WI (Ed fr to m) n 0 0 0 f :=
  ⟨fun i j hi hj e => ⟨1, by omega, WkF.one ((h i j hi hj).1 e)⟩, fun i j hi hj e => (h i j hi hj).2 e, fun i j hi hj q => by omega⟩
theorem WI.row {R : Nat → Nat → Prop} {n k a : Nat} {f : Nat → Nat → Bool} (h : WI R n k a n f) : WI R n k (a + 1) 0 f :=
  ⟨h.snd, h.old, fun i j hi hj q => h.new i j hi hj (by omega)⟩
theorem WI.all {R : Nat → Nat → Prop} {n k : Nat} {f : Nat → Nat → Bool} (h : WI R n k n 0 f) : WI R n (k + 1) 0 0 f :=
  ⟨h.snd, fun i j hi hj => h.new i j hi hj (.inl hi), fun i j hi hj q => by omega⟩
theorem WI.step {R : Nat → Nat → Prop} {n k a b : Nat} {f : Nat → Nat → Bool} (h : WI R n k a b f) (hk : k < n) (ha : a < n) (hb : b < n) : WI R n k a (b + 1) (upd f a b (f a b || (f a k && f k b))) := by
  have mono : ∀ i j, f i j = true → upd f a b (f a b || (f a k && f k b)) i j = true := fun i j e => by
    unfold upd
    split
    · rename_i c
      obtain ⟨rfl, rfl⟩ := c
      simp [e]
    · exact e
  refine ⟨fun i j hi hj e => ?_, fun i j hi hj e => mono i j (h.old i j hi hj e), fun i j hi hj q e => ?_⟩
  · unfold upd at e
    split at e
    · rename_i c
      obtain ⟨rfl, rfl⟩ := c
      rw [Bool.or_eq_true] at e
      rcases e with e | e
      · exact h.snd i j hi hj e
      · rw [Bool.and_eq_true] at e
        obtain ⟨e1, e2⟩ := e
        obtain ⟨l, l0, p⟩ := h.snd i k hi hk e1
        obtain ⟨l', l0', p'⟩ := h.snd k j hk hj e2
        exact ⟨l + l', by omega, p.append p'⟩
    · exact h.snd i j hi hj e
  · by_cases c : i = a ∧ j = b
    · obtain ⟨rfl, rfl⟩ := c
      unfold upd
      rw [if_pos ⟨rfl, rfl⟩]
      rcases e with e | ⟨e1, e2⟩
      · rw [h.old i j hi hj e]; rfl
      · rw [h.old i k hi hk e1, h.old k j hk hj e2]; simp
    · refine mono i j (h.new i j hi hj ?_ e)
      rcases q with q | ⟨q1, q2⟩
      · exact .inl q
      · exact .inr ⟨q1, by
          have : j ≠ b := fun z => c ⟨q1, z⟩
          omega⟩
theorem WI.cyc {R : Nat → Nat → Prop} {n : Nat} {f : Nat → Nat → Bool} (hR : ∀ u v, R u v → u < n ∧ v < n) (h : WI R n n 0 0 f) : Cyc R ↔ ∃ i, i < n ∧ f i i = true := by
  rw [wl_cyc hR]
  constructor
  · rintro ⟨i, hi, q⟩
    exact ⟨i, hi, h.old i i hi hi q⟩
  · rintro ⟨i, hi, q⟩
    obtain ⟨l, l0, p⟩ := h.snd i i hi hi q
    exact (wl_cyc hR).1 ⟨i, l, l0, p⟩
set_option maxRecDepth 1000000 in
set_option maxHeartbeats 3200000 in
theorem c_hasCycle {w : World} {vf vt : Value} {fr to : List Int} (hf : IS w vf fr) (ht : IS w vt to) (hl : to.length = fr.length) (hm : fr.length ≤ 1048576) {n : Nat} (hn : n ≤ 8) (he : ∀ j, j < fr.length → (0 ≤ gi fr j ∧ gi fr j < n) ∧ (0 ≤ gi to j ∧ gi to j < n)) {b : Bool} (hb : b = true ↔ Cyc (Ed fr to fr.length)) :
    Calls Try.prog 19 #[.int .i64 (n : Int), vf, vt] w (Ret w (.bool b)) := by
  obtain ⟨af, bf, of, cf, rfl, haf, hcf⟩ := hf.ex
  obtain ⟨at_, bt, ot, ct, rfl, hat, hct⟩ := ht.ex
  rw [hl] at hct hat ⊢
  have HF := Lib.hid hcf
  have HT := Lib.hid hct
  have HAF := Lib.hid haf
  have HAT := Lib.hid hat
  have HEE := Lib.hid he
  have HBB := Lib.hid hb
  clear hcf hct haf hat he hf ht hl hb
  have hmk := run_make_row' (P := Try.prog) 57 58 (.slice none 0 0) 24 Try.underlying57 infoBools rfl .i64 .i64 n (by omega) (by omega)
  have HMK := Lib.hid (run_make_row' (P := Try.prog) 58 4 (.bool false) 1 Try.underlying58 infoBool rfl .i64 .i64 n (by omega) (by omega))
  go_enter Try.func19, Try.ntmps19
  go_wp2_with fail
  clear hmk
  go_loopw [18] (fun i wr => ∃ k : Nat, k ≤ n ∧ i = .int .i64 k ∧ Hid (BT1 w wr n k)) (fun i _ => n - (intOf i).toNat)
  case atStart => exact ⟨0, Nat.zero_le _, rfl, BT1.start w n⟩
  case round =>
    obtain ⟨k, hk, rfl, HB1⟩ := hrel
    by_cases hlt : k < n
    · have hmk := HMK.out
      have d1 : decide ((k : Int) < (n : Int)) = true := decide_eq_true (by omega)
      have c5 : (wr.alloc (.cells (madeCells #[.bool false] n) 4)).cell? ⟨w.heap.size, k, none⟩ = some (.slice none 0 0) := by
        have := (rowIs_kept HB1.out.row (bel_box wr (.cells (madeCells #[.bool false] n) 4))).cell hlt
        simpa using this
      have f5 := (rowIs_kept HB1.out.row (bel_box wr (.cells (madeCells #[.bool false] n) 4))).frozen k
      have HS := Lib.hid (HB1.out.step hlt)
      go_wp2_with fail
      go_roundw
      case rel => exact ⟨k + 1, by omega, by go_num, HS⟩
      case measure => simp [intOf]; omega
    · have d1 : decide ((k : Int) < (n : Int)) = false := decide_eq_false (by omega)
      obtain rfl : k = n := by omega
      have HB := Lib.hid (BT.start HB1.out)
      clear HB1
      go_wp2_with fail
      go_loopw [29] (fun i wr => ∃ (e : Nat) (f : Nat → Nat → Bool), e ≤ fr.length ∧ i = .int .i64 e ∧ Hid (BT w wr k f) ∧ Hid (EdF fr to k e f)) (fun i _ => fr.length - (intOf i).toNat)
      case atStart => exact ⟨0, _, Nat.zero_le _, rfl, HB, EdF.zero⟩
      case round =>
        clear HB
        obtain ⟨e, f, hk2, rfl, HB, HE⟩ := hrel
        by_cases hle : e < fr.length
        · obtain ⟨⟨hu0, hu1⟩, hv0, hv1⟩ := HEE.out e hle
          have d2 : decide ((e : Int) < (fr.length : Int)) = true := decide_eq_true (by omega)
          go_wp2_with fail
          refine wp_region_still_tail 12 (by kernel_rfl) (by kernel_rfl) ?_
          simp only [List.take_succ_cons, List.take_zero, List.drop_succ_cons, List.drop_zero]
          obtain ⟨wq, hq⟩ : ∃ wq, wq = wr.drew := ⟨_, rfl⟩
          change wpStill _ _ wr.drew _ _ _
          rw [← hq]
          have hdq : Drawn wr wq := by subst hq; exact Drawn.one (Drawn.refl _)
          have Hq := Lib.hid hq
          clear hq
          have HB3 := Lib.hid (HB.out.drawn hdq)
          clear hdq HB
          obtain rfl := HAF.out (by omega)
          obtain rfl := HAT.out (by omega)
          obtain ⟨u, hu⟩ := Int.eq_ofNat_of_zero_le hu0
          obtain ⟨v, hv⟩ := Int.eq_ofNat_of_zero_le hv0
          have hun : u < k := by omega
          have hvn : v < k := by omega
          have cf : wq.cell? ⟨bf, of + e, none⟩ = some (.int .i64 (u : Int)) := by
            rw [← hu]
            exact upc HB3.out.bel (HF.out e hle)
          have ct : wq.cell? ⟨bt, ot + e, none⟩ = some (.int .i64 (v : Int)) := by
            rw [← hv]
            exact upc HB3.out.bel (HT.out e hle)
          have c1 := HB3.out.hd hun
          have c2 := HB3.out.at hun hvn
          have fz := HB3.out.fz hun v
          have HS := Lib.hid (HB3.out.set hun v true)
          have HE2 := Lib.hid (HE.out.step (u := u) (v := v) (by rw [hu]; rfl) (by rw [hv]; rfl))
          clear hu hv hu0 hu1 hv0 hv1 HE
          repeat still_step
          refine wpStill_nil ?_
          change wpList _ _ _ _ _ wr.drew
          rw [← Hq.out]
          clear Hq
          go_wp2_with fail
          go_roundw
          case rel => exact ⟨e + 1, _, by omega, by go_num, HS, HE2⟩
          case measure => simp [intOf]; omega
        · have d2 : decide ((e : Int) < (fr.length : Int)) = false := decide_eq_false (by omega)
          obtain rfl : e = fr.length := by omega
          have HW := Lib.hid (WI.start HE.out)
          clear HE
          go_wp2_with fail
          go_loopw [47] (fun i wr => ∃ (q : Nat) (f : Nat → Nat → Bool), q ≤ k ∧ i = .int .i64 q ∧ Hid (BT w wr k f) ∧ Hid (WI (Ed fr to fr.length) k q 0 0 f)) (fun i _ => k - (intOf i).toNat)
          case atStart => exact ⟨0, _, Nat.zero_le _, rfl, HB, HW⟩
          case round =>
            clear HB HW
            obtain ⟨q, f, hq, rfl, HB, HW⟩ := hrel
            by_cases hlq : q < k
            · have d3 : decide ((q : Int) < (k : Int)) = true := decide_eq_true (by omega)
              go_wp2_with fail
              go_loopw [52] (fun i wr => ∃ (a : Nat) (f : Nat → Nat → Bool), a ≤ k ∧ i = .int .i64 a ∧ Hid (BT w wr k f) ∧ Hid (WI (Ed fr to fr.length) k q a 0 f)) (fun i _ => k - (intOf i).toNat)
              case atStart => exact ⟨0, _, Nat.zero_le _, rfl, HB, HW⟩
              case round =>
                clear HB HW
                obtain ⟨a, f, ha, rfl, HB, HW⟩ := hrel
                by_cases hla : a < k
                · have d4 : decide ((a : Int) < (k : Int)) = true := decide_eq_true (by omega)
                  go_wp2_with fail
                  go_loopw [57] (fun i wr => ∃ (c : Nat) (f : Nat → Nat → Bool), c ≤ k ∧ i = .int .i64 c ∧ Hid (BT w wr k f) ∧ Hid (WI (Ed fr to fr.length) k q a c f)) (fun i _ => k - (intOf i).toNat)
                  case atStart => exact ⟨0, _, Nat.zero_le _, rfl, HB, HW⟩
                  case round =>
                    clear HB HW
                    obtain ⟨c, f, hc, rfl, HB, HW⟩ := hrel
                    by_cases hlc : c < k
                    · have d5 : decide ((c : Int) < (k : Int)) = true := decide_eq_true (by omega)
                      obtain ⟨x, hx⟩ : ∃ x, x = f a c := ⟨_, rfl⟩
                      obtain ⟨y, hy⟩ : ∃ y, y = f a q := ⟨_, rfl⟩
                      obtain ⟨z, hz⟩ : ∃ z, z = f q c := ⟨_, rfl⟩
                      have HW2 := Lib.hid (HW.out.step hlq hla hlc)
                      rw [← hx, ← hy, ← hz] at HW2
                      have HX := Lib.hid (And.intro hx (And.intro hy hz))
                      clear HW hx hy hz
                      have key : ∀ r : Bool, r = (x || (y && z)) → Hid (WI (Ed fr to fr.length) k q a (c + 1) (upd f a c r)) := fun r hr => by rw [hr]; exact HW2
                      have KEY := Lib.hid key
                      clear key HW2
                      go_wp2_with fail
                      have c1 := HB.out.hd hla
                      have c2 := HB.out.hd hlq
                      have c3 := HB.out.at hla hlc
                      have c4 := HB.out.at hla hlq
                      have c5 := HB.out.at hlq hlc
                      have fz := HB.out.fz hla c
                      rw [← HX.out.1] at c3
                      rw [← HX.out.2.1] at c4
                      rw [← HX.out.2.2] at c5
                      have hs : ∀ r, BT w (wr.setCell ⟨w.heap.size + 1 + a, c, none⟩ (.bool r)).drew k (upd f a c r) := fun r => (HB.out.set hla c r).drawn (Drawn.one (Drawn.refl _))
                      obtain ⟨ra, hra⟩ : ∃ r, r = w.heap.size + 1 + a := ⟨_, rfl⟩
                      obtain ⟨rq, hrq⟩ : ∃ r, r = w.heap.size + 1 + q := ⟨_, rfl⟩
                      rw [← hra] at c1 c3 c4 fz hs
                      rw [← hrq] at c2 c5
                      have HS := Lib.hid hs
                      clear hra hrq hs
                      cases x
                      case true =>
                        clear c2 c4 c5
                        go_region
                        clear c1 c3 fz
                        go_wp2_with fail
                        go_roundw
                        case rel => exact ⟨c + 1, _, by omega, by go_num, HS.out _, KEY.out _ rfl⟩
                        case measure => simp [intOf]; omega
                      cases y
                      case false =>
                        clear c2 c5
                        go_region
                        clear c1 c3 c4 fz
                        go_wp2_with fail
                        go_roundw
                        case rel => exact ⟨c + 1, _, by omega, by go_num, HS.out _, KEY.out _ rfl⟩
                        case measure => simp [intOf]; omega
                      cases z
                      all_goals (
                        go_region
                        clear c1 c2 c3 c4 c5 fz
                        go_wp2_with fail
                        go_roundw
                        case rel => exact ⟨c + 1, _, by omega, by go_num, HS.out _, KEY.out _ rfl⟩
                        case measure => simp [intOf]; omega)
                    · have d5 : decide ((c : Int) < (k : Int)) = false := decide_eq_false (by omega)
                      obtain rfl : c = k := by omega
                      have HW2 := Lib.hid HW.out.row
                      clear HW
                      go_wp2_with fail
                      go_roundw
                      case rel => exact ⟨a + 1, f, by omega, by go_num, HB, HW2⟩
                      case measure => simp [intOf]; omega
                · have d4 : decide ((a : Int) < (k : Int)) = false := decide_eq_false (by omega)
                  obtain rfl : a = k := by omega
                  have HW2 := Lib.hid HW.out.all
                  clear HW
                  go_wp2_with fail
                  go_roundw
                  case rel => exact ⟨q + 1, f, by omega, by go_num, HB, HW2⟩
                  case measure => simp [intOf]; omega
            · have d3 : decide ((q : Int) < (k : Int)) = false := decide_eq_false (by omega)
              obtain rfl : q = k := by omega
              have HCY := Lib.hid (HBB.out.trans (WI.cyc (n := q) (fun u v h => by
                obtain ⟨j, hj, rfl, rfl⟩ := h
                obtain ⟨⟨hu0, hu1⟩, hv0, hv1⟩ := HEE.out j hj
                omega) HW.out))
              clear HW
              go_wp2_with fail
              go_loopw [96] (fun i wr => ∃ j : Nat, j ≤ q ∧ i = .int .i64 j ∧ Hid (BT w wr q f) ∧ Hid (∀ i, i < j → f i i = false)) (fun i _ => q - (intOf i).toNat)
              case atStart => exact ⟨0, Nat.zero_le _, rfl, HB, fun i hi => by omega⟩
              case round =>
                clear HB
                obtain ⟨j, hj, rfl, HB, HN⟩ := hrel
                by_cases hlj : j < q
                · have d6 : decide ((j : Int) < (q : Int)) = true := decide_eq_true (by omega)
                  have c1 := HB.out.hd hlj
                  have c2 := HB.out.at hlj hlj
                  obtain ⟨x, hx⟩ : ∃ x, x = f j j := ⟨_, rfl⟩
                  rw [← hx] at c2
                  have HX := Lib.hid hx
                  clear hx
                  cases x with
                  | true =>
                    obtain rfl : b = true := HCY.out.2 ⟨j, hlj, HX.out.symm⟩
                    have HBL := Lib.hid HB.out.bel
                    go_wp2_with fail
                    go_ret
                    exact ⟨rfl, HBL.out⟩
                  | false =>
                    go_wp2_with fail
                    go_roundw
                    case rel => exact ⟨j + 1, by omega, by go_num, HB, fun i hi => by
                      by_cases e : i = j
                      · rw [e]; exact HX.out.symm
                      · exact HN.out i (by omega)⟩
                    case measure => simp [intOf]; omega
                · have d6 : decide ((j : Int) < (q : Int)) = false := decide_eq_false (by omega)
                  have hbf : b = false := by
                    cases b with
                    | false => rfl
                    | true =>
                      obtain ⟨i, hi, e⟩ := HCY.out.1 rfl
                      rw [HN.out i (by omega)] at e
                      cases e
                  subst hbf
                  have HBL := Lib.hid HB.out.bel
                  go_wp2_with fail
                  go_ret
                  exact ⟨rfl, HBL.out⟩
end Go.Proofs.Ytllbjckbinolmaa
