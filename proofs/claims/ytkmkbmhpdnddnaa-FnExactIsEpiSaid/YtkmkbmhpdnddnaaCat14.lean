/-
  Chapter 5: IsMono, IsEpi: program and reference.
-/
import Derived.Test.YtkmkbmhpdnddnaaCat7
namespace Go.Proofs.Ytkmkbmhpdnddnaa
open Go.RowKit

theorem cast_nodup {l : List Nat} (h : l.Nodup) : (l.map fun (i : Nat) => (i : Int)).Nodup := by
  induction l with
  | nil => simp
  | cons a l ih =>
    rw [List.nodup_cons] at h
    rw [List.map_cons, List.nodup_cons]
    refine ⟨?_, ih h.2⟩
    intro hm
    obtain ⟨b, hb, e⟩ := List.mem_map.1 hm
    have : b = a := by omega
    subst this
    exact h.1 hb
theorem homL_nodup (c : Cat) (x y : Int) : (homL c x y).Nodup := by
  unfold homL sel
  exact cast_nodup (List.nodup_range.filter _)
theorem nodup_gi {L : List Int} (h : L.Nodup) {i j : Nat} (hij : i < j) (hj : j < L.length) : gi L i ≠ gi L j := by
  rw [gi_lt hj, gi_lt (by omega : i < L.length)]
  exact List.pairwise_iff_getElem.1 h i j (by omega) hj hij
theorem mem_gi {L : List Int} {x : Int} (h : x ∈ L) : ∃ i, i < L.length ∧ gi L i = x := by
  obtain ⟨i, hi, rfl⟩ := List.getElem_of_mem h
  exact ⟨i, hi, gi_lt hi⟩
theorem Own.cap {E : TypeId} {w : World} {B : Nat} {ao : Option Addr} {n c : Nat} {xs : List Int} (h : Own E w B (.slice ao n c) xs) : n ≤ c := by
  rcases h.row.2 with ⟨e, -⟩ | ⟨g, cap, cur, e, _, _, hn, _⟩
  · simp at e; omega
  · simp at e; omega
/-- No two entries have the same value. -/
def CanP (val : Int → Int) (L : List Int) : Prop := ∀ i j, i < j → j < L.length → val (gi L i) ≠ val (gi L j)
noncomputable def canB (val : Int → Int) (L : List Int) : Bool := @decide (CanP val L) (Classical.propDecidable _)
theorem canB_t {val : Int → Int} {L : List Int} (h : CanP val L) : canB val L = true := @decide_eq_true _ (Classical.propDecidable _) h
theorem canB_f {val : Int → Int} {L : List Int} {i j : Nat} (hij : i < j) (hj : j < L.length) (h : val (gi L i) = val (gi L j)) : canB val L = false :=
  @decide_eq_false _ (Classical.propDecidable _) fun q => q i j hij hj h
theorem canB_n {val : Int → Int} {L : List Int} (h : canB val L = false) : ¬ CanP val L := @of_decide_eq_false _ (Classical.propDecidable _) h
theorem canB_p {val : Int → Int} {L : List Int} (h : canB val L = true) : CanP val L := @of_decide_eq_true _ (Classical.propDecidable _) h
theorem CanP.sym {val : Int → Int} {L : List Int} (h : CanP val L) {i j : Nat} (hi : i < L.length) (hj : j < L.length) (hn : i ≠ j) : val (gi L i) ≠ val (gi L j) := by
  rcases Nat.lt_or_gt_of_ne hn with h1 | h1
  · exact h i j h1 hj
  · exact fun e => h j i h1 hi e.symm
/-- What the closure holds on to. -/
structure Jn (w : World) (p q b : Nat) (c : Cat) (f : Int) : Prop where
  pc : PC w b c
  kp : w.cell? ⟨p, 0, none⟩ = some (.pointer (some ⟨b, 0, none⟩))
  ex : ∃ ab oo cc, w.cell? ⟨q, 0, none⟩ = some (.slice (some ⟨ab, oo, none⟩) 1 cc) ∧ w.cell? ⟨ab, oo, none⟩ = some (.int .i64 f)
theorem Jn.kept {w w' : World} {p q b : Nat} {c : Cat} {f : Int} (h : Jn w p q b c f) (hb : Below w.heap.size w w') : Jn w' p q b c f := by
  obtain ⟨h1, h2, ab, oo, cc, h3, h4⟩ := h
  exact ⟨h1.kept hb, up_cell hb h2, ab, oo, cc, up_cell hb h3, up_cell hb h4⟩
def MonoPair (c : Cat) (f g h : Int) : Prop := c.F g = c.F h → c.T g = c.F f → c.T h = c.F f → c.M g f ≠ c.M h f
def MonoP (c : Cat) (f : Int) : Prop := ∀ g h, c.Arr g → c.Arr h → g ≠ h → MonoPair c f g h
noncomputable def monoB (c : Cat) (f : Int) : Bool := @decide (MonoP c f) (Classical.propDecidable _)
theorem monoB_t {c : Cat} {f : Int} (h : MonoP c f) : monoB c f = true := @decide_eq_true _ (Classical.propDecidable _) h
theorem monoB_f {c : Cat} {f : Int} (h : ¬ MonoP c f) : monoB c f = false := @decide_eq_false _ (Classical.propDecidable _) h
theorem MonoP.lt {c : Cat} {f : Int} (h : ∀ g h : Int, c.Arr g → c.Arr h → g < h → MonoPair c f g h) : MonoP c f := by
  intro g k hg hk hn e1 e2 e3 e4
  by_cases hl : g < k
  · exact h g k hg hk hl e1 e2 e3 e4
  · exact h k g hk hg (by omega) e1.symm e3 e2 e4.symm
theorem MonoP.can {c : Cat} {f : Int} (h : ∀ s, c.Obj s → CanP (fun g => c.M g f) (homL c s (c.F f))) (S : Shape c) : MonoP c f := by
  intro g k hg hk hn e1 e2 e3 e4
  obtain ⟨i, hi, ei⟩ := mem_gi (homL_has hg rfl e2)
  obtain ⟨j, hj, ej⟩ := mem_gi (homL_has hk e1.symm e3)
  refine (h (c.F g) (S.fO g hg)).sym hi hj (fun q => hn (by rw [← ei, ← ej, q])) ?_
  show c.M _ f = c.M _ f
  rw [ei, ej, e4]
theorem MonoP.no {c : Cat} {f s : Int} (h : ¬ CanP (fun g => c.M g f) (homL c s (c.F f))) : ¬ MonoP c f := by
  intro q
  apply h
  intro i j hij hj
  obtain ⟨a1, a2, a3⟩ := homL_mem (gi_mem (xs := homL c s (c.F f)) (i := i) (by omega))
  obtain ⟨b1, b2, b3⟩ := homL_mem (gi_mem hj)
  exact q _ _ a1 b1 (nodup_gi (homL_nodup _ _ _) hij hj) (a2.trans b2.symm) (a3) (b3)
noncomputable def monoR (c : Cat) (f : Int) : Bool × Int := if codeA c [f] = 0 then (monoB c f, 0) else (false, codeA c [f])
theorem c_cloMono {w : World} {p q b : Nat} {c : Cat} {f : Int} (h : Jn w p q b c f) (S : Shape c) (hf : c.Arr f) {g : Int} (hg : c.Arr g) :
    Calls Try.prog 112 #[.int .i64 g, .int .i64 0, .pointer (some ⟨p, 0, none⟩), .pointer (some ⟨q, 0, none⟩)] w (Ret w (.int .i64 (c.M g f))) := by
  obtain ⟨pc, kp, ab, oo, cc, kq, ka⟩ := h
  have SH := Lib.hid S
  have HF := Lib.hid hf
  have HG := Lib.hid hg
  clear S hf hg
  go_enter Try.func112, Try.ntmps112
  go_wp2_with fail
  go_region_held3 (fun w' => Below w.heap.size w w' ∧ w'.cell? ⟨p, 0, none⟩ = some (.pointer (some ⟨b, 0, none⟩)) ∧ w'.cell? ⟨q, 0, none⟩ = some (.slice (some ⟨ab, oo, none⟩) 1 cc) ∧ w'.cell? ⟨ab, oo, none⟩ = some (.int .i64 f))
    (first | exact ⟨(Drawn.one (Drawn.refl _)).bel0, kp, kq, ka⟩ | (refine keep3 ?_ hb7; assumption) | (refine keep3 ?_ (bel_box _ _); assumption))
    (first | (go_at_call 103; (with_reducible refine (c_then (pc.kept (And.left (by assumption))) SH.out HG.out HF.out).mono ?_); rintro e wq ⟨rfl, d7⟩; have hb7 := d7.bel0))
  obtain ⟨hbl, -⟩ := ‹Below w.heap.size w wq ∧ _›
  clear hb7 kp kq ka
  go_wp2_with fail
  go_ret
  exact ⟨rfl, hbl⟩
set_option maxHeartbeats 1600000 in
theorem c_cancelsMono {w : World} {v : Value} {L : List Int} {p q b : Nat} {c : Cat} {f : Int} {B0 : Nat} (h0 : Own 2 w B0 v L) (hA : ∀ x ∈ L, c.Arr x) (h3 : Jn w p q b c f) (S : Shape c) (hf : c.Arr f) :
    Calls Try.prog 110 #[v, .int .i64 1, .func (.func 112) #[] #[.pointer (some ⟨p, 0, none⟩), .pointer (some ⟨q, 0, none⟩)]] w (Ret w (.bool (canB (fun g => c.M g f) L))) := by
  have h := h0.is
  obtain ⟨ao, bb, oo, cc, rfl, ha, hc⟩ := h.ex
  have hlen := h.len
  have hcap := h0.cap
  clear h0
  have HC := Lib.hid (fun W k (hW : Below w.heap.size w W) (hk : k < L.length) => c_cloMono (h3.kept hW) S hf (hA _ (gi_mem hk)))
  have HCC := Lib.hid hc
  clear h hA h3 S hf hc
  go_enter Try.func110, Try.ntmps110
  go_wp2_with fail
  go_loopw [7, 8, 10, 11, 12, 15] (fun _ _ _ _ _ i wr => ∃ k : Nat, k ≤ L.length ∧ i = .int .i64 k ∧ Below w.heap.size w wr ∧ Hid (∀ i j, i < j → i < k → j < L.length → (fun g => c.M g f) (gi L i) ≠ (fun g => c.M g f) (gi L j))) (fun _ _ _ _ _ i _ => L.length - (intOf i).toNat)
  case atStart => exact ⟨0, Nat.zero_le _, rfl, Below.refl _ _, fun i j h h2 => by omega⟩
  case round =>
    obtain ⟨k, hk, rfl, hb, hp⟩ := hrel
    by_cases hlt : k < L.length
    · obtain rfl := ha (by omega)
      have cx := up_cell hb (HCC.out k hlt)
      have CK := Lib.hid (fun W (hW : Below w.heap.size w W) => HC.out W k hW hlt)
      generalize hge : gi L k = g at *
      have HGE := Lib.hid hge
      clear hge
      by_cases hcc : cc = k + 1
      · go_wp2_with fail
        clear cx
        go_loopw [10, 11, 12, 25] (fun _ _ _ i wr => ∃ j : Nat, k + 1 + j ≤ L.length ∧ i = .int .i64 j ∧ Below w.heap.size w wr ∧ Hid (∀ q, k < q → q < k + 1 + j → (c.M g f) ≠ (fun g => c.M g f) (gi L q))) (fun _ _ _ i _ => L.length - k - (intOf i).toNat)
        case atStart => exact ⟨0, by omega, rfl, hb, fun q h1 h2 => by omega⟩
        case round =>
          obtain ⟨j, hj, rfl, hb2, hp2⟩ := hrel
          by_cases hlj : k + 1 + j < L.length
          · exfalso; omega
          · have hlb : ¬ (j < L.length - (k + 1)) := by omega
            have HP : Hid (∀ q, k < q → q < L.length → (c.M g f) ≠ (fun g => c.M g f) (gi L q)) := fun q h1 h2 => hp2.out q h1 (by omega)
            have HB2 := Lib.hid hb2
            clear hp2 hb2 hb
            go_wp2_with fail
            refine ⟨⟨_, _, _, _, _, _, _, ⟨k + 1, by omega, rfl, HB2.out, ?_⟩, rfl, rfl, rfl, rfl, rfl, rfl, by simp⟩, by simp [intOf]; omega⟩
            exact fun i j h h1 h2 => by
              by_cases e : i = k
              · subst e; show c.M _ f ≠ _; rw [HGE.out]; exact HP.out j h h2
              · exact hp.out i j h (by omega) h2
      · go_wp2_with fail
        clear cx
        go_loopw [10, 11, 12, 25] (fun _ _ _ i wr => ∃ j : Nat, k + 1 + j ≤ L.length ∧ i = .int .i64 j ∧ Below w.heap.size w wr ∧ Hid (∀ q, k < q → q < k + 1 + j → (c.M g f) ≠ (fun g => c.M g f) (gi L q))) (fun _ _ _ i _ => L.length - k - (intOf i).toNat)
        case atStart => exact ⟨0, by omega, rfl, hb, fun q h1 h2 => by omega⟩
        case round =>
          obtain ⟨j, hj, rfl, hb2, hp2⟩ := hrel
          by_cases hlj : k + 1 + j < L.length
          · have cy := up_cell hb2 (HCC.out (k + 1 + j) hlj)
            have CJ := Lib.hid (fun W (hW : Below w.heap.size w W) => HC.out W (k + 1 + j) hW hlj)
            have ej : oo + (k + 1 + j) = oo + (k + 1) + j := by omega
            rw [ej] at cy
            generalize hge : gi L (k + 1 + j) = h at *
            have HGJ := Lib.hid hge
            clear hge
            go_wp2_with fail
            clear cy
            by_cases e : c.M g f = c.M h f
            · have eb : (c.M g f == c.M h f) = true := by simp [e]
              have HG := Lib.hid (canB_f (val := (fun g => c.M g f)) (L := L) (i := k) (j := k + 1 + j) (by omega) hlj (by show c.M _ f = c.M _ f; rw [HGE.out, HGJ.out]; exact e))
              clear e
              go_loopw [11, 12] (fun e i wr => ∃ n : Nat, n ≤ 1 ∧ i = .int .i64 n ∧ e = .bool true ∧ Below w.heap.size w wr) (fun _ i _ => 1 - (intOf i).toNat)
              case atStart => exact ⟨0, Nat.zero_le _, rfl, rfl, hb2⟩
              case round =>
                obtain ⟨n, hn, rfl, rfl, hb3⟩ := hrel
                by_cases hn0 : n = 0
                · subst hn0
                  go_wp2_with fail
                  refine (CK.out _ hb3).mono ?_
                  rintro e w4 ⟨rfl, b4⟩
                  go_wp2_with fail
                  refine (CJ.out _ (bel_next hb3 b4)).mono ?_
                  rintro e w5 ⟨rfl, b5⟩
                  go_wp2_with fail
                  go_roundw
                  case rel => exact ⟨1, by omega, by go_num, by first | rfl | rw [eb], bel_next (bel_next hb3 b4) b5⟩
                  case measure => simp [intOf]
                · obtain rfl : n = 1 := by omega
                  clear eb
                  go_wp2_with fail
                  go_ret
                  exact ⟨by rw [HG.out]; rfl, hb3⟩
            · have eb : (c.M g f == c.M h f) = false := by simp [e]
              have HN := Lib.hid e
              clear e
              go_loopw [11, 12] (fun e i wr => ∃ n : Nat, n ≤ 1 ∧ i = .int .i64 n ∧ e = .bool (n == 0) ∧ Below w.heap.size w wr) (fun _ i _ => 1 - (intOf i).toNat)
              case atStart => exact ⟨0, Nat.zero_le _, rfl, rfl, hb2⟩
              case round =>
                obtain ⟨n, hn, rfl, rfl, hb3⟩ := hrel
                by_cases hn0 : n = 0
                · subst hn0
                  go_wp2_with fail
                  refine (CK.out _ hb3).mono ?_
                  rintro e w4 ⟨rfl, b4⟩
                  go_wp2_with fail
                  refine (CJ.out _ (bel_next hb3 b4)).mono ?_
                  rintro e w5 ⟨rfl, b5⟩
                  go_wp2_with fail
                  go_roundw
                  case rel => exact ⟨1, by omega, by go_num, by first | rfl | (rw [eb]; rfl), bel_next (bel_next hb3 b4) b5⟩
                  case measure => simp [intOf]
                · obtain rfl : n = 1 := by omega
                  clear eb
                  go_wp2_with fail
                  go_roundw
                  case rel => exact ⟨j + 1, by omega, by go_num, hb3, fun q h1 h2 => by
                    by_cases e : q = k + 1 + j
                    · subst e; rw [HGJ.out]; exact HN.out
                    · exact hp2.out q h1 (by omega)⟩
                  case measure => simp [intOf]; omega
          · have hlb : ¬ (j < L.length - (k + 1)) := by omega
            have HP : Hid (∀ q, k < q → q < L.length → (c.M g f) ≠ (fun g => c.M g f) (gi L q)) := fun q h1 h2 => hp2.out q h1 (by omega)
            have HB2 := Lib.hid hb2
            clear hp2 hb2 hb
            go_wp2_with fail
            go_roundw
            case rel => exact ⟨k + 1, by omega, by go_num, HB2.out, fun i j h h1 h2 => by
              by_cases e : i = k
              · subst e; show c.M _ f ≠ _; rw [HGE.out]; exact HP.out j h h2
              · exact hp.out i j h (by omega) h2⟩
            case measure => simp [intOf]; omega
    · have HG : Hid (canB (fun g => c.M g f) L = true) := canB_t fun i j h h1 => hp.out i j h (by omega) h1
      have hkb : decide ((k : Int) < (L.length : Int)) = false := by simp; omega
      clear hp
      go_wp2_with fail
      go_ret
      exact ⟨by rw [HG.out]; rfl, hb⟩
def EpiPair (c : Cat) (f g h : Int) : Prop := c.T g = c.T h → c.F g = c.T f → c.F h = c.T f → c.M f g ≠ c.M f h
def EpiP (c : Cat) (f : Int) : Prop := ∀ g h, c.Arr g → c.Arr h → g ≠ h → EpiPair c f g h
noncomputable def epiB (c : Cat) (f : Int) : Bool := @decide (EpiP c f) (Classical.propDecidable _)
theorem epiB_t {c : Cat} {f : Int} (h : EpiP c f) : epiB c f = true := @decide_eq_true _ (Classical.propDecidable _) h
theorem epiB_f {c : Cat} {f : Int} (h : ¬ EpiP c f) : epiB c f = false := @decide_eq_false _ (Classical.propDecidable _) h
theorem EpiP.lt {c : Cat} {f : Int} (h : ∀ g h : Int, c.Arr g → c.Arr h → g < h → EpiPair c f g h) : EpiP c f := by
  intro g k hg hk hn e1 e2 e3 e4
  by_cases hl : g < k
  · exact h g k hg hk hl e1 e2 e3 e4
  · exact h k g hk hg (by omega) e1.symm e3 e2 e4.symm
theorem EpiP.can {c : Cat} {f : Int} (h : ∀ s, c.Obj s → CanP (fun g => c.M f g) (homL c (c.T f) s)) (S : Shape c) : EpiP c f := by
  intro g k hg hk hn e1 e2 e3 e4
  obtain ⟨i, hi, ei⟩ := mem_gi (homL_has hg e2 rfl)
  obtain ⟨j, hj, ej⟩ := mem_gi (homL_has hk e3 e1.symm)
  refine (h (c.T g) (S.tO g hg)).sym hi hj (fun q => hn (by rw [← ei, ← ej, q])) ?_
  show c.M f _ = c.M f _
  rw [ei, ej, e4]
theorem EpiP.no {c : Cat} {f s : Int} (h : ¬ CanP (fun g => c.M f g) (homL c (c.T f) s)) : ¬ EpiP c f := by
  intro q
  apply h
  intro i j hij hj
  obtain ⟨a1, a2, a3⟩ := homL_mem (gi_mem (xs := homL c (c.T f) s) (i := i) (by omega))
  obtain ⟨b1, b2, b3⟩ := homL_mem (gi_mem hj)
  exact q _ _ a1 b1 (nodup_gi (homL_nodup _ _ _) hij hj) (a3.trans b3.symm) (a2) (b2)
noncomputable def epiR (c : Cat) (f : Int) : Bool × Int := if codeA c [f] = 0 then (epiB c f, 0) else (false, codeA c [f])
theorem c_cloEpi {w : World} {p q b : Nat} {c : Cat} {f : Int} (h : Jn w p q b c f) (S : Shape c) (hf : c.Arr f) {g : Int} (hg : c.Arr g) :
    Calls Try.prog 111 #[.int .i64 g, .int .i64 0, .pointer (some ⟨p, 0, none⟩), .pointer (some ⟨q, 0, none⟩)] w (Ret w (.int .i64 (c.M f g))) := by
  obtain ⟨pc, kp, ab, oo, cc, kq, ka⟩ := h
  have SH := Lib.hid S
  have HF := Lib.hid hf
  have HG := Lib.hid hg
  clear S hf hg
  go_enter Try.func111, Try.ntmps111
  go_wp2_with fail
  go_region_held3 (fun w' => Below w.heap.size w w' ∧ w'.cell? ⟨p, 0, none⟩ = some (.pointer (some ⟨b, 0, none⟩)) ∧ w'.cell? ⟨q, 0, none⟩ = some (.slice (some ⟨ab, oo, none⟩) 1 cc) ∧ w'.cell? ⟨ab, oo, none⟩ = some (.int .i64 f))
    (first | exact ⟨(Drawn.one (Drawn.refl _)).bel0, kp, kq, ka⟩ | (refine keep3 ?_ hb7; assumption) | (refine keep3 ?_ (bel_box _ _); assumption))
    (first | (go_at_call 103; (with_reducible refine (c_then (pc.kept (And.left (by assumption))) SH.out HF.out HG.out).mono ?_); rintro e wq ⟨rfl, d7⟩; have hb7 := d7.bel0))
  obtain ⟨hbl, -⟩ := ‹Below w.heap.size w wq ∧ _›
  clear hb7 kp kq ka
  go_wp2_with fail
  go_ret
  exact ⟨rfl, hbl⟩
set_option maxHeartbeats 1600000 in
theorem c_cancelsEpi {w : World} {v : Value} {L : List Int} {p q b : Nat} {c : Cat} {f : Int} {B0 : Nat} (h0 : Own 2 w B0 v L) (hA : ∀ x ∈ L, c.Arr x) (h3 : Jn w p q b c f) (S : Shape c) (hf : c.Arr f) :
    Calls Try.prog 110 #[v, .int .i64 1, .func (.func 111) #[] #[.pointer (some ⟨p, 0, none⟩), .pointer (some ⟨q, 0, none⟩)]] w (Ret w (.bool (canB (fun g => c.M f g) L))) := by
  have h := h0.is
  obtain ⟨ao, bb, oo, cc, rfl, ha, hc⟩ := h.ex
  have hlen := h.len
  have hcap := h0.cap
  clear h0
  have HC := Lib.hid (fun W k (hW : Below w.heap.size w W) (hk : k < L.length) => c_cloEpi (h3.kept hW) S hf (hA _ (gi_mem hk)))
  have HCC := Lib.hid hc
  clear h hA h3 S hf hc
  go_enter Try.func110, Try.ntmps110
  go_wp2_with fail
  go_loopw [7, 8, 10, 11, 12, 15] (fun _ _ _ _ _ i wr => ∃ k : Nat, k ≤ L.length ∧ i = .int .i64 k ∧ Below w.heap.size w wr ∧ Hid (∀ i j, i < j → i < k → j < L.length → (fun g => c.M f g) (gi L i) ≠ (fun g => c.M f g) (gi L j))) (fun _ _ _ _ _ i _ => L.length - (intOf i).toNat)
  case atStart => exact ⟨0, Nat.zero_le _, rfl, Below.refl _ _, fun i j h h2 => by omega⟩
  case round =>
    obtain ⟨k, hk, rfl, hb, hp⟩ := hrel
    by_cases hlt : k < L.length
    · obtain rfl := ha (by omega)
      have cx := up_cell hb (HCC.out k hlt)
      have CK := Lib.hid (fun W (hW : Below w.heap.size w W) => HC.out W k hW hlt)
      generalize hge : gi L k = g at *
      have HGE := Lib.hid hge
      clear hge
      by_cases hcc : cc = k + 1
      · go_wp2_with fail
        clear cx
        go_loopw [10, 11, 12, 25] (fun _ _ _ i wr => ∃ j : Nat, k + 1 + j ≤ L.length ∧ i = .int .i64 j ∧ Below w.heap.size w wr ∧ Hid (∀ q, k < q → q < k + 1 + j → (c.M f g) ≠ (fun g => c.M f g) (gi L q))) (fun _ _ _ i _ => L.length - k - (intOf i).toNat)
        case atStart => exact ⟨0, by omega, rfl, hb, fun q h1 h2 => by omega⟩
        case round =>
          obtain ⟨j, hj, rfl, hb2, hp2⟩ := hrel
          by_cases hlj : k + 1 + j < L.length
          · exfalso; omega
          · have hlb : ¬ (j < L.length - (k + 1)) := by omega
            have HP : Hid (∀ q, k < q → q < L.length → (c.M f g) ≠ (fun g => c.M f g) (gi L q)) := fun q h1 h2 => hp2.out q h1 (by omega)
            have HB2 := Lib.hid hb2
            clear hp2 hb2 hb
            go_wp2_with fail
            refine ⟨⟨_, _, _, _, _, _, _, ⟨k + 1, by omega, rfl, HB2.out, ?_⟩, rfl, rfl, rfl, rfl, rfl, rfl, by simp⟩, by simp [intOf]; omega⟩
            exact fun i j h h1 h2 => by
              by_cases e : i = k
              · subst e; show c.M f _ ≠ _; rw [HGE.out]; exact HP.out j h h2
              · exact hp.out i j h (by omega) h2
      · go_wp2_with fail
        clear cx
        go_loopw [10, 11, 12, 25] (fun _ _ _ i wr => ∃ j : Nat, k + 1 + j ≤ L.length ∧ i = .int .i64 j ∧ Below w.heap.size w wr ∧ Hid (∀ q, k < q → q < k + 1 + j → (c.M f g) ≠ (fun g => c.M f g) (gi L q))) (fun _ _ _ i _ => L.length - k - (intOf i).toNat)
        case atStart => exact ⟨0, by omega, rfl, hb, fun q h1 h2 => by omega⟩
        case round =>
          obtain ⟨j, hj, rfl, hb2, hp2⟩ := hrel
          by_cases hlj : k + 1 + j < L.length
          · have cy := up_cell hb2 (HCC.out (k + 1 + j) hlj)
            have CJ := Lib.hid (fun W (hW : Below w.heap.size w W) => HC.out W (k + 1 + j) hW hlj)
            have ej : oo + (k + 1 + j) = oo + (k + 1) + j := by omega
            rw [ej] at cy
            generalize hge : gi L (k + 1 + j) = h at *
            have HGJ := Lib.hid hge
            clear hge
            go_wp2_with fail
            clear cy
            by_cases e : c.M f g = c.M f h
            · have eb : (c.M f g == c.M f h) = true := by simp [e]
              have HG := Lib.hid (canB_f (val := (fun g => c.M f g)) (L := L) (i := k) (j := k + 1 + j) (by omega) hlj (by show c.M f _ = c.M f _; rw [HGE.out, HGJ.out]; exact e))
              clear e
              go_loopw [11, 12] (fun e i wr => ∃ n : Nat, n ≤ 1 ∧ i = .int .i64 n ∧ e = .bool true ∧ Below w.heap.size w wr) (fun _ i _ => 1 - (intOf i).toNat)
              case atStart => exact ⟨0, Nat.zero_le _, rfl, rfl, hb2⟩
              case round =>
                obtain ⟨n, hn, rfl, rfl, hb3⟩ := hrel
                by_cases hn0 : n = 0
                · subst hn0
                  go_wp2_with fail
                  refine (CK.out _ hb3).mono ?_
                  rintro e w4 ⟨rfl, b4⟩
                  go_wp2_with fail
                  refine (CJ.out _ (bel_next hb3 b4)).mono ?_
                  rintro e w5 ⟨rfl, b5⟩
                  go_wp2_with fail
                  go_roundw
                  case rel => exact ⟨1, by omega, by go_num, by first | rfl | rw [eb], bel_next (bel_next hb3 b4) b5⟩
                  case measure => simp [intOf]
                · obtain rfl : n = 1 := by omega
                  clear eb
                  go_wp2_with fail
                  go_ret
                  exact ⟨by rw [HG.out]; rfl, hb3⟩
            · have eb : (c.M f g == c.M f h) = false := by simp [e]
              have HN := Lib.hid e
              clear e
              go_loopw [11, 12] (fun e i wr => ∃ n : Nat, n ≤ 1 ∧ i = .int .i64 n ∧ e = .bool (n == 0) ∧ Below w.heap.size w wr) (fun _ i _ => 1 - (intOf i).toNat)
              case atStart => exact ⟨0, Nat.zero_le _, rfl, rfl, hb2⟩
              case round =>
                obtain ⟨n, hn, rfl, rfl, hb3⟩ := hrel
                by_cases hn0 : n = 0
                · subst hn0
                  go_wp2_with fail
                  refine (CK.out _ hb3).mono ?_
                  rintro e w4 ⟨rfl, b4⟩
                  go_wp2_with fail
                  refine (CJ.out _ (bel_next hb3 b4)).mono ?_
                  rintro e w5 ⟨rfl, b5⟩
                  go_wp2_with fail
                  go_roundw
                  case rel => exact ⟨1, by omega, by go_num, by first | rfl | (rw [eb]; rfl), bel_next (bel_next hb3 b4) b5⟩
                  case measure => simp [intOf]
                · obtain rfl : n = 1 := by omega
                  clear eb
                  go_wp2_with fail
                  go_roundw
                  case rel => exact ⟨j + 1, by omega, by go_num, hb3, fun q h1 h2 => by
                    by_cases e : q = k + 1 + j
                    · subst e; rw [HGJ.out]; exact HN.out
                    · exact hp2.out q h1 (by omega)⟩
                  case measure => simp [intOf]; omega
          · have hlb : ¬ (j < L.length - (k + 1)) := by omega
            have HP : Hid (∀ q, k < q → q < L.length → (c.M f g) ≠ (fun g => c.M f g) (gi L q)) := fun q h1 h2 => hp2.out q h1 (by omega)
            have HB2 := Lib.hid hb2
            clear hp2 hb2 hb
            go_wp2_with fail
            go_roundw
            case rel => exact ⟨k + 1, by omega, by go_num, HB2.out, fun i j h h1 h2 => by
              by_cases e : i = k
              · subst e; show c.M f _ ≠ _; rw [HGE.out]; exact HP.out j h h2
              · exact hp.out i j h (by omega) h2⟩
            case measure => simp [intOf]; omega
    · have HG : Hid (canB (fun g => c.M f g) L = true) := canB_t fun i j h h1 => hp.out i j h (by omega) h1
      have hkb : decide ((k : Int) < (L.length : Int)) = false := by simp; omega
      clear hp
      go_wp2_with fail
      go_ret
      exact ⟨by rw [HG.out]; rfl, hb⟩
end Go.Proofs.Ytkmkbmhpdnddnaa
