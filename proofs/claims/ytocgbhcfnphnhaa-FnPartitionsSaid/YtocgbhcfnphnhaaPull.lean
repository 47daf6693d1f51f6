/-
  Chapter 1: PullbackOf of program and reference.
-/
import Derived.Test.YtocgbhcfnphnhaaSS
import Derived.Test.YtocgbhcfnphnhaaSets4
namespace Go.Proofs.Ytocgbhcfnphnhaa
open Go.RowKit

theorem gr_snoc {L : List (List Int)} {ys : List Int} {i : Nat} (h : i < L.length + 1) : (if i < L.length then gr L i else ys) = gr (L ++ [ys]) i := by
  by_cases e : i < L.length
  · rw [if_pos e, gr_lt e, gr_lt (by simp; omega), List.getElem_append_left e]
  · have : i = L.length := by omega
    subst this
    rw [if_neg e, gr_lt (by simp)]; simp
theorem OF.snoc {E E' : TypeId} {B T : Nat} {w : World} {v : Value} {L : List (List Int)} {ys : List Int} (h : OF E E' B T w v (L.length + 1) (fun i => if i < L.length then gr L i else ys)) : OF E E' B T w v (L ++ [ys]).length (gr (L ++ [ys])) := by
  rw [List.length_append, List.length_singleton]
  exact h.congr fun i hi => gr_snoc hi
theorem OwnT.lit2 {E : TypeId} {w : World} {a b : Int} (ha : I64 a) (hb : I64 b) : OwnT E w.heap.size (w.alloc (.cells #[.int .i64 a, .int .i64 b] E)).heap.size (w.alloc (.cells #[.int .i64 a, .int .i64 b] E)) (.slice (some ⟨w.heap.size, 0, none⟩) 2 2) [a, b] := by
  refine ⟨⟨World.ownsRow_lit w _ 2 (Nat.le_refl _) (by simp [maxLen]) (by simp), ?_, by simp⟩, fun k hk => ?_⟩
  · intro x hx
    simp at hx
    rcases hx with rfl | rfl
    · exact ha
    · exact hb
  · have hk' : some w.heap.size = some k := hk
    injection hk' with hk'
    simp; omega
theorem OwnT.lit2' {E : TypeId} {w : World} {a b : Int} {n : Nat} (ha : I64 a) (hb : I64 b) (hn : w.heap.size = n) : OwnT E n (w.alloc (.cells #[.int .i64 a, .int .i64 b] E)).heap.size (w.alloc (.cells #[.int .i64 a, .int .i64 b] E)) (.slice (some ⟨n, 0, none⟩) 2 2) [a, b] := by
  subst hn; exact OwnT.lit2 ha hb
theorem OF.alloc {E E' : TypeId} {B T : Nat} {w : World} {v : Value} {n : Nat} {D : Nat → List Int} (h : OF E E' B T w v n D) (o : Obj) : OF E E' B T (w.alloc o) v n D := h.keptB ((Below.refl _ _).alloc (Nat.le_refl _) o)
/-- The pairs at x among the first j of g. -/
def pbR (f g : List Int) (x j : Nat) : List (List Int) := ((List.range j).filter fun z => gi f x == gi g z).map fun (z : Nat) => [(x : Int), (z : Int)]
/-- The pairs at the first i of f. -/
def pbA (f g : List Int) : Nat → List (List Int)
  | 0 => []
  | i + 1 => pbA f g i ++ pbR f g i g.length
theorem pbR_yes {f g : List Int} {x j : Nat} (h : gi f x = gi g j) : pbR f g x (j + 1) = pbR f g x j ++ [[(x : Int), (j : Int)]] := by
  simp [pbR, List.range_succ, List.filter_append, h]
theorem pbR_no {f g : List Int} {x j : Nat} (h : ¬ gi f x = gi g j) : pbR f g x (j + 1) = pbR f g x j := by
  simp [pbR, List.range_succ, List.filter_append, h]
theorem pbR_le (f g : List Int) (x j : Nat) : (pbR f g x j).length ≤ j := by
  have := List.length_filter_le (fun z => gi f x == gi g z) (List.range j)
  simp [pbR] at *; exact this
theorem pbR_mono (f g : List Int) (x : Nat) {i j : Nat} (h : i ≤ j) : (pbR f g x i).length ≤ (pbR f g x j).length := by
  induction j with
  | zero => have : i = 0 := by omega
            subst this; exact Nat.le_refl _
  | succ j ih =>
    by_cases e : i = j + 1
    · subst e; exact Nat.le_refl _
    · have := ih (by omega)
      by_cases h2 : gi f x = gi g j
      · rw [pbR_yes h2]; simp; omega
      · rw [pbR_no h2]; exact this
theorem pbA_mono (f g : List Int) {i j : Nat} (h : i ≤ j) : (pbA f g i).length ≤ (pbA f g j).length := by
  induction j with
  | zero => have : i = 0 := by omega
            subst this; exact Nat.le_refl _
  | succ j ih =>
    by_cases e : i = j + 1
    · subst e; exact Nat.le_refl _
    · have := ih (by omega)
      simp only [pbA, List.length_append]; omega
theorem pbA_le (f g : List Int) (i : Nat) : (pbA f g i).length ≤ i * g.length := by
  induction i with
  | zero => simp [pbA]
  | succ i ih =>
    have := pbR_le f g i g.length
    simp only [pbA, List.length_append, Nat.succ_mul]; omega
/-- What PullbackOf returns. -/
def pullR (n : Int) (f g : List Int) : List (List Int) × Int :=
  if codesOf n [f, g] = 0 then (if (pbA f g f.length).length ≤ 256 then (pbA f g f.length, 0) else ([], 3)) else ([], codesOf n [f, g])
theorem pb_two (f g : List Int) (i : Nat) : ∀ p ∈ pbA f g i, p.length = 2 := by
  induction i with
  | zero => intro p hp; cases hp
  | succ i ih =>
    intro p hp
    rcases List.mem_append.1 hp with hp | hp
    · exact ih p hp
    · simp only [pbR, List.mem_map] at hp
      obtain ⟨z, _, rfl⟩ := hp
      rfl
theorem pS_two (L : List (List Int)) (h : ∀ p ∈ L, p.length = 2) : ∀ i, i ≤ L.length → pS (gr L) i = 2 * i := by
  intro i
  induction i with
  | zero => intro _; rfl
  | succ i ih =>
    intro hi
    have hm : gr L i ∈ L := by rw [gr_lt (by omega)]; exact List.getElem_mem _
    simp only [pS]
    rw [ih (by omega), h _ hm]; omega
/-- The end of a call with a slice of slices and a code for results. -/
def MkSS (w : World) (r : List (List Int) × Int) : Ending → World → Prop := fun e w' => ∃ u, e = .returned (.tuple #[u, .int .i64 r.2]) ∧ OwnSS 2 24 w.heap.size w'.heap.size w' u r.1 ∧ Below w.heap.size w w'
theorem mkSS_nil {w w' : World} {c : Int} {r : List (List Int) × Int} (hr : r = ([], c)) (hw : Below w.heap.size w w') : MkSS w r (.returned (.tuple #[.slice none 0 0, .int .i64 c])) w' := by
  subst hr
  exact ⟨_, rfl, ⟨OF.nil, by simp, by simp [pS]⟩, hw⟩
theorem mkSS_ok {w w' : World} {c : Int} {u : Value} {L : List (List Int)} {r : List (List Int) × Int} (hr : r = (L, c)) (ho : OF 2 24 w.heap.size w'.heap.size w' u L.length (gr L)) (h1 : L.length ≤ 1048576) (h2 : pS (gr L) L.length ≤ 1099511627776) (hw : Below w.heap.size w w') : MkSS w r (.returned (.tuple #[u, .int .i64 c])) w' := by
  subst hr
  exact ⟨_, rfl, ⟨ho, h1, h2⟩, hw⟩
theorem codesOf_zero2 {n : Int} {f g : List Int} (h : codesOf n [f, g] = 0) : f.length ≤ 256 ∧ g.length ≤ 256 := by
  rw [codesOf_two] at h
  split at h
  · rename_i h2
    exact ⟨(codeOf_zero h2).2.2.1, (codeOf_zero h).2.2.1⟩
  · rename_i h2; exact absurd h h2
set_option maxHeartbeats 800000 in
theorem i_PullbackOf (n : Int) (_ : I64 n) {w : World} {u v : Value} {f g : List Int} (hf : IS w u f) (hg : IS w v g) :
    Calls Try.prog 29 #[.int .i64 n, u, v] w (MkSS w (pullR n f g)) := by
  obtain ⟨ao, b, o, c, hu, ha, hc⟩ := hf.ex
  obtain ⟨ao', b', o', c', hv, ha', hc'⟩ := hg.ex
  have l1 := hf.len
  have l2 := hg.len
  have HF := Lib.hid hf
  have HG := Lib.hid hg
  have hcb := codesOf_bd n [f, g]
  clear hf hg
  subst hu hv
  by_cases h1 : codesOf n [f, g] = 0
  · have h1b : (codesOf n [f, g] != 0) = false := by simp [h1]
    obtain ⟨z1, z2⟩ := codesOf_zero2 h1
    have H1 := Lib.hid h1
    clear h1
    go_enter Try.func29, Try.ntmps29
    go_wp2_with fail
    refine (c_mapCode (ISS.lit2 HF.out HG.out) n).mono ?_
    rintro e w1 ⟨rfl, d1⟩
    have b1 : Below w.heap.size w w1 := (bel_alloc (Below.refl _ _) _).trans (d1.below _)
    clear d1
    go_wp2_with fail
    go_loopw [9, 25] (fun out iv wr => ∃ (i : Nat) (L : List (List Int)), i ≤ f.length ∧ iv = .int .i64 i ∧ Below w.heap.size w wr ∧ w.heap.size ≤ wr.heap.size ∧ OF 2 24 w.heap.size wr.heap.size wr out L.length (gr L) ∧ L.length ≤ 256 ∧ Hid (L = pbA f g i)) (fun _ iv _ => f.length - (intOf iv).toNat)
    case atStart => exact ⟨0, [], Nat.zero_le _, rfl, bel_alloc b1 _, by have := b1.size; simp; omega, by rw [World.size_alloc]; exact OF.empty b1.size rfl, Nat.zero_le _, rfl⟩
    case round =>
      obtain ⟨i, L, hi, rfl, hb, hw2, ho, hL, hp⟩ := hrel
      by_cases hlt : i < f.length
      · obtain rfl := ha (by omega)
        have hx := hc i hlt
        have cx := IS.cellAt hb hx rfl
        have HX := Lib.hid hx
        obtain ⟨wo, rfl⟩ : ∃ wo : World, wo = wr := ⟨_, rfl⟩
        clear b1
        go_wp2_with fail
        go_loopw [9, 32] (fun out jv wr => ∃ (j : Nat) (L2 : List (List Int)), j ≤ g.length ∧ jv = .int .i64 j ∧ Below w.heap.size w wr ∧ w.heap.size ≤ wr.heap.size ∧ OF 2 24 w.heap.size wr.heap.size wr out L2.length (gr L2) ∧ L2.length ≤ 256 ∧ Hid (L2 = pbA f g i ++ pbR f g i j)) (fun _ jv _ => g.length - (intOf jv).toNat)
        case atStart => exact ⟨0, L, Nat.zero_le _, rfl, hb, hw2, ho, hL, by unfold Hid; rw [hp.out]; simp [pbR]⟩
        case round =>
          obtain ⟨j, L2, hj, rfl, hb3, hw3, ho3, hL3, hp3⟩ := hrel
          clear ho hb hw2 cx
          by_cases hlj : j < g.length
          · obtain rfl := ha' (by omega)
            have cy := IS.cellAt hb3 (hc' j hlj) rfl
            have cx := IS.cellAt hb3 HX.out rfl
            have hL2 : L2.length ≤ 65536 := by
              rw [hp3.out, List.length_append]
              have e1 := pbA_le f g i
              have e2 := pbR_le f g i j
              have e3 : i * g.length ≤ 255 * 256 := Nat.mul_le_mul (by omega) (by omega)
              omega
            obtain ⟨ao9, g9, c9, V9, hv9, -, -, -⟩ := ho3.opened
            clear hc hc'
            by_cases he : gi f i = gi g j
            · have heb : (gi f i != gi g j) = false := by simp [he]
              have HE := Lib.hid he
              clear he
              subst hv9
              by_cases hlim : L2.length = 256
              · have hlb : ((L2.length : Int) == 256) = true := by simp [hlim]
                have HLIM := Lib.hid hlim
                clear hlim
                go_wp2_with fail
                go_ret2
                refine mkSS_nil ?_ hb3
                rw [pullR, if_pos H1.out, if_neg]
                have e1 := pbA_mono f g (show i + 1 ≤ f.length by omega)
                have e2 := pbR_mono f g i (show j + 1 ≤ g.length by omega)
                rw [pbR_yes HE.out] at e2
                have e3 := HLIM.out
                rw [hp3.out] at e3
                simp only [pbA, List.length_append, List.length_singleton] at e1 e2 e3
                omega
              have hlb : ((L2.length : Int) == 256) = false := by simp; omega
              have hl5 : L2.length ≤ 255 := by omega
              clear hlim
              go_wp2_with (at_builtin; refine hold ?_)
              refine appSS (by decide) (ho3.alloc _) (OwnT.lit2' (a := (i : Int)) (b := (j : Int)) (by constructor <;> omega) (by constructor <;> omega) rfl) (by omega) (by simp) (by omega) Try.underlying34 infoInts (by rfl) _ _ (by rfl) (by rfl) (by rfl) (by simp) ?_
              intro v' w4 ho4 g4
              have g4' := g4.of_alloc
              have hsz4 := g4'.grown.size
              have hb4 := g4'.below hb3 hw3 (fun k hk => by obtain ⟨V, h1, _⟩ := ho3; exact (h1.lt k hk).1)
              have HO4 := Lib.hid ho4.snoc
              clear g4 g4' ho4 ho3 hb3 cx cy V9
              go_wp2_with fail
              go_roundw
              case rel => exact ⟨j + 1, _, by omega, by go_num, hb4, by omega, HO4.out, by simp; omega, by unfold Hid; rw [pbR_yes HE.out, hp3.out, List.append_assoc]⟩
              case measure => simp [intOf]; omega
            · have heb : (gi f i != gi g j) = true := by simp [he]
              have HE := Lib.hid he
              clear he hv9
              go_wp2_with fail
              go_roundw
              case rel => exact ⟨j + 1, L2, by omega, by go_num, hb3, hw3, ho3, hL3, by unfold Hid; rw [pbR_no HE.out, hp3.out]⟩
              case measure => simp [intOf]; omega
          · have hje : j = g.length := by omega
            subst hje
            go_wp2_with fail
            go_roundw
            case rel => exact ⟨i + 1, L2, by omega, by go_num, hb3, hw3, ho3, hL3, by unfold Hid; rw [hp3.out]; rfl⟩
            case measure => simp [intOf]; omega
      · have hie : f.length = i := by omega
        subst hie
        have hle : (pbA f g f.length).length ≤ 256 := by rw [← hp.out]; exact hL
        go_wp2_with fail
        go_ret2
        obtain rfl := hp.out
        refine mkSS_ok (L := pbA f g f.length) (by rw [pullR, if_pos H1.out, if_pos hle]) ho (by omega) ?_ hb
        have e := pS_two (pbA f g f.length) (pb_two f g _) _ (Nat.le_refl _)
        rw [e]; omega
  · have h1b : (codesOf n [f, g] != 0) = true := by simp [h1]
    have H1 := Lib.hid h1
    clear h1
    go_enter Try.func29, Try.ntmps29
    go_wp2_with fail
    refine (c_mapCode (ISS.lit2 HF.out HG.out) n).mono ?_
    rintro e w1 ⟨rfl, d1⟩
    go_wp2_with fail
    go_ret2
    exact mkSS_nil (by rw [pullR, if_neg H1.out]) ((bel_alloc (Below.refl _ _) _).trans (d1.below _))
set_option maxHeartbeats 800000 in
theorem s_PullbackOf (n : Int) (_ : I64 n) {w : World} {u v : Value} {f g : List Int} (hf : IS w u f) (hg : IS w v g) :
    Calls Try.prog 30 #[.int .i64 n, u, v] w (MkSS w (pullR n f g)) := by
  obtain ⟨ao, b, o, c, hu, ha, hc⟩ := hf.ex
  obtain ⟨ao', b', o', c', hv, ha', hc'⟩ := hg.ex
  have l1 := hf.len
  have l2 := hg.len
  have HF := Lib.hid hf
  have HG := Lib.hid hg
  have hcb := codesOf_bd n [f, g]
  clear hf hg
  subst hu hv
  by_cases h0 : inR n 0 256 = true
  · by_cases h2 : isMapB n f = true
    · by_cases h3 : isMapB n g = true
      · have h1 : codesOf n [f, g] = 0 := by simp [codesOf, *]
        obtain ⟨z1, z2⟩ := codesOf_zero2 h1
        have H1 := Lib.hid h1
        clear h1 hcb
        go_enter Try.func30, Try.ntmps30
        go_wp2_with fail
        refine (c_l01Size _ _).mono ?_
        rintro e w1 ⟨rfl, d1⟩
        have b1 := d1.below w.heap.size
        clear d1
        go_wp2_with fail
        refine (c_sIsMap (HF.out.kept b1) n).mono ?_
        rintro e w2 ⟨rfl, d1⟩
        replace b1 := b1.trans (d1.below _)
        clear d1
        go_wp2_with fail
        refine (c_sIsMap (HG.out.kept b1) n).mono ?_
        rintro e w3 ⟨rfl, d1⟩
        replace b1 := b1.trans (d1.below _)
        clear d1
        go_wp2_with fail
        go_loopw [8, 9] (fun out iv wr => ∃ (i : Nat) (L : List (List Int)), i ≤ f.length ∧ iv = .int .i64 i ∧ Below w.heap.size w wr ∧ w.heap.size ≤ wr.heap.size ∧ OF 2 24 w.heap.size wr.heap.size wr out L.length (gr L) ∧ Hid (L = pbA f g i)) (fun _ iv _ => f.length - (intOf iv).toNat)
        case atStart => exact ⟨0, [], Nat.zero_le _, rfl, bel_alloc b1 _, by have := b1.size; simp; omega, by rw [World.size_alloc]; exact OF.empty b1.size rfl, rfl⟩
        case round =>
          obtain ⟨i, L, hi, rfl, hb, hw2, ho, hp⟩ := hrel
          by_cases hlt : i < f.length
          · obtain rfl := ha (by omega)
            have hx := hc i hlt
            have cx := IS.cellAt hb hx rfl
            have HX := Lib.hid hx
            obtain ⟨wo, rfl⟩ : ∃ wo : World, wo = wr := ⟨_, rfl⟩
            clear b1
            go_wp2_with fail
            go_loopw [8, 10] (fun out jv wr => ∃ (j : Nat) (L2 : List (List Int)), j ≤ g.length ∧ jv = .int .i64 j ∧ Below w.heap.size w wr ∧ w.heap.size ≤ wr.heap.size ∧ OF 2 24 w.heap.size wr.heap.size wr out L2.length (gr L2) ∧ Hid (L2 = pbA f g i ++ pbR f g i j)) (fun _ jv _ => g.length - (intOf jv).toNat)
            case atStart => exact ⟨0, L, Nat.zero_le _, rfl, hb, hw2, ho, by unfold Hid; rw [hp.out]; simp [pbR]⟩
            case round =>
              obtain ⟨j, L2, hj, rfl, hb3, hw3, ho3, hp3⟩ := hrel
              clear ho hb hw2 cx
              by_cases hlj : j < g.length
              · obtain rfl := ha' (by omega)
                have cy := IS.cellAt hb3 (hc' j hlj) rfl
                have cx := IS.cellAt hb3 HX.out rfl
                have hL2 : L2.length ≤ 65536 := by
                  rw [hp3.out, List.length_append]
                  have e1 := pbA_le f g i
                  have e2 := pbR_le f g i j
                  have e3 : i * g.length ≤ 255 * 256 := Nat.mul_le_mul (by omega) (by omega)
                  omega
                obtain ⟨ao9, g9, c9, V9, hv9, -, -, -⟩ := ho3.opened
                clear hc hc'
                by_cases he : gi f i = gi g j
                · have heb : (gi f i == gi g j) = true := by simp [he]
                  have HE := Lib.hid he
                  clear he
                  go_wp2_with fail
                  go_quiet (fail)
                  obtain ⟨wq, hq⟩ : ∃ wq, wq = wr.drewN nq := ⟨_, rfl⟩
                  rw [← hq]
                  have hdq : Drawn wr wq := by subst hq; exact Drawn.step (Drawn.refl _) _
                  have hsz : wq.heap.size = wr.heap.size := by subst hq; rfl
                  clear hq
                  replace hb3 := hb3.trans (hdq.below _)
                  replace ho3 := ho3.keptB (hdq.below _)
                  rw [← hsz] at ho3 hw3
                  clear hdq hsz
                  subst hv9
                  go_wp2_with (at_builtin; refine hold ?_)
                  refine appSS (by decide) (ho3.alloc _) (OwnT.lit2' (a := (i : Int)) (b := (j : Int)) (by constructor <;> omega) (by constructor <;> omega) rfl) (by omega) (by simp) (by omega) Try.underlying34 infoInts (by rfl) _ _ (by rfl) (by rfl) (by rfl) (by simp) ?_
                  intro v' w4 ho4 g4
                  have g4' := g4.of_alloc
                  have hsz4 := g4'.grown.size
                  have hb4 := g4'.below hb3 hw3 (fun k hk => by obtain ⟨V, h1, _⟩ := ho3; exact (h1.lt k hk).1)
                  have HO4 := Lib.hid ho4.snoc
                  clear g4 g4' ho4 ho3 hb3 cx cy V9
                  go_wp2_with fail
                  go_roundw
                  case rel => exact ⟨j + 1, _, by omega, by go_num, hb4, by omega, HO4.out, by unfold Hid; rw [pbR_yes HE.out, hp3.out, List.append_assoc]⟩
                  case measure => simp [intOf]; omega
                · have heb : (gi f i == gi g j) = false := by simp [he]
                  have HE := Lib.hid he
                  clear he hv9
                  go_wp2_with fail
                  go_quiet (fail)
                  obtain ⟨wq, hq⟩ : ∃ wq, wq = wr.drewN nq := ⟨_, rfl⟩
                  rw [← hq]
                  have hdq : Drawn wr wq := by subst hq; exact Drawn.step (Drawn.refl _) _
                  have hsz : wq.heap.size = wr.heap.size := by subst hq; rfl
                  clear hq
                  replace hb3 := hb3.trans (hdq.below _)
                  replace ho3 := ho3.keptB (hdq.below _)
                  rw [← hsz] at ho3 hw3
                  clear hdq hsz
                  go_wp2_with fail
                  go_roundw
                  case rel => exact ⟨j + 1, L2, by omega, by go_num, hb3, hw3, ho3, by unfold Hid; rw [pbR_no HE.out, hp3.out]⟩
                  case measure => simp [intOf]; omega
              · have hje : j = g.length := by omega
                subst hje
                go_wp2_with fail
                go_roundw
                case rel => exact ⟨i + 1, L2, by omega, by go_num, hb3, hw3, ho3, by unfold Hid; rw [hp3.out]; rfl⟩
                case measure => simp [intOf]; omega
          · have hie : f.length = i := by omega
            subst hie
            have hLL : L.length ≤ 65536 := by
              rw [hp.out]
              have e1 := pbA_le f g f.length
              have e3 : f.length * g.length ≤ 256 * 256 := Nat.mul_le_mul (by omega) (by omega)
              omega
            obtain ⟨ao9, g9, c9, V9, hv9, -, -, -⟩ := ho.opened
            subst hv9
            by_cases hle0 : L.length ≤ 256
            · have hle : (pbA f g f.length).length ≤ 256 := by rw [← hp.out]; exact hle0
              go_wp2_with fail
              go_ret2
              obtain rfl := hp.out
              refine mkSS_ok (L := pbA f g f.length) (by rw [pullR, if_pos H1.out, if_pos hle]) ho (by omega) ?_ hb
              have e := pS_two (pbA f g f.length) (pb_two f g _) _ (Nat.le_refl _)
              rw [e]; omega
            · have hle : ¬ (pbA f g f.length).length ≤ 256 := by rw [← hp.out]; exact hle0
              go_wp2_with fail
              go_ret2
              exact mkSS_nil (by rw [pullR, if_pos H1.out, if_neg hle]) hb
      · go_enter Try.func30, Try.ntmps30
        go_wp2_with (first | (go_at_call 67; (with_reducible refine (c_l01Size _ _).mono ?_); rintro e w' ⟨rfl, n1, rfl⟩) | (go_at_call 68; (with_reducible refine (c_sIsMap (HF.out.drawn (by repeat (first | exact Drawn.refl _ | refine Drawn.step ?_ _ | refine Drawn.one ?_))) n).mono ?_); rintro e w' ⟨rfl, n1, rfl⟩) | (go_at_call 68; (with_reducible refine (c_sIsMap (HG.out.drawn (by repeat (first | exact Drawn.refl _ | refine Drawn.step ?_ _ | refine Drawn.one ?_))) n).mono ?_); rintro e w' ⟨rfl, n1, rfl⟩))
        go_ret2
        exact mkSS_nil (by simp [pullR, codesOf, *]) (Drawn.below (by repeat (first | exact Drawn.refl _ | refine Drawn.step ?_ _ | refine Drawn.one ?_)) _)
    · go_enter Try.func30, Try.ntmps30
      go_wp2_with (first | (go_at_call 67; (with_reducible refine (c_l01Size _ _).mono ?_); rintro e w' ⟨rfl, n1, rfl⟩) | (go_at_call 68; (with_reducible refine (c_sIsMap (HF.out.drawn (by repeat (first | exact Drawn.refl _ | refine Drawn.step ?_ _ | refine Drawn.one ?_))) n).mono ?_); rintro e w' ⟨rfl, n1, rfl⟩) | (go_at_call 68; (with_reducible refine (c_sIsMap (HG.out.drawn (by repeat (first | exact Drawn.refl _ | refine Drawn.step ?_ _ | refine Drawn.one ?_))) n).mono ?_); rintro e w' ⟨rfl, n1, rfl⟩))
      go_ret2
      exact mkSS_nil (by simp [pullR, codesOf, *]) (Drawn.below (by repeat (first | exact Drawn.refl _ | refine Drawn.step ?_ _ | refine Drawn.one ?_)) _)
  · go_enter Try.func30, Try.ntmps30
    go_wp2_with (first | (go_at_call 67; (with_reducible refine (c_l01Size _ _).mono ?_); rintro e w' ⟨rfl, n1, rfl⟩) | (go_at_call 68; (with_reducible refine (c_sIsMap (HF.out.drawn (by repeat (first | exact Drawn.refl _ | refine Drawn.step ?_ _ | refine Drawn.one ?_))) n).mono ?_); rintro e w' ⟨rfl, n1, rfl⟩) | (go_at_call 68; (with_reducible refine (c_sIsMap (HG.out.drawn (by repeat (first | exact Drawn.refl _ | refine Drawn.step ?_ _ | refine Drawn.one ?_))) n).mono ?_); rintro e w' ⟨rfl, n1, rfl⟩))
    go_ret2
    exact mkSS_nil (by simp [pullR, codesOf, *]) (Drawn.below (by repeat (first | exact Drawn.refl _ | refine Drawn.step ?_ _ | refine Drawn.one ?_)) _)
end Go.Proofs.Ytocgbhcfnphnhaa
