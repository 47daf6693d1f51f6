/-
  Chapter 1: CoequalizerOf and PushoutOf of program and reference.
-/
import Derived.Test.YtocgbhcfnphnhaaPull
import Derived.Test.YtocgbhcfnphnhaaJoin2
import Derived.StillTailTactics
namespace Go.Proofs.Ytocgbhcfnphnhaa
open Go.RowKit

/-- The pairs (f i, G i). -/
def prs (f : List Int) (G : Nat → Int) (k : Nat) : List (List Int) := (List.range k).map fun i => [gi f i, G i]
theorem prs_length (f : List Int) (G : Nat → Int) (k : Nat) : (prs f G k).length = k := by simp [prs]
theorem prs_succ (f : List Int) (G : Nat → Int) (k : Nat) : prs f G (k + 1) = prs f G k ++ [[gi f k, G k]] := by simp [prs, List.range_succ]
theorem gr_prs {f : List Int} {G : Nat → Int} {k i : Nat} (h : i < k) : gr (prs f G k) i = [gi f i, G i] := by
  rw [gr_lt (by rw [prs_length]; exact h)]; simp [prs]
theorem joinL_snoc (ps : List (List Int)) (p : List Int) : ∀ ls, joinL (ps ++ [p]) ls = relabel (gi (joinL ps ls) (gi p 0).toNat) (gi (joinL ps ls) (gi p 1).toNat) (joinL ps ls) := by
  induction ps with
  | nil => intro ls; rfl
  | cons q r ih => intro ls; exact ih _
theorem prs_ok {n : Nat} {f : List Int} {G : Nat → Int} {k : Nat} (h : ∀ i, i < k → 0 ≤ gi f i ∧ gi f i < n ∧ 0 ≤ G i ∧ G i < n) : PairsOk n (prs f G k) := by
  intro i hi
  rw [prs_length] at hi
  rw [gr_prs hi]
  obtain ⟨h1, h2, h3, h4⟩ := h i hi
  exact ⟨rfl, h1, h2, h3, h4⟩
/-- The classes behind the pairs. -/
def coL (n : Nat) (f : List Int) (G : Nat → Int) : List Int := cls (joinL (prs f G f.length) (upto n))
def coR (n : Int) (f g : List Int) : List Int × Int := if twoCode n f g = 0 then (coL n.toNat f (gi g), 0) else ([], twoCode n f g)
def pushR (n : Int) (f : List Int) (k : Int) (g : List Int) : List Int × Int :=
  if inR n 0 256 = true ∧ inR k 0 256 = true then
    if isMapB n f = true ∧ isMapB k g = true ∧ f.length = g.length then
      if n + k ≤ 256 then (coL (n + k).toNat f (fun i => n + gi g i), 0) else ([], 3)
    else ([], 1)
  else ([], 2)
theorem SameR.cls {n : Nat} {R : Nat → Nat} {ls : List Int} (h : SameR n R ls) : Go.Proofs.Ytocgbhcfnphnhaa.cls (tab (fun i => (R i : Int)) n) = Go.Proofs.Ytocgbhcfnphnhaa.cls ls := by
  refine cls_same ⟨by rw [tab_length, h.1], fun i j hi hj => ?_⟩
  rw [tab_length] at hi hj
  rw [gi_tab hi, gi_tab hj, ← h.2 i j hi hj]
  omega
set_option maxHeartbeats 1000000 in
theorem i_CoequalizerOf (n : Int) (_ : I64 n) {w : World} {u v : Value} {f g : List Int} (hf : IS w u f) (hg : IS w v g) :
    Calls Try.prog 21 #[.int .i64 n, u, v] w (Mk2 2 w (coR n f g)) := by
  have Hm := Lib.hid (c_parallel n hf hg)
  obtain ⟨ao, b, o, c, hu, ha, hc⟩ := hf.ex
  obtain ⟨ao', b', o', c', hv, ha', hc'⟩ := hg.ex
  have l1 := hf.len
  have l2 := hg.len
  have HF := Lib.hid hf
  have HG := Lib.hid hg
  clear hf hg
  subst hu hv
  by_cases h1 : twoCode n f g = 0
  · have hz := twoCode_zero h1
    obtain ⟨N, rfl⟩ : ∃ N : Nat, n = N := ⟨n.toNat, by omega⟩
    have hle : f.length ≤ g.length ∧ f.length ≤ 256 ∧ N ≤ 256 ∧ g.length ≤ f.length := by omega
    have HIF : Hid (∀ i, i < f.length → 0 ≤ gi f i ∧ gi f i < N) := fun i hi => allIn_gi hz.2.2.2.2.1 hi
    have HIG : Hid (∀ i, i < g.length → 0 ≤ gi g i ∧ gi g i < N) := fun i hi => allIn_gi hz.2.2.2.2.2 hi
    have h1b : (twoCode N f g != 0) = false := by simp [h1]
    have H1 := Lib.hid h1
    clear h1 hz
    go_enter Try.func21, Try.ntmps21
    go_wp2_with fail
    refine Hm.out.mono ?_
    rintro e w1 ⟨rfl, d1⟩
    have b1 : Below w.heap.size w w1 := d1
    clear d1 Hm
    go_wp2_with fail
    refine (c_joinerOf N (by omega) w1).mono ?_
    rintro e w2 ⟨rfl, jn, b2⟩
    have bj2 := b1.trans (b2.mono b1.size)
    have bj := b1
    clear b1 b2
    obtain ⟨wj, rfl⟩ : ∃ wj, wj = w1 := ⟨_, rfl⟩
    go_wp2_with fail
    obtain ⟨gj, hgj⟩ : ∃ gj, gj = wj.heap.size := ⟨_, rfl⟩
    have hgw : w.heap.size ≤ gj := by rw [hgj]; exact bj.size
    rw [← hgj] at jn
    rw [← hgj]
    clear hgj
    go_loopw [23] (fun i wr => ∃ (k : Nat) (R : Nat → Nat), k ≤ f.length ∧ i = .int .i64 k ∧ Below w.heap.size w wr ∧ w.heap.size ≤ wr.heap.size ∧ JN wr gj N R ∧ Hid (SameR N R (joinL (prs f (gi g) k) (upto N)))) (fun i _ => f.length - (intOf i).toNat)
    case atStart => exact ⟨0, id, Nat.zero_le _, rfl, bj2, bj2.size, jn, SameR.start _⟩
    case round =>
      obtain ⟨k, R, hk, rfl, hb, hw2, hj, hp⟩ := hrel
      clear jn bj bj2
      by_cases hlt : k < f.length
      · obtain rfl := ha (by omega)
        obtain rfl := ha' (by omega)
        have cx := IS.cellAt hb (hc k hlt) rfl
        have cy := IS.cellAt hb (hc' k (by omega)) rfl
        clear hc hc'
        have hkg : k < g.length := by omega
        obtain ⟨x1, x2⟩ := HIF.out k hlt
        obtain ⟨y1, y2⟩ := HIG.out k (by omega)
        obtain ⟨x, hx⟩ : ∃ x : Nat, gi f k = x := ⟨(gi f k).toNat, by omega⟩
        obtain ⟨y, hy⟩ : ∃ y : Nat, gi g k = y := ⟨(gi g k).toNat, by omega⟩
        rw [hx] at cx x1 x2
        rw [hy] at cy y1 y2
        have HX := Lib.hid hx
        have HY := Lib.hid hy
        clear hx hy

        go_wp2_with fail
        refine (c_join hj (by omega) x (y) (by omega) (by omega)).mono ?_
        rintro e w2 ⟨rfl, hj2, hw3⟩
        have hb2 := hw3.below hb hgw (Nat.le_refl _)
        have hsz := hw3.size
        have HS : Hid (SameR N (joinR R (R x) (R (y))) (joinL (prs f (gi g) (k + 1)) (upto N))) := by
          rw [prs_succ, joinL_snoc]
          have e1 : gi [gi f k, (gi g) k] 0 = (x : Int) := HX.out
          have e2 : gi [gi f k, (gi g) k] 1 = ((y : Nat) : Int) := by exact HY.out
          rw [e1, e2]
          exact hp.out.join (by omega) (by omega)
        clear hw3 hb hj hp cx cy
        go_wp2_with fail
        go_roundw
        case rel => exact ⟨k + 1, _, by omega, by go_num, hb2, by omega, hj2, HS⟩
        case measure => simp [intOf]; omega
      · have hk : f.length = k := by omega
        subst hk
        go_wp2_with fail
        refine (c_partition hj (by omega)).mono ?_
        rintro e w2 ⟨u2, rfl, o2, hw3⟩
        have hb2 := hw3.below hb hgw (Nat.le_refl _)
        clear hw3
        go_wp2_with fail
        go_ret2
        exact mk2_own (by rw [coR, if_pos H1.out, coL, hp.out.cls]; rfl) (o2.own.base hw2) hb2
  · have h1b : (twoCode n f g != 0) = true := by simp [h1]
    have H1 := Lib.hid h1
    clear h1
    go_enter Try.func21, Try.ntmps21
    go_wp2_with fail
    refine Hm.out.mono ?_
    rintro e w1 ⟨rfl, d1⟩
    go_wp2_with fail
    go_ret2
    exact mk2_nil (by rw [coR, if_neg H1.out]) d1
set_option maxHeartbeats 1000000 in
theorem s_CoequalizerOf (n : Int) (_ : I64 n) {w : World} {u v : Value} {f g : List Int} (hf : IS w u f) (hg : IS w v g) :
    Calls Try.prog 22 #[.int .i64 n, u, v] w (Mk2 2 w (coR n f g)) := by
  have Hm := Lib.hid (c_l01Two n hf hg)
  obtain ⟨ao, b, o, c, hu, ha, hc⟩ := hf.ex
  obtain ⟨ao', b', o', c', hv, ha', hc'⟩ := hg.ex
  have l1 := hf.len
  have l2 := hg.len
  have HF := Lib.hid hf
  have HG := Lib.hid hg
  clear hf hg
  subst hu hv
  by_cases h1 : twoCode n f g = 0
  · have hz := twoCode_zero h1
    obtain ⟨N, rfl⟩ : ∃ N : Nat, n = N := ⟨n.toNat, by omega⟩
    have hle : f.length ≤ g.length ∧ f.length ≤ 256 ∧ N ≤ 256 ∧ g.length ≤ f.length := by omega
    have HIF : Hid (∀ i, i < f.length → 0 ≤ gi f i ∧ gi f i < N) := fun i hi => allIn_gi hz.2.2.2.2.1 hi
    have HIG : Hid (∀ i, i < g.length → 0 ≤ gi g i ∧ gi g i < N) := fun i hi => allIn_gi hz.2.2.2.2.2 hi
    have h1b : (twoCode N f g != 0) = false := by simp [h1]
    have H1 := Lib.hid h1
    clear h1 hz
    go_enter Try.func22, Try.ntmps22
    go_wp2_with fail
    refine Hm.out.mono ?_
    rintro e w1 ⟨rfl, d1⟩
    have b1 : Below w.heap.size w w1 := d1.below _
    clear d1 Hm
    go_wp2_with fail
    go_loopw [9, 10] (fun out i wr => ∃ (k : Nat) (L : List (List Int)), k ≤ f.length ∧ i = .int .i64 k ∧ Below w.heap.size w wr ∧ w.heap.size ≤ wr.heap.size ∧ OF 2 24 w.heap.size wr.heap.size wr out L.length (gr L) ∧ L.length ≤ k ∧ Hid (L = prs f (gi g) k)) (fun _ i _ => f.length - (intOf i).toNat)
    case atStart => exact ⟨0, [], Nat.zero_le _, rfl, bel_alloc b1 _, by have := b1.size; simp; omega, by rw [World.size_alloc]; exact OF.empty b1.size rfl, Nat.zero_le _, rfl⟩
    case round =>
      obtain ⟨k, L, hk, rfl, hb, hw2, ho, hL, hp⟩ := hrel
      clear b1
      by_cases hlt : k < f.length
      · obtain rfl := ha (by omega)
        obtain rfl := ha' (by omega)
        have hkg : k < g.length := by omega
        obtain ⟨x1, x2⟩ := HIF.out k hlt
        obtain ⟨y1, y2⟩ := HIG.out k (by omega)
        have cx := IS.cellAt hb (hc k hlt) rfl
        have cy := IS.cellAt hb (hc' k (by omega)) rfl
        clear hc hc'

        obtain ⟨ao9, g9, c9, V9, hv9, -, -, -⟩ := ho.opened
        subst hv9
        have XG : I64 ((gi g) k) := by constructor <;> (try dsimp only) <;> omega
        have HO : Hid (∀ o1 o2, OF 2 24 w.heap.size wr.heap.size (((wr.alloc o1).alloc o2).drew) (.slice ao9 L.length c9) L.length (gr L)) := fun o1 o2 => (((ho.alloc o1).keptB (Below.refl _ _)).keptB ((Below.refl _ _).alloc (Nat.le_refl _) o2)).keptB ((Drawn.one (Drawn.refl _)).below _)
        have HB : Hid (∀ o1 o2, Below w.heap.size w (((wr.alloc o1).alloc o2).drew)) := fun o1 o2 => (((hb.alloc hw2 o1).alloc (by simp; omega) o2).trans ((Drawn.one (Drawn.refl _)).below _))
        have HU : Hid (∀ o2, OwnT 2 wr.heap.size (wr.heap.size + 1) (((wr.alloc (.cells #[.int .i64 (gi f k), .int .i64 ((gi g) k)] 2)).alloc o2).drew) (.slice (some ⟨wr.heap.size, 0, none⟩) 2 2) [gi f k, (gi g) k]) := fun o2 => ((by have h := OwnT.lit2 (E := 2) (w := wr) (a := gi f k) (b := (gi g) k) (by constructor <;> omega) XG; rwa [World.size_alloc] at h : OwnT 2 wr.heap.size (wr.heap.size + 1) (wr.alloc (.cells #[.int .i64 (gi f k), .int .i64 ((gi g) k)] 2)) (.slice (some ⟨wr.heap.size, 0, none⟩) 2 2) [gi f k, (gi g) k]).keptB ((Below.refl _ _).alloc (Nat.le_refl _) o2)).keptB ((Drawn.one (Drawn.refl _)).below _)
        clear ho hb XG V9
        go_wp2_with fail
        go_region_law ((refine stepAppSS (m := wr.heap.size + 1) (by decide) (HO.out _ _) (HU.out _) ?_ hw2 ?_ ?_ ?_ Try.underlying34 infoInts ?_ (.tmp 25) (.tmp 35) ?_ ?_ ?_ ?_; (· simp); (· (simp <;> omega)); (· (simp <;> omega)); (· omega); (· rfl); (· rfl); (· rfl); (· rfl); intro v' w4 ho4 g4'))
        all_goals
          have hsz4 := g4'.grown.size
          simp at hsz4
          have hb4 := g4'.below (HB.out _ _) (by simp; omega) (fun k hk => by obtain ⟨V, h1, _⟩ := HO.out (.map #[] 0) (.map #[] 0); exact (h1.lt k hk).1)
          have HO4 := Lib.hid ho4.snoc
          clear g4' ho4 HO HB HU
          go_wp2_with fail
          go_roundw
          case rel => exact ⟨k + 1, _, by omega, by go_num, hb4, by omega, HO4.out, by simp; omega, by unfold Hid; rw [prs_succ, hp.out]⟩
          case measure => simp [intOf]; omega
      · have hk : f.length = k := by omega
        subst hk
        have HI := Lib.hid (ho.iss (by omega))
        obtain ⟨ao9, g9, c9, V9, hv9, -, -, -⟩ := ho.opened
        subst hv9
        obtain rfl := hp.out
        clear ho hL
        go_wp2_with fail
        refine (c_l01Join HI.out N (by omega) (prs_ok fun i hi => ⟨(HIF.out i hi).1, (HIF.out i hi).2, (HIG.out i (by omega)).1, (HIG.out i (by omega)).2⟩)).mono ?_
        rintro e w2 ⟨u2, rfl, o2, b2⟩
        go_wp2_with fail
        go_ret2
        exact mk2_own (by rw [coR, if_pos H1.out, coL]; rfl) (o2.own.base hw2) (hb.trans (b2.mono hw2))
  · have h1b : (twoCode n f g != 0) = true := by simp [h1]
    have H1 := Lib.hid h1
    clear h1
    go_enter Try.func22, Try.ntmps22
    go_wp2_with fail
    refine Hm.out.mono ?_
    rintro e w1 ⟨rfl, d1⟩
    go_wp2_with fail
    go_ret2
    exact mk2_nil (by rw [coR, if_neg H1.out]) (d1.below _)
set_option maxHeartbeats 1000000 in
theorem i_PushoutOf (n : Int) (_ : I64 n) {w : World} {u : Value} {f : List Int} (hf : IS w u f) (k : Int) (_ : I64 k) {v : Value} {g : List Int} (hg : IS w v g) :
    Calls Try.prog 34 #[.int .i64 n, u, .int .i64 k, v] w (Mk2 2 w (pushR n f k g)) := by
  obtain ⟨ao, b, o, c, hu, ha, hc⟩ := hf.ex
  obtain ⟨ao', b', o', c', hv, ha', hc'⟩ := hg.ex
  have l1 := hf.len
  have l2 := hg.len
  have HF := Lib.hid hf
  have HG := Lib.hid hg
  clear hf hg
  subst hu hv
  by_cases h1 : inR n 0 256 = true
  · by_cases h2 : inR k 0 256 = true
    · have g1 : 0 ≤ n ∧ n ≤ 256 := by simpa [inR] using h1
      have g2 : 0 ≤ k ∧ k ≤ 256 := by simpa [inR] using h2
      by_cases h3 : (decide (f.length ≤ 256) && allIn n f) = true
      · by_cases h4 : (decide (g.length ≤ 256) && allIn k g) = true
        · by_cases h5 : f.length = g.length
          · have g3 : f.length ≤ 256 ∧ allIn n f = true := by simp [isMapB] at h3; first | exact h3 | exact h3.2
            have g4 : g.length ≤ 256 ∧ allIn k g = true := by simp [isMapB] at h4; first | exact h4 | exact h4.2
            have Hr : Hid (∀ b, (if n + k ≤ 256 then (coL (n + k).toNat f (fun i => n + gi g i), (0 : Int)) else ([], 3)) = b → pushR n f k g = b) := fun b hb => by rw [← hb]; simp [pushR, isMapB, g1, g2, inR, g3, g4, h5]
            obtain ⟨N, rfl⟩ : ∃ N : Nat, n = N := ⟨n.toNat, by omega⟩
            obtain ⟨K, rfl⟩ : ∃ K : Nat, k = K := ⟨k.toNat, by omega⟩
            have HIF0 : Hid (∀ i, i < f.length → 0 ≤ gi f i ∧ gi f i < N) := fun i hi => allIn_gi g3.2 hi
            have HIF : Hid (∀ i, i < f.length → 0 ≤ gi f i ∧ gi f i < ((N + K : Nat) : Int)) := fun i hi => by have := HIF0.out i hi; omega
            have HIG : Hid (∀ i, i < g.length → 0 ≤ gi g i ∧ gi g i < K) := fun i hi => allIn_gi g4.2 hi
            have hle : f.length ≤ g.length ∧ f.length ≤ 256 ∧ N ≤ 256 ∧ K ≤ 256 ∧ g.length ≤ f.length := by omega
            have h5b : ((f.length : Int) != g.length) = false := by simp [h5]
            have hNK : IntKind.i64.wrap ((N : Int) + (K : Int)) = ((N + K : Nat) : Int) := by rw [IntWalk.i64_in _ (by omega)]; omega
            have hA1 := g3.2
            have hA2 := g4.2
            clear HIF0 g3 g4 h5
            by_cases h6 : N + K ≤ 256
            · have h6b : decide (((N + K : Nat) : Int) > 256) = false := by simp; omega
              have hr := Hr.out _ (if_pos (by omega))
              have HR := Lib.hid hr
              clear hr Hr
              go_enter Try.func34, Try.ntmps34
              go_wp2_with (first | (go_at_call 56; (with_reducible refine (c_isSize _ _).mono ?_); rintro e w' ⟨rfl, n1, rfl⟩) | (go_at_call 62; (with_reducible refine (c_maps (HF.out.drawn (by repeat (first | exact Drawn.refl _ | refine Drawn.step ?_ _ | refine Drawn.one ?_))) (N : Int) (by omega) (by omega)).mono ?_); rintro e w' ⟨rfl, n1, rfl⟩) | (go_at_call 62; (with_reducible refine (c_maps (HG.out.drawn (by repeat (first | exact Drawn.refl _ | refine Drawn.step ?_ _ | refine Drawn.one ?_))) (K : Int) (by omega) (by omega)).mono ?_); rintro e w' ⟨rfl, n1, rfl⟩))
              refine (c_joinerOf (N + K) (by omega) _).mono ?_
              rintro e w2 ⟨rfl, jn0, b2⟩
              have bj2 : Below w.heap.size w w2 := (Drawn.below (by repeat (first | exact Drawn.refl _ | refine Drawn.step ?_ _ | refine Drawn.one ?_)) _).trans b2
              have jn : JN w2 w.heap.size (N + K) id := jn0
              have bj := Below.refl w.heap.size w
              clear jn0 b2
              go_wp2_with fail
              obtain ⟨gj, hgj⟩ : ∃ gj, gj = w.heap.size := ⟨_, rfl⟩
              have hgw : w.heap.size ≤ gj := by rw [hgj]; exact bj.size
              rw [← hgj] at jn
              rw [← hgj]
              clear hgj
              go_loopw [48] (fun i wr => ∃ (k : Nat) (R : Nat → Nat), k ≤ f.length ∧ i = .int .i64 k ∧ Below w.heap.size w wr ∧ w.heap.size ≤ wr.heap.size ∧ JN wr gj (N + K) R ∧ Hid (SameR (N + K) R (joinL (prs f (fun i => (N : Int) + gi g i) k) (upto (N + K))))) (fun i _ => f.length - (intOf i).toNat)
              case atStart => exact ⟨0, id, Nat.zero_le _, rfl, bj2, bj2.size, jn, SameR.start _⟩
              case round =>
                obtain ⟨k, R, hk, rfl, hb, hw2, hj, hp⟩ := hrel
                clear jn bj bj2
                by_cases hlt : k < f.length
                · obtain rfl := ha (by omega)
                  obtain rfl := ha' (by omega)
                  have cx := IS.cellAt hb (hc k hlt) rfl
                  have cy := IS.cellAt hb (hc' k (by omega)) rfl
                  clear hc hc'
                  have hkg : k < g.length := by omega
                  obtain ⟨x1, x2⟩ := HIF.out k hlt
                  obtain ⟨y1, y2⟩ := HIG.out k (by omega)
                  obtain ⟨x, hx⟩ : ∃ x : Nat, gi f k = x := ⟨(gi f k).toNat, by omega⟩
                  obtain ⟨y, hy⟩ : ∃ y : Nat, gi g k = y := ⟨(gi g k).toNat, by omega⟩
                  rw [hx] at cx x1 x2
                  rw [hy] at cy y1 y2
                  have HX := Lib.hid hx
                  have HY := Lib.hid hy
                  clear hx hy
                  have hwy : IntKind.i64.wrap ((N : Int) + (y : Int)) = ((N + y : Nat) : Int) := by rw [IntWalk.i64_in _ (by omega)]; omega
                  go_wp2_with fail
                  refine (c_join hj (by omega) x (N + y) (by omega) (by omega)).mono ?_
                  rintro e w2 ⟨rfl, hj2, hw3⟩
                  have hb2 := hw3.below hb hgw (Nat.le_refl _)
                  have hsz := hw3.size
                  have HS : Hid (SameR (N + K) (joinR R (R x) (R (N + y))) (joinL (prs f (fun i => (N : Int) + gi g i) (k + 1)) (upto (N + K)))) := by
                    rw [prs_succ, joinL_snoc]
                    have e1 : gi [gi f k, (fun i => (N : Int) + gi g i) k] 0 = (x : Int) := HX.out
                    have e2 : gi [gi f k, (fun i => (N : Int) + gi g i) k] 1 = ((N + y : Nat) : Int) := by show (N : Int) + gi g k = _; rw [HY.out]; omega
                    rw [e1, e2]
                    exact hp.out.join (by omega) (by omega)
                  clear hw3 hb hj hp cx cy
                  go_wp2_with fail
                  go_roundw
                  case rel => exact ⟨k + 1, _, by omega, by go_num, hb2, by omega, hj2, HS⟩
                  case measure => simp [intOf]; omega
                · have hk : f.length = k := by omega
                  subst hk
                  go_wp2_with fail
                  refine (c_partition hj (by omega)).mono ?_
                  rintro e w2 ⟨u2, rfl, o2, hw3⟩
                  have hb2 := hw3.below hb hgw (Nat.le_refl _)
                  clear hw3
                  go_wp2_with fail
                  go_ret2
                  exact mk2_own (by rw [HR.out, coL, hp.out.cls]; rfl) (o2.own.base hw2) hb2
            · have h6b : decide (((N + K : Nat) : Int) > 256) = true := by simp; omega
              have hr := Hr.out _ (if_neg (by omega))
              have HR := Lib.hid hr
              clear hr Hr
              go_enter Try.func34, Try.ntmps34
              go_wp2_with (first | (go_at_call 56; (with_reducible refine (c_isSize _ _).mono ?_); rintro e w' ⟨rfl, n1, rfl⟩) | (go_at_call 62; (with_reducible refine (c_maps (HF.out.drawn (by repeat (first | exact Drawn.refl _ | refine Drawn.step ?_ _ | refine Drawn.one ?_))) (N : Int) (by omega) (by omega)).mono ?_); rintro e w' ⟨rfl, n1, rfl⟩) | (go_at_call 62; (with_reducible refine (c_maps (HG.out.drawn (by repeat (first | exact Drawn.refl _ | refine Drawn.step ?_ _ | refine Drawn.one ?_))) (K : Int) (by omega) (by omega)).mono ?_); rintro e w' ⟨rfl, n1, rfl⟩))
              go_ret2
              exact mk2_nil HR.out (Drawn.below (by repeat (first | exact Drawn.refl _ | refine Drawn.step ?_ _ | refine Drawn.one ?_)) _)
          · have h5b : ((f.length : Int) != g.length) = !decide (f.length = g.length) := by by_cases h : f.length = g.length <;> simp [h]; omega
            go_enter Try.func34, Try.ntmps34
            go_wp2_with (first | (go_at_call 56; (with_reducible refine (c_isSize _ _).mono ?_); rintro e w' ⟨rfl, n1, rfl⟩) | (go_at_call 62; (with_reducible refine (c_maps (HF.out.drawn (by repeat (first | exact Drawn.refl _ | refine Drawn.step ?_ _ | refine Drawn.one ?_))) n (by omega) (by omega)).mono ?_); rintro e w' ⟨rfl, n1, rfl⟩) | (go_at_call 62; (with_reducible refine (c_maps (HG.out.drawn (by repeat (first | exact Drawn.refl _ | refine Drawn.step ?_ _ | refine Drawn.one ?_))) k (by omega) (by omega)).mono ?_); rintro e w' ⟨rfl, n1, rfl⟩))
            go_ret2
            exact mk2_nil (by simp [pushR, isMapB, *]) (Drawn.below (by repeat (first | exact Drawn.refl _ | refine Drawn.step ?_ _ | refine Drawn.one ?_)) _)
        · have h5b : ((f.length : Int) != g.length) = !decide (f.length = g.length) := by by_cases h : f.length = g.length <;> simp [h]; omega
          go_enter Try.func34, Try.ntmps34
          go_wp2_with (first | (go_at_call 56; (with_reducible refine (c_isSize _ _).mono ?_); rintro e w' ⟨rfl, n1, rfl⟩) | (go_at_call 62; (with_reducible refine (c_maps (HF.out.drawn (by repeat (first | exact Drawn.refl _ | refine Drawn.step ?_ _ | refine Drawn.one ?_))) n (by omega) (by omega)).mono ?_); rintro e w' ⟨rfl, n1, rfl⟩) | (go_at_call 62; (with_reducible refine (c_maps (HG.out.drawn (by repeat (first | exact Drawn.refl _ | refine Drawn.step ?_ _ | refine Drawn.one ?_))) k (by omega) (by omega)).mono ?_); rintro e w' ⟨rfl, n1, rfl⟩))
          go_ret2
          exact mk2_nil (by simp [pushR, isMapB, *]) (Drawn.below (by repeat (first | exact Drawn.refl _ | refine Drawn.step ?_ _ | refine Drawn.one ?_)) _)
      · have h5b : ((f.length : Int) != g.length) = !decide (f.length = g.length) := by by_cases h : f.length = g.length <;> simp [h]; omega
        go_enter Try.func34, Try.ntmps34
        go_wp2_with (first | (go_at_call 56; (with_reducible refine (c_isSize _ _).mono ?_); rintro e w' ⟨rfl, n1, rfl⟩) | (go_at_call 62; (with_reducible refine (c_maps (HF.out.drawn (by repeat (first | exact Drawn.refl _ | refine Drawn.step ?_ _ | refine Drawn.one ?_))) n (by omega) (by omega)).mono ?_); rintro e w' ⟨rfl, n1, rfl⟩) | (go_at_call 62; (with_reducible refine (c_maps (HG.out.drawn (by repeat (first | exact Drawn.refl _ | refine Drawn.step ?_ _ | refine Drawn.one ?_))) k (by omega) (by omega)).mono ?_); rintro e w' ⟨rfl, n1, rfl⟩))
        go_ret2
        exact mk2_nil (by simp [pushR, isMapB, *]) (Drawn.below (by repeat (first | exact Drawn.refl _ | refine Drawn.step ?_ _ | refine Drawn.one ?_)) _)
    · go_enter Try.func34, Try.ntmps34
      go_wp2_with (first | (go_at_call 56; (with_reducible refine (c_isSize _ _).mono ?_); rintro e w' ⟨rfl, n1, rfl⟩))
      go_ret2
      exact mk2_nil (by simp [pushR, *]) (Drawn.below (by repeat (first | exact Drawn.refl _ | refine Drawn.step ?_ _ | refine Drawn.one ?_)) _)
  · go_enter Try.func34, Try.ntmps34
    go_wp2_with (first | (go_at_call 56; (with_reducible refine (c_isSize _ _).mono ?_); rintro e w' ⟨rfl, n1, rfl⟩))
    go_ret2
    exact mk2_nil (by simp [pushR, *]) (Drawn.below (by repeat (first | exact Drawn.refl _ | refine Drawn.step ?_ _ | refine Drawn.one ?_)) _)
set_option maxHeartbeats 1000000 in
theorem s_PushoutOf (n : Int) (_ : I64 n) {w : World} {u : Value} {f : List Int} (hf : IS w u f) (k : Int) (_ : I64 k) {v : Value} {g : List Int} (hg : IS w v g) :
    Calls Try.prog 35 #[.int .i64 n, u, .int .i64 k, v] w (Mk2 2 w (pushR n f k g)) := by
  obtain ⟨ao, b, o, c, hu, ha, hc⟩ := hf.ex
  obtain ⟨ao', b', o', c', hv, ha', hc'⟩ := hg.ex
  have l1 := hf.len
  have l2 := hg.len
  have HF := Lib.hid hf
  have HG := Lib.hid hg
  clear hf hg
  subst hu hv
  by_cases h1 : inR n 0 256 = true
  · by_cases h2 : inR k 0 256 = true
    · have g1 : 0 ≤ n ∧ n ≤ 256 := by simpa [inR] using h1
      have g2 : 0 ≤ k ∧ k ≤ 256 := by simpa [inR] using h2
      by_cases h3 : isMapB n f = true
      · by_cases h4 : isMapB k g = true
        · by_cases h5 : f.length = g.length
          · have g3 : f.length ≤ 256 ∧ allIn n f = true := by simp [isMapB] at h3; first | exact h3 | exact h3.2
            have g4 : g.length ≤ 256 ∧ allIn k g = true := by simp [isMapB] at h4; first | exact h4 | exact h4.2
            have Hr : Hid (∀ b, (if n + k ≤ 256 then (coL (n + k).toNat f (fun i => n + gi g i), (0 : Int)) else ([], 3)) = b → pushR n f k g = b) := fun b hb => by rw [← hb]; simp [pushR, isMapB, g1, g2, inR, g3, g4, h5]
            obtain ⟨N, rfl⟩ : ∃ N : Nat, n = N := ⟨n.toNat, by omega⟩
            obtain ⟨K, rfl⟩ : ∃ K : Nat, k = K := ⟨k.toNat, by omega⟩
            have HIF0 : Hid (∀ i, i < f.length → 0 ≤ gi f i ∧ gi f i < N) := fun i hi => allIn_gi g3.2 hi
            have HIF : Hid (∀ i, i < f.length → 0 ≤ gi f i ∧ gi f i < ((N + K : Nat) : Int)) := fun i hi => by have := HIF0.out i hi; omega
            have HIG : Hid (∀ i, i < g.length → 0 ≤ gi g i ∧ gi g i < K) := fun i hi => allIn_gi g4.2 hi
            have hle : f.length ≤ g.length ∧ f.length ≤ 256 ∧ N ≤ 256 ∧ K ≤ 256 ∧ g.length ≤ f.length := by omega
            have h5b : ((f.length : Int) != g.length) = false := by simp [h5]
            have hNK : IntKind.i64.wrap ((N : Int) + (K : Int)) = ((N + K : Nat) : Int) := by rw [IntWalk.i64_in _ (by omega)]; omega
            have hA1 := g3.2
            have hA2 := g4.2
            clear HIF0 g3 g4 h5
            by_cases h6 : N + K ≤ 256
            · have h6b : decide (((N + K : Nat) : Int) > 256) = false := by simp; omega
              have hr := Hr.out _ (if_pos (by omega))
              have HR := Lib.hid hr
              clear hr Hr
              go_enter Try.func35, Try.ntmps35
              go_wp2_with (first | (go_at_call 67; (with_reducible refine (c_l01Size _ _).mono ?_); rintro e w' ⟨rfl, n1, rfl⟩) | (go_at_call 68; (with_reducible refine (c_sIsMap (HF.out.drawn (by repeat (first | exact Drawn.refl _ | refine Drawn.step ?_ _ | refine Drawn.one ?_))) (N : Int)).mono ?_); rintro e w' ⟨rfl, n1, rfl⟩) | (go_at_call 68; (with_reducible refine (c_sIsMap (HG.out.drawn (by repeat (first | exact Drawn.refl _ | refine Drawn.step ?_ _ | refine Drawn.one ?_))) (K : Int)).mono ?_); rintro e w' ⟨rfl, n1, rfl⟩))
              go_loopw [10, 11] (fun out i wr => ∃ (k : Nat) (L : List (List Int)), k ≤ f.length ∧ i = .int .i64 k ∧ Below w.heap.size w wr ∧ w.heap.size ≤ wr.heap.size ∧ OF 2 24 w.heap.size wr.heap.size wr out L.length (gr L) ∧ L.length ≤ k ∧ Hid (L = prs f (fun i => (N : Int) + gi g i) k)) (fun _ i _ => f.length - (intOf i).toNat)
              case atStart => exact ⟨0, [], Nat.zero_le _, rfl, bel_alloc (Drawn.below (by repeat (first | exact Drawn.refl _ | refine Drawn.step ?_ _ | refine Drawn.one ?_)) _) _, by simp, by rw [World.size_alloc]; exact OF.empty (Nat.le_refl _) rfl, Nat.zero_le _, rfl⟩
              case round =>
                obtain ⟨k, L, hk, rfl, hb, hw2, ho, hL, hp⟩ := hrel
                by_cases hlt : k < f.length
                · obtain rfl := ha (by omega)
                  obtain rfl := ha' (by omega)
                  have hkg : k < g.length := by omega
                  obtain ⟨x1, x2⟩ := HIF.out k hlt
                  obtain ⟨y1, y2⟩ := HIG.out k (by omega)
                  have cx := IS.cellAt hb (hc k hlt) rfl
                  have cy := IS.cellAt hb (hc' k (by omega)) rfl
                  clear hc hc'
                  have hwy : IntKind.i64.wrap ((N : Int) + gi g k) = (N : Int) + gi g k := IntWalk.i64_in _ (by omega)
                  obtain ⟨ao9, g9, c9, V9, hv9, -, -, -⟩ := ho.opened
                  subst hv9
                  have XG : I64 ((fun i => (N : Int) + gi g i) k) := by constructor <;> (try dsimp only) <;> omega
                  have HO : Hid (∀ o1 o2, OF 2 24 w.heap.size wr.heap.size (((wr.alloc o1).alloc o2).drew) (.slice ao9 L.length c9) L.length (gr L)) := fun o1 o2 => (((ho.alloc o1).keptB (Below.refl _ _)).keptB ((Below.refl _ _).alloc (Nat.le_refl _) o2)).keptB ((Drawn.one (Drawn.refl _)).below _)
                  have HB : Hid (∀ o1 o2, Below w.heap.size w (((wr.alloc o1).alloc o2).drew)) := fun o1 o2 => (((hb.alloc hw2 o1).alloc (by simp; omega) o2).trans ((Drawn.one (Drawn.refl _)).below _))
                  have HU : Hid (∀ o2, OwnT 2 wr.heap.size (wr.heap.size + 1) (((wr.alloc (.cells #[.int .i64 (gi f k), .int .i64 ((fun i => (N : Int) + gi g i) k)] 2)).alloc o2).drew) (.slice (some ⟨wr.heap.size, 0, none⟩) 2 2) [gi f k, (fun i => (N : Int) + gi g i) k]) := fun o2 => ((by have h := OwnT.lit2 (E := 2) (w := wr) (a := gi f k) (b := (fun i => (N : Int) + gi g i) k) (by constructor <;> omega) XG; rwa [World.size_alloc] at h : OwnT 2 wr.heap.size (wr.heap.size + 1) (wr.alloc (.cells #[.int .i64 (gi f k), .int .i64 ((fun i => (N : Int) + gi g i) k)] 2)) (.slice (some ⟨wr.heap.size, 0, none⟩) 2 2) [gi f k, (fun i => (N : Int) + gi g i) k]).keptB ((Below.refl _ _).alloc (Nat.le_refl _) o2)).keptB ((Drawn.one (Drawn.refl _)).below _)
                  clear ho hb XG V9
                  go_wp2_with fail
                  go_region_law ((refine stepAppSS (m := wr.heap.size + 1) (by decide) (HO.out _ _) (HU.out _) ?_ hw2 ?_ ?_ ?_ Try.underlying34 infoInts ?_ (.tmp 48) (.tmp 60) ?_ ?_ ?_ ?_; (· simp); (· (simp <;> omega)); (· (simp <;> omega)); (· omega); (· rfl); (· rfl); (· rfl); (· rfl); intro v' w4 ho4 g4'))
                  all_goals
                    have hsz4 := g4'.grown.size
                    simp at hsz4
                    have hb4 := g4'.below (HB.out _ _) (by simp; omega) (fun k hk => by obtain ⟨V, h1, _⟩ := HO.out (.map #[] 0) (.map #[] 0); exact (h1.lt k hk).1)
                    have HO4 := Lib.hid ho4.snoc
                    clear g4' ho4 HO HB HU
                    go_wp2_with fail
                    go_roundw
                    case rel => exact ⟨k + 1, _, by omega, by go_num, hb4, by omega, HO4.out, by simp; omega, by unfold Hid; rw [prs_succ, hp.out]⟩
                    case measure => simp [intOf]; omega
                · have hk : f.length = k := by omega
                  subst hk
                  have HI := Lib.hid (ho.iss (by omega))
                  obtain ⟨ao9, g9, c9, V9, hv9, -, -, -⟩ := ho.opened
                  subst hv9
                  obtain rfl := hp.out
                  clear ho hL
                  go_wp2_with fail
                  refine (c_l01Join HI.out (N + K) (by omega) (prs_ok fun i hi => ⟨(HIF.out i hi).1, (HIF.out i hi).2, by have := HIG.out i (by omega); omega, by have := HIG.out i (by omega); omega⟩)).mono ?_
                  rintro e w2 ⟨u2, rfl, o2, b2⟩
                  go_wp2_with fail
                  go_ret2
                  exact mk2_own (by rw [HR.out, coL]; rfl) (o2.own.base hw2) (hb.trans (b2.mono hw2))
            · have h6b : decide (((N + K : Nat) : Int) > 256) = true := by simp; omega
              have hr := Hr.out _ (if_neg (by omega))
              have HR := Lib.hid hr
              clear hr Hr
              go_enter Try.func35, Try.ntmps35
              go_wp2_with (first | (go_at_call 67; (with_reducible refine (c_l01Size _ _).mono ?_); rintro e w' ⟨rfl, n1, rfl⟩) | (go_at_call 68; (with_reducible refine (c_sIsMap (HF.out.drawn (by repeat (first | exact Drawn.refl _ | refine Drawn.step ?_ _ | refine Drawn.one ?_))) (N : Int)).mono ?_); rintro e w' ⟨rfl, n1, rfl⟩) | (go_at_call 68; (with_reducible refine (c_sIsMap (HG.out.drawn (by repeat (first | exact Drawn.refl _ | refine Drawn.step ?_ _ | refine Drawn.one ?_))) (K : Int)).mono ?_); rintro e w' ⟨rfl, n1, rfl⟩))
              go_ret2
              exact mk2_nil HR.out (Drawn.below (by repeat (first | exact Drawn.refl _ | refine Drawn.step ?_ _ | refine Drawn.one ?_)) _)
          · have h5b : ((f.length : Int) != g.length) = !decide (f.length = g.length) := by by_cases h : f.length = g.length <;> simp [h]; omega
            go_enter Try.func35, Try.ntmps35
            go_wp2_with (first | (go_at_call 67; (with_reducible refine (c_l01Size _ _).mono ?_); rintro e w' ⟨rfl, n1, rfl⟩) | (go_at_call 68; (with_reducible refine (c_sIsMap (HF.out.drawn (by repeat (first | exact Drawn.refl _ | refine Drawn.step ?_ _ | refine Drawn.one ?_))) n).mono ?_); rintro e w' ⟨rfl, n1, rfl⟩) | (go_at_call 68; (with_reducible refine (c_sIsMap (HG.out.drawn (by repeat (first | exact Drawn.refl _ | refine Drawn.step ?_ _ | refine Drawn.one ?_))) k).mono ?_); rintro e w' ⟨rfl, n1, rfl⟩))
            go_ret2
            exact mk2_nil (by simp [pushR, *]) (Drawn.below (by repeat (first | exact Drawn.refl _ | refine Drawn.step ?_ _ | refine Drawn.one ?_)) _)
        · have h5b : ((f.length : Int) != g.length) = !decide (f.length = g.length) := by by_cases h : f.length = g.length <;> simp [h]; omega
          go_enter Try.func35, Try.ntmps35
          go_wp2_with (first | (go_at_call 67; (with_reducible refine (c_l01Size _ _).mono ?_); rintro e w' ⟨rfl, n1, rfl⟩) | (go_at_call 68; (with_reducible refine (c_sIsMap (HF.out.drawn (by repeat (first | exact Drawn.refl _ | refine Drawn.step ?_ _ | refine Drawn.one ?_))) n).mono ?_); rintro e w' ⟨rfl, n1, rfl⟩) | (go_at_call 68; (with_reducible refine (c_sIsMap (HG.out.drawn (by repeat (first | exact Drawn.refl _ | refine Drawn.step ?_ _ | refine Drawn.one ?_))) k).mono ?_); rintro e w' ⟨rfl, n1, rfl⟩))
          go_ret2
          exact mk2_nil (by simp [pushR, *]) (Drawn.below (by repeat (first | exact Drawn.refl _ | refine Drawn.step ?_ _ | refine Drawn.one ?_)) _)
      · have h5b : ((f.length : Int) != g.length) = !decide (f.length = g.length) := by by_cases h : f.length = g.length <;> simp [h]; omega
        go_enter Try.func35, Try.ntmps35
        go_wp2_with (first | (go_at_call 67; (with_reducible refine (c_l01Size _ _).mono ?_); rintro e w' ⟨rfl, n1, rfl⟩) | (go_at_call 68; (with_reducible refine (c_sIsMap (HF.out.drawn (by repeat (first | exact Drawn.refl _ | refine Drawn.step ?_ _ | refine Drawn.one ?_))) n).mono ?_); rintro e w' ⟨rfl, n1, rfl⟩) | (go_at_call 68; (with_reducible refine (c_sIsMap (HG.out.drawn (by repeat (first | exact Drawn.refl _ | refine Drawn.step ?_ _ | refine Drawn.one ?_))) k).mono ?_); rintro e w' ⟨rfl, n1, rfl⟩))
        go_ret2
        exact mk2_nil (by simp [pushR, *]) (Drawn.below (by repeat (first | exact Drawn.refl _ | refine Drawn.step ?_ _ | refine Drawn.one ?_)) _)
    · go_enter Try.func35, Try.ntmps35
      go_wp2_with (first | (go_at_call 67; (with_reducible refine (c_l01Size _ _).mono ?_); rintro e w' ⟨rfl, n1, rfl⟩))
      go_ret2
      exact mk2_nil (by simp [pushR, *]) (Drawn.below (by repeat (first | exact Drawn.refl _ | refine Drawn.step ?_ _ | refine Drawn.one ?_)) _)
  · go_enter Try.func35, Try.ntmps35
    go_wp2_with (first | (go_at_call 67; (with_reducible refine (c_l01Size _ _).mono ?_); rintro e w' ⟨rfl, n1, rfl⟩))
    go_ret2
    exact mk2_nil (by simp [pushR, *]) (Drawn.below (by repeat (first | exact Drawn.refl _ | refine Drawn.step ?_ _ | refine Drawn.one ?_)) _)
end Go.Proofs.Ytocgbhcfnphnhaa
