/-
  top5, hasInt; what FnEqualizers needs of coequalizers and equalizers.
-/
import Derived.Test.YtocgbhcfnphnhaaClsLaw
import Derived.Test.YtocgbhcfnphnhaaCoeq
import Derived.Test.YtocgbhcfnphnhaaSets3
import Derived.Test.YtocgbhcfnphnhaaSets4
namespace Go.Proofs.Ytocgbhcfnphnhaa
open Go.RowKit

/-- One more than the greatest number of a list, at least m. -/
def topF : List Int → Int → Int
  | [], m => m
  | x :: r, m => topF r (if m ≤ x + 1 then x + 1 else m)
theorem topF_ge (xs : List Int) : ∀ m, m ≤ topF xs m ∧ ∀ x ∈ xs, x < topF xs m := by
  induction xs with
  | nil => intro m; exact ⟨Int.le_refl _, fun x hx => by cases hx⟩
  | cons y r ih =>
    intro m
    unfold topF
    have h := ih (if m ≤ y + 1 then y + 1 else m)
    by_cases e : m ≤ y + 1
    · rw [if_pos e] at h ⊢
      refine ⟨by omega, fun x hx => ?_⟩
      rcases List.mem_cons.1 hx with rfl | hx
      · omega
      · exact h.2 x hx
    · rw [if_neg e] at h ⊢
      refine ⟨h.1, fun x hx => ?_⟩
      rcases List.mem_cons.1 hx with rfl | hx
      · omega
      · exact h.2 x hx
theorem topF_le (xs : List Int) (M : Int) : ∀ m, m ≤ M → (∀ x ∈ xs, x < M) → topF xs m ≤ M := by
  induction xs with
  | nil => intro m hm _; exact hm
  | cons y r ih =>
    intro m hm h
    unfold topF
    refine ih _ ?_ (fun x hx => h x (List.mem_cons_of_mem _ hx))
    have := h y (List.mem_cons_self ..)
    split <;> omega
theorem c_top5 {w : World} {v : Value} {xs : List Int} (h : IS w v xs) (hb : ∀ x ∈ xs, 0 ≤ x ∧ x ≤ 1000000) : Calls Try.prog 26 #[v] w (Rd w (.int .i64 (topF xs 0))) := by
  obtain ⟨ao, b, o, c, rfl, ha, hc⟩ := h.ex
  have hlen := h.len
  have HB := Lib.hid (fun i (hi : i < xs.length) => hb _ (gi_mem hi))
  clear h hb
  go_enter Try.func26, Try.ntmps26
  go_wp2_with fail
  go_loopw [3, 4] (fun q i wr => ∃ (k m : Nat) (t : Int), k ≤ xs.length ∧ i = .int .i64 k ∧ wr = w.drewN m ∧ q = .int .i64 t ∧ 0 ≤ t ∧ t ≤ 1000001 ∧ Hid (topF xs 0 = topF (xs.drop k) t)) (fun _ i _ => xs.length - (intOf i).toNat)
  case atStart => exact ⟨0, 0, 0, Nat.zero_le _, rfl, rfl, rfl, by omega, by omega, rfl⟩
  case round =>
    obtain ⟨k, m, t, hk, rfl, rfl, rfl, ht0, ht1, hp⟩ := hrel
    by_cases hlt : k < xs.length
    · obtain rfl := ha (by omega)
      have cx := hc k hlt
      have hs := Lib.hid (drop_gi hlt)
      have hx := HB.out k hlt
      clear hc
      go_wp2_with fail
      all_goals
        go_roundw
        case rel => exact ⟨k + 1, _, _, by omega, by go_num, rfl, rfl, by omega, by omega, by unfold Hid; rw [hp.out, hs.out, topF]; congr 1; split <;> omega⟩
        case measure => simp [intOf]; omega
    · have hk' : k = xs.length := by omega
      subst hk'
      go_wp2_with fail
      go_ret
      exact rd_int (by rw [hp.out, List.drop_length]; rfl) (by repeat (first | exact Drawn.refl _ | refine Drawn.step ?_ _ | refine Drawn.one ?_))
theorem c_hasInt {w : World} {v : Value} {xs : List Int} (h : IS w v xs) (x : Int) : Calls Try.prog 27 #[v, .int .i64 x] w (Rd w (.bool (decide (x ∈ xs)))) := by
  obtain ⟨ao, b, o, c, rfl, ha, hc⟩ := h.ex
  have hlen := h.len
  clear h
  go_enter Try.func27, Try.ntmps27
  go_wp2_with fail
  go_loopw [5] (fun i wr => ∃ (k m : Nat), k ≤ xs.length ∧ i = .int .i64 k ∧ wr = w.drewN m ∧ Hid (∀ j, j < k → gi xs j ≠ x)) (fun i _ => xs.length - (intOf i).toNat)
  case atStart => exact ⟨0, 0, Nat.zero_le _, rfl, rfl, fun j hj => by omega⟩
  case round =>
    obtain ⟨k, m, hk, rfl, rfl, hp⟩ := hrel
    by_cases hlt : k < xs.length
    · obtain rfl := ha (by omega)
      have cx := hc k hlt
      clear hc
      by_cases he : gi xs k = x
      · have heb : (gi xs k == x) = true := by simp [he]
        have HE := Lib.hid he
        clear he
        go_wp2_with fail
        go_ret
        exact rd_bool (decide_eq_true (by rw [← HE.out]; exact gi_mem hlt)) (by repeat (first | exact Drawn.refl _ | refine Drawn.step ?_ _ | refine Drawn.one ?_))
      · have heb : (gi xs k == x) = false := by simp [he]
        have HE := Lib.hid he
        clear he
        go_wp2_with fail
        go_roundw
        case rel => exact ⟨k + 1, _, by omega, by go_num, rfl, fun j hj => by
          by_cases e : j = k
          · subst e; exact HE.out
          · exact hp.out j (by omega)⟩
        case measure => simp [intOf]; omega
    · have hk' : k = xs.length := by omega
      subst hk'
      go_wp2_with fail
      go_ret
      refine rd_bool (decide_eq_false fun hm => ?_) (by repeat (first | exact Drawn.refl _ | refine Drawn.step ?_ _ | refine Drawn.one ?_))
      obtain ⟨i, hi, e⟩ := List.getElem_of_mem hm
      exact hp.out i hi (by rw [gi_lt hi, e])
theorem allIn_gi2 {m : Int} {xs : List Int} (h : allIn m xs = true) {j : Nat} (hj : j < xs.length) : 0 ≤ gi xs j ∧ gi xs j < m := by
  have := List.all_eq_true.1 h _ (gi_mem hj)
  simpa using this
theorem all_of_gi {xs : List Int} {P : Int → Prop} (h : ∀ i, i < xs.length → P (gi xs i)) : ∀ x ∈ xs, P x := by
  intro x hx
  obtain ⟨i, hi, e⟩ := List.getElem_of_mem hx
  have := h i hi
  rwa [gi_lt hi, e] at this
theorem coL_length (n : Nat) (f : List Int) (G : Nat → Int) : (coL n f G).length = n := by
  unfold coL; rw [cls_length, joinL_len, upto_length]
theorem coL_bd {n : Nat} {f : List Int} {G : Nat → Int} {i : Nat} (hi : i < n) : 0 ≤ gi (coL n f G) i ∧ gi (coL n f G) i < n := by
  have h := cls_bdL (xs := joinL (prs f G f.length) (upto n)) (i := i) (by rw [joinL_len, upto_length]; exact hi)
  rw [joinL_len, upto_length] at h
  exact h
theorem coL_pair {n : Nat} {f : List Int} {G : Nat → Int} (h : ∀ i, i < f.length → 0 ≤ gi f i ∧ gi f i < n ∧ 0 ≤ G i ∧ G i < n) {i : Nat} (hi : i < f.length) : gi (coL n f G) (gi f i).toNat = gi (coL n f G) (G i).toNat := by
  obtain ⟨h1, h2, h3, h4⟩ := h i hi
  unfold coL
  rw [cls_iff (by rw [joinL_len, upto_length]; omega) (by rw [joinL_len, upto_length]; omega)]
  have hp := joinL_pair (prs f G f.length) (upto n) i (by rw [prs_length]; exact hi)
  rw [gr_prs hi] at hp
  exact hp (by rw [upto_length]; show (gi f i).toNat < n; omega) (by rw [upto_length]; show (G i).toNat < n; omega)
theorem mem_sel {p : Nat → Bool} {n x : Nat} : ((x : Int) ∈ sel p n) ↔ x < n ∧ p x = true := by
  simp only [sel, List.mem_map, List.mem_filter, List.mem_range]
  constructor
  · rintro ⟨a, ⟨h1, h2⟩, e⟩
    have : a = x := by omega
    subst this
    exact ⟨h1, h2⟩
  · rintro ⟨h1, h2⟩
    exact ⟨x, ⟨h1, h2⟩, rfl⟩
/-- What is known where two maps from one set are given. -/
theorem eqz_facts {n : Int} {f g : List Int} (h : twoCode n f g = 0) : ∃ c, coR n f g = (c, 0) ∧ equR n f g = (sel (fun i => gi f i == gi g i) f.length, 0) ∧ (∀ x ∈ c, 0 ≤ x ∧ x ≤ 1000000) ∧
    ∃ a, thenMapsR n f (topF c 0) c = (a, 0) ∧ thenMapsR n g (topF c 0) c = (a, 0) := by
  obtain ⟨n0, n1, hl, hlg, hf, hg⟩ := twoCode_zero h
  have hln := coL_length n.toNat f (gi g)
  have hbd : ∀ x ∈ coL n.toNat f (gi g), 0 ≤ x ∧ x < n := all_of_gi fun i hi => by
    rw [hln] at hi
    have := coL_bd (f := f) (G := gi g) hi
    omega
  have ht := topF_ge (coL n.toNat f (gi g)) 0
  have ht2 := topF_le (coL n.toNat f (gi g)) n 0 n0 (fun x hx => (hbd x hx).2)
  have hm1 : isMapB n f = true := by simp [isMapB, inR, hl, hf, n0, n1]
  have hm2 : isMapB n g = true := by simp [isMapB, inR, ← hlg, hl, hg, n0, n1]
  have hm3 : isMapB (topF (coL n.toNat f (gi g)) 0) (coL n.toNat f (gi g)) = true := by
    have h3 : allIn (topF (coL n.toNat f (gi g)) 0) (coL n.toNat f (gi g)) = true := List.all_eq_true.2 fun x hx => decide_eq_true ⟨(hbd x hx).1, ht.2 x hx⟩
    have h4 : n.toNat ≤ 256 := by omega
    simp [isMapB, inR, h3, hln, h4]
    omega
  have hr : inR n 0 256 = true ∧ inR (topF (coL n.toNat f (gi g)) 0) 0 256 = true := by
    simp [inR]; omega
  refine ⟨coL n.toNat f (gi g), by unfold coR; rw [if_pos h], by unfold equR; rw [if_pos h], fun x hx => by have := hbd x hx; omega, thenL f (coL n.toNat f (gi g)), ?_, ?_⟩
  · unfold thenMapsR; rw [if_pos hr, if_pos ⟨hm1, hm3, by rw [hln]; omega⟩]
  · unfold thenMapsR
    rw [if_pos hr, if_pos ⟨hm2, hm3, by rw [hln]; omega⟩]
    congr 1
    unfold thenL
    apply list_ext
    · simp [hlg]
    · intro i hi
      have hig : i < g.length := by simpa using hi
      have hif : i < f.length := by omega
      rw [gi_map hig, gi_map hif]
      exact (coL_pair (n := n.toNat) (f := f) (G := gi g) (fun j hj => by
        have h1 := allIn_gi2 hf hj
        have h2 := allIn_gi2 hg (show j < g.length by omega)
        omega) hif).symm
end Go.Proofs.Ytocgbhcfnphnhaa
