/-
  The category of a preorder, chains and discrete categories: plain lists, no program in sight.
-/
import Derived.Test.YtllbjckbinolmaaMono
namespace Go.Proofs.Ytllbjckbinolmaa
open Go.RowKit

/-- A relation that is a preorder. -/
structure Pre (t : List (List Int)) : Prop where
  sq : Sq 2 t
  u : ∀ i, i < t.length → ge t i i = 1
  a : ∀ i j k, i < t.length → j < t.length → k < t.length → ge t i j = 1 → ge t j k = 1 → ge t i k = 1
/-- The pairs of row i left of column j. -/
def prRow (t : List (List Int)) (i : Nat) : Nat → List (Int × Int)
  | 0 => []
  | j + 1 => prRow t i j ++ (if ge t i j = 0 then [] else [((i : Int), (j : Int))])
/-- The pairs of the rows above row i. -/
def prTo (t : List (List Int)) : Nat → List (Int × Int)
  | 0 => []
  | i + 1 => prTo t i ++ prRow t i t.length
def prs (t : List (List Int)) : List (Int × Int) := prTo t t.length
/-- The number of the pair i, j. -/
def cnt (t : List (List Int)) (i j : Nat) : Nat := (prTo t i ++ prRow t i j).length
def gp (P : List (Int × Int)) (k : Nat) : Int × Int := P.getD k (0, 0)
def posV (t : List (List Int)) (f g : Nat) : Int := if (gp (prs t) f).2 = (gp (prs t) g).1 then (cnt t (gp (prs t) f).1.toNat (gp (prs t) g).2.toNat : Int) else -1
def posM (t : List (List Int)) : List (List Int) := (List.range (prs t).length).map fun f => tab (posV t f) (prs t).length
def posC (t : List (List Int)) : Cat := ⟨t.length, (prs t).map Prod.fst, (prs t).map Prod.snd, tab (fun i => (cnt t i i : Int)) t.length, posM t⟩
noncomputable def preR (t : List (List Int)) : Cat × Int :=
  if dB (Pre t) = true then (if t.length ≤ 8 then (if (prs t).length ≤ 40 then (posC t, 0) else (nilC, 3)) else (nilC, 2)) else (nilC, 1)

theorem prRow_yes {t : List (List Int)} {i j : Nat} (h : ge t i j ≠ 0) : prRow t i (j + 1) = prRow t i j ++ [((i : Int), (j : Int))] := by simp only [prRow]; rw [if_neg h]
theorem prRow_no {t : List (List Int)} {i j : Nat} (h : ge t i j = 0) : prRow t i (j + 1) = prRow t i j := by simp only [prRow]; rw [if_pos h, List.append_nil]
theorem prRow_len (t : List (List Int)) (i : Nat) : ∀ j, (prRow t i j).length ≤ j
  | 0 => by simp [prRow]
  | j + 1 => by
    have := prRow_len t i j
    simp only [prRow, List.length_append]
    split <;> simp <;> omega
theorem prTo_len (t : List (List Int)) : ∀ i, (prTo t i).length ≤ i * t.length
  | 0 => by simp [prTo]
  | i + 1 => by
    have h1 := prTo_len t i
    have h2 := prRow_len t i t.length
    simp only [prTo, List.length_append, Nat.succ_mul]; omega
theorem prs_len {t : List (List Int)} (h : t.length ≤ 8) {i j : Nat} (hi : i ≤ t.length) (hj : j ≤ t.length) : (prTo t i ++ prRow t i j).length ≤ 72 := by
  have h1 := prTo_len t i
  have h2 := prRow_len t i j
  have h3 : i * t.length ≤ 8 * 8 := Nat.mul_le_mul (by omega) h
  rw [List.length_append]; omega
theorem prRow_mem {t : List (List Int)} {i : Nat} {x : Int × Int} : ∀ {j : Nat}, x ∈ prRow t i j → ∃ y, y < j ∧ ge t i y ≠ 0 ∧ x = ((i : Int), (y : Int))
  | 0, h => by simp [prRow] at h
  | j + 1, h => by
    simp only [prRow, List.mem_append] at h
    rcases h with h | h
    · obtain ⟨y, h1, h2, h3⟩ := prRow_mem h
      exact ⟨y, by omega, h2, h3⟩
    · split at h
      · simp at h
      · rename_i hne
        simp at h
        exact ⟨j, by omega, hne, h⟩
theorem prTo_mem {t : List (List Int)} {x : Int × Int} : ∀ {i : Nat}, x ∈ prTo t i → ∃ a y, a < i ∧ y < t.length ∧ ge t a y ≠ 0 ∧ x = ((a : Int), (y : Int))
  | 0, h => by simp [prTo] at h
  | i + 1, h => by
    simp only [prTo, List.mem_append] at h
    rcases h with h | h
    · obtain ⟨a, y, h1, h2, h3, h4⟩ := prTo_mem h
      exact ⟨a, y, by omega, h2, h3, h4⟩
    · obtain ⟨y, h1, h2, h3⟩ := prRow_mem h
      exact ⟨i, y, by omega, h1, h2, h3⟩
theorem prRow_split (t : List (List Int)) (i j : Nat) : ∀ k, ∃ R, prRow t i (j + k) = prRow t i j ++ R
  | 0 => ⟨[], by simp⟩
  | k + 1 => by
    obtain ⟨R, h⟩ := prRow_split t i j k
    exact ⟨R ++ (if ge t i (j + k) = 0 then [] else [((i : Int), ((j + k : Nat) : Int))]), by rw [← List.append_assoc, ← h]; rfl⟩
theorem prTo_split (t : List (List Int)) (i : Nat) : ∀ k, ∃ R, prTo t (i + k) = prTo t i ++ R
  | 0 => ⟨[], by simp⟩
  | k + 1 => by
    obtain ⟨R, h⟩ := prTo_split t i k
    exact ⟨R ++ prRow t (i + k) t.length, by rw [← List.append_assoc, ← h]; rfl⟩
theorem prs_at {t : List (List Int)} {i j : Nat} (hi : i < t.length) (hj : j < t.length) (h : ge t i j ≠ 0) : ∃ R, prs t = (prTo t i ++ prRow t i j) ++ ((i : Int), (j : Int)) :: R := by
  obtain ⟨R1, h1⟩ := prTo_split t (i + 1) (t.length - (i + 1))
  obtain ⟨R2, h2⟩ := prRow_split t i (j + 1) (t.length - (j + 1))
  rw [show i + 1 + (t.length - (i + 1)) = t.length by omega] at h1
  rw [show j + 1 + (t.length - (j + 1)) = t.length by omega, prRow_yes h] at h2
  refine ⟨R2 ++ R1, ?_⟩
  rw [prs, h1]
  simp only [prTo]
  rw [h2]
  simp
/-- The place of x in a list of pairs, -1 if it is not there. -/
def idxP (P : List (Int × Int)) (x : Int × Int) : Int := if x ∈ P then (P.idxOf x : Int) else -1
theorem idxP_at {P R : List (Int × Int)} {x : Int × Int} (h : x ∉ P) : idxP (P ++ x :: R) x = (P.length : Int) := by
  unfold idxP
  rw [if_pos (by simp), List.idxOf_append, if_neg h]
  simp
theorem idxP_first {P : List (Int × Int)} {x : Int × Int} {k : Nat} (hk : k < P.length) (h : gp P k = x) (hn : ∀ j, j < k → gp P j ≠ x) : idxP P x = (k : Int) := by
  have e : P = P.take k ++ x :: P.drop (k + 1) := by
    rw [← h]
    conv => lhs; rw [← List.take_append_drop k P]
    congr 1
    rw [List.drop_eq_getElem_cons hk]
    simp [gp, List.getD_eq_getElem?_getD, List.getElem?_eq_getElem hk]
  have hm : x ∉ P.take k := by
    intro hm
    obtain ⟨j, hj, e⟩ := List.getElem_of_mem hm
    rw [List.length_take] at hj
    apply hn j (by omega)
    rw [← e]
    simp [gp, List.getD_eq_getElem?_getD, List.getElem?_eq_getElem (show j < P.length by omega)]
  have := idxP_at (P := P.take k) (R := P.drop (k + 1)) hm
  rw [← e] at this
  rw [this, List.length_take]
  congr 1; omega
theorem idxP_none {P : List (Int × Int)} {x : Int × Int} (hn : ∀ j, j < P.length → gp P j ≠ x) : idxP P x = -1 := by
  unfold idxP
  rw [if_neg]
  intro hm
  obtain ⟨j, hj, e⟩ := List.getElem_of_mem hm
  apply hn j hj
  rw [← e]
  simp [gp, List.getD_eq_getElem?_getD, List.getElem?_eq_getElem hj]
theorem idxP_cnt {t : List (List Int)} {i j : Nat} (hi : i < t.length) (hj : j < t.length) (h : ge t i j ≠ 0) : idxP (prs t) ((i : Int), (j : Int)) = (cnt t i j : Int) := by
  obtain ⟨R, e⟩ := prs_at hi hj h
  rw [e, idxP_at]
  · rfl
  · intro hm
    rcases List.mem_append.1 hm with hm | hm
    · obtain ⟨a, y, h1, -, -, h4⟩ := prTo_mem hm
      injection h4 with h4 h5
      omega
    · obtain ⟨y, h1, -, h4⟩ := prRow_mem hm
      injection h4 with h4 h5
      omega
theorem gp_mem {P : List (Int × Int)} {k : Nat} (h : k < P.length) : gp P k ∈ P := by
  simp [gp, List.getD_eq_getElem?_getD, List.getElem?_eq_getElem h]
theorem prs_gp {t : List (List Int)} {f : Nat} (hf : f < (prs t).length) : ∃ a y, a < t.length ∧ y < t.length ∧ ge t a y ≠ 0 ∧ gp (prs t) f = ((a : Int), (y : Int)) := prTo_mem (gp_mem hf)
/-- The composite is the place of the pair. -/
theorem posV_idx {t : List (List Int)} (h : Pre t) {f g : Nat} (hf : f < (prs t).length) (hg : g < (prs t).length) (e : (gp (prs t) f).2 = (gp (prs t) g).1) :
    posV t f g = idxP (prs t) ((gp (prs t) f).1, (gp (prs t) g).2) := by
  obtain ⟨a, y, h1, h2, h3, h4⟩ := prs_gp hf
  obtain ⟨a', y', h1', h2', h3', h4'⟩ := prs_gp hg
  rw [posV, if_pos e]
  rw [h4, h4'] at e ⊢
  have e' : y = a' := by have : (y : Int) = a' := e; omega
  subst e'
  have b1 := h.sq.ent h1 h2
  have b2 := h.sq.ent h1' h2'
  have b3 := h.a a y y' h1 h2 h2' (by omega) (by omega)
  rw [idxP_cnt h1 h2' (by omega)]
  rfl
theorem posV_no {t : List (List Int)} {f g : Nat} (e : ¬ (gp (prs t) f).2 = (gp (prs t) g).1) : posV t f g = -1 := by rw [posV, if_neg e]
theorem gi_fst (P : List (Int × Int)) (k : Nat) : gi (P.map Prod.fst) k = (gp P k).1 := by
  unfold gi gp
  rw [List.getD_eq_getElem?_getD, List.getD_eq_getElem?_getD, List.getElem?_map]
  cases P[k]? <;> rfl
theorem gi_snd (P : List (Int × Int)) (k : Nat) : gi (P.map Prod.snd) k = (gp P k).2 := by
  unfold gi gp
  rw [List.getD_eq_getElem?_getD, List.getD_eq_getElem?_getD, List.getElem?_map]
  cases P[k]? <;> rfl
theorem posM_len (t : List (List Int)) : (posM t).length = (prs t).length := by simp [posM]
theorem gr_posM {t : List (List Int)} {f : Nat} (hf : f < (prs t).length) : gr (posM t) f = tab (posV t f) (prs t).length := by
  rw [gr_lt (by rw [posM_len]; exact hf)]; simp [posM]
/-- The relation of a chain. -/
def chT (n : Nat) : List (List Int) := (List.range n).map fun i => tab (fun j => if j < i then 0 else 1) n
/-- The identity's relation. -/
def idT (n : Nat) : List (List Int) := (List.range n).map fun i => tab (fun j => if j = i then 1 else 0) n
def disC (n : Nat) : Cat := ⟨n, tab (fun i => (i : Int)) n, tab (fun i => (i : Int)) n, tab (fun i => (i : Int)) n, (List.range n).map fun f => tab (fun g => if f = g then (f : Int) else -1) n⟩
theorem chT_len (n : Nat) : (chT n).length = n := by simp [chT]
theorem idT_len (n : Nat) : (idT n).length = n := by simp [idT]
theorem gr_chT {n i : Nat} (h : i < n) : gr (chT n) i = tab (fun j => if j < i then 0 else 1) n := by
  rw [gr_lt (by rw [chT_len]; exact h)]; simp [chT]
theorem gr_idT {n i : Nat} (h : i < n) : gr (idT n) i = tab (fun j => if j = i then 1 else 0) n := by
  rw [gr_lt (by rw [idT_len]; exact h)]; simp [idT]
theorem ge_chT {n i j : Nat} (h : i < n) (hj : j < n) : ge (chT n) i j = if j < i then 0 else 1 := by
  rw [ge, gr_chT h, gi_tab hj]
theorem allIn_of {m : Int} {xs : List Int} (h : ∀ j, j < xs.length → 0 ≤ gi xs j ∧ gi xs j < m) : allIn m xs = true := by
  apply List.all_eq_true.2
  intro x hx
  obtain ⟨j, hj, e⟩ := List.getElem_of_mem hx
  have := h j hj
  rw [gi_lt hj, e] at this
  simpa using this
theorem pre_chT (n : Nat) : Pre (chT n) := by
  have hl := chT_len n
  refine ⟨fun i hi => ?_, fun i hi => ?_, fun i j k hi hj hk h1 h2 => ?_⟩
  · rw [hl] at hi ⊢
    refine ⟨by rw [gr_chT hi, tab_length], allIn_of fun j hj => ?_⟩
    rw [gr_chT hi, tab_length] at hj
    rw [gr_chT hi, gi_tab hj]
    split <;> omega
  · rw [hl] at hi
    rw [ge_chT hi hi, if_neg (by omega)]
  · rw [hl] at hi hj hk
    rw [ge_chT hi hj] at h1
    rw [ge_chT hj hk] at h2
    rw [ge_chT hi hk]
    split at h1
    · omega
    · split at h2
      · omega
      · rw [if_neg (by omega)]
theorem le8 {n : Nat} (h : n ≤ 8) : n = 0 ∨ n = 1 ∨ n = 2 ∨ n = 3 ∨ n = 4 ∨ n = 5 ∨ n = 6 ∨ n = 7 ∨ n = 8 := by omega
theorem chT_40 {n : Nat} (h : n ≤ 8) : (prs (chT n)).length ≤ 40 := by
  rcases le8 h with rfl | rfl | rfl | rfl | rfl | rfl | rfl | rfl | rfl <;> decide +kernel
theorem idT_40 {n : Nat} (h : n ≤ 8) : (prs (idT n)).length ≤ 40 := by
  rcases le8 h with rfl | rfl | rfl | rfl | rfl | rfl | rfl | rfl | rfl <;> decide +kernel
theorem preR_chT {n : Nat} (h : n ≤ 8) : preR (chT n) = (posC (chT n), 0) := by
  unfold preR
  rw [if_pos (dB_t (pre_chT n)), if_pos (by rw [chT_len]; exact h), if_pos (chT_40 h)]
theorem pos_idT {n : Nat} (h : n ≤ 8) : posC (idT n) = disC n := by
  rcases le8 h with rfl | rfl | rfl | rfl | rfl | rfl | rfl | rfl | rfl <;> rfl
end Go.Proofs.Ytllbjckbinolmaa
