/-
  PathCategory: the plain law: the routes differ, and the category of a sorted list of routes.
-/
import Derived.Test.YtllbjckbinolmaaRaw
namespace Go.Proofs.Ytllbjckbinolmaa
open Go.RowKit

/-- Where a route ends, by its arrows. -/
def eo (to : List Int) (a : Int) (p : List Int) : Int := match p.getLast? with | none => a | some e => gi to e.toNat
def key (r : Rt) : Int × List Int := (r.a, r.path)
/-- The queue up to place i: all routes differ, each but the first ones is longer by one than one ahead of i. -/
structure QI (to : List Int) (Q : List Rt) (i : Nat) : Prop where
  nd : (Q.map key).Nodup
  par : ∀ r ∈ Q, r.path ≠ [] → ∃ k, k < i ∧ k < Q.length ∧ ∃ e : Int, r.a = (rt Q k).a ∧ r.path = (rt Q k).path ++ [e]
  ends : ∀ r ∈ Q, r.b = eo to r.a r.path
theorem rt_app {Q C : List Rt} {k : Nat} (h : k < Q.length) : rt (Q ++ C) k = rt Q k := by
  rw [rt_lt (by rw [List.length_append]; omega), rt_lt h, List.getElem_append_left h]
theorem chl_mem {fr to : List Int} {r0 : Rt} : ∀ {m : Nat} {r : Rt}, r ∈ chl fr to r0 m → ∃ e : Nat, e < m ∧ r = ⟨r0.a, gi to e, r0.path ++ [(e : Int)]⟩
  | 0, r, h => by cases h
  | m + 1, r, h => by
    rw [chl_succ] at h
    split at h
    · rcases List.mem_append.1 h with h | h
      · obtain ⟨e, he, q⟩ := chl_mem h
        exact ⟨e, by omega, q⟩
      · simp at h; exact ⟨m, by omega, h⟩
    · obtain ⟨e, he, q⟩ := chl_mem h
      exact ⟨e, by omega, q⟩
theorem chl_nd {fr to : List Int} {r0 : Rt} : ∀ m : Nat, ((chl fr to r0 m).map key).Nodup
  | 0 => List.nodup_nil
  | m + 1 => by
    rw [chl_succ]
    split
    · rw [List.map_append, List.nodup_append]
      refine ⟨chl_nd m, by simp, ?_⟩
      intro x hx y hy
      rw [List.mem_map] at hx
      obtain ⟨r, hr, rfl⟩ := hx
      obtain ⟨e, he, rfl⟩ := chl_mem hr
      simp at hy
      subst hy
      intro q
      unfold key at q
      simp at q
      omega
    · exact chl_nd m
theorem QI.next {fr to : List Int} {Q : List Rt} {i : Nat} (h : QI to Q i) (hi : i < Q.length) (m : Nat) : QI to (Q ++ chl fr to (rt Q i) m) (i + 1) := by
  refine ⟨?_, fun r hr hp => ?_, fun r hr => ?_⟩
  · rw [List.map_append, List.nodup_append]
    refine ⟨h.nd, chl_nd m, ?_⟩
    intro x hx y hy e
    rw [List.mem_map] at hx hy
    obtain ⟨r, hr, rfl⟩ := hx
    obtain ⟨s, hs, rfl⟩ := hy
    obtain ⟨e', -, rfl⟩ := chl_mem hs
    unfold key at e
    simp only [Prod.mk.injEq] at e
    obtain ⟨e1, e2⟩ := e
    obtain ⟨k, hk, hkl, e'', p1, p2⟩ := h.par r hr (by rw [e2]; simp)
    rw [p2] at e2
    have e3 := List.append_inj_left' e2 rfl
    have hkk : key (rt Q k) = key (rt Q i) := by unfold key; rw [← p1, e1, e3]
    have hnd := List.pairwise_iff_getElem.1 h.nd k i (by simpa using hkl) (by simpa using hi) hk
    simp only [List.getElem_map] at hnd
    rw [rt_lt hkl, rt_lt hi] at hkk
    exact hnd hkk
  · rcases List.mem_append.1 hr with hr | hr
    · obtain ⟨k, hk, hkl, e, p1, p2⟩ := h.par r hr hp
      exact ⟨k, by omega, by rw [List.length_append]; omega, e, by rw [rt_app hkl]; exact p1, by rw [rt_app hkl]; exact p2⟩
    · obtain ⟨e, -, rfl⟩ := chl_mem hr
      exact ⟨i, by omega, by rw [List.length_append]; omega, e, by rw [rt_app hi], by rw [rt_app hi]⟩
  · rcases List.mem_append.1 hr with hr | hr
    · exact h.ends r hr
    · obtain ⟨e, -, rfl⟩ := chl_mem hr
      simp [eo]
theorem ids_mem : ∀ {n : Nat} {r : Rt}, r ∈ ids n → ∃ k : Nat, k < n ∧ r = ⟨k, k, []⟩
  | 0, r, h => by cases h
  | n + 1, r, h => by
    rcases List.mem_append.1 h with h | h
    · obtain ⟨k, hk, e⟩ := ids_mem h
      exact ⟨k, by omega, e⟩
    · simp at h; exact ⟨n, by omega, h⟩
theorem ids_nd : ∀ n : Nat, ((ids n).map key).Nodup
  | 0 => List.nodup_nil
  | n + 1 => by
    rw [ids, List.map_append, List.nodup_append]
    refine ⟨ids_nd n, by simp, ?_⟩
    intro x hx y hy
    rw [List.mem_map] at hx
    obtain ⟨r, hr, rfl⟩ := hx
    obtain ⟨k, hk, rfl⟩ := ids_mem hr
    simp at hy
    subst hy
    intro q
    unfold key at q
    simp at q
    omega
theorem QI.start {to : List Int} (n : Nat) : QI to (ids n) 0 :=
  ⟨ids_nd n, (fun r hr hp => by obtain ⟨k, -, rfl⟩ := ids_mem hr; exact absurd rfl hp), fun r hr => by obtain ⟨k, -, rfl⟩ := ids_mem hr; rfl⟩
theorem bfs_QI {fr to : List Int} : ∀ f Q i, QI to Q i → ∃ i', QI to (bfs fr to f Q i) i'
  | 0, Q, i, h => ⟨i, h⟩
  | f + 1, Q, i, h => by
    rw [bfs]
    split
    · rename_i c
      exact bfs_QI f _ _ (h.next c.1 _)
    · exact ⟨i, h⟩
/-- A list of routes fit for a category. -/
structure GS (n : Nat) (to : List Int) (S : List Rt) : Prop where
  nd : (S.map key).Nodup
  ends : ∀ r ∈ S, r.b = eo to r.a r.path
  rng : ∀ r ∈ S, (0 ≤ r.a ∧ r.a < n) ∧ (0 ≤ r.b ∧ r.b < n)
theorem bfs_ok {fr to : List Int} {n : Nat} (he : ∀ j, j < fr.length → 0 ≤ gi to j ∧ gi to j < (n : Int)) : ∀ f Q i, (∀ r ∈ Q, (0 ≤ r.a ∧ r.a < (n : Int)) ∧ (0 ≤ r.b ∧ r.b < (n : Int))) → ∀ r ∈ bfs fr to f Q i, (0 ≤ r.a ∧ r.a < (n : Int)) ∧ (0 ≤ r.b ∧ r.b < (n : Int))
  | 0, Q, i, h => h
  | f + 1, Q, i, h => by
    rw [bfs]
    split
    · rename_i c
      refine bfs_ok he f _ _ (fun r hr => ?_)
      rcases List.mem_append.1 hr with hr | hr
      · exact h r hr
      · obtain ⟨e, hel, rfl⟩ := chl_mem hr
        refine ⟨?_, he e hel⟩
        have := h (rt Q i) (by rw [rt_lt c.1]; exact List.getElem_mem _)
        exact this.1
    · exact h
theorem bfs_len {fr to : List Int} : ∀ f Q i, (∀ r ∈ Q, r.path.length ≤ i) → ∀ r ∈ bfs fr to f Q i, r.path.length ≤ i + f
  | 0, Q, i, h => h
  | f + 1, Q, i, h => by
    rw [bfs]
    split
    · rename_i c
      have := bfs_len (fr := fr) (to := to) f (Q ++ chl fr to (rt Q i) fr.length) (i + 1) (fun r hr => by
        rcases List.mem_append.1 hr with hr | hr
        · have := h r hr; omega
        · obtain ⟨e, -, rfl⟩ := chl_mem hr
          have := h (rt Q i) (by rw [rt_lt c.1]; exact List.getElem_mem _)
          simp only [List.length_append, List.length_singleton]
          omega)
      intro r hr
      have := this r hr
      omega
    · intro r hr
      have := h r hr
      omega
theorem qall_len {fr to : List Int} {n : Nat} {r : Rt} (h : r ∈ qall n fr to) : r.path.length ≤ 41 := by
  have := bfs_len 41 (ids n) 0 (fun r hr => by obtain ⟨k, -, rfl⟩ := ids_mem hr; exact Nat.le_refl _) r h
  omega
theorem qall_gs {fr to : List Int} {n : Nat} (he : ∀ j, j < fr.length → 0 ≤ gi to j ∧ gi to j < (n : Int)) {S : List Rt} (hp : S.Perm (qall n fr to)) : GS n to S := by
  obtain ⟨i, h⟩ := bfs_QI (fr := fr) 41 _ _ (QI.start (to := to) n)
  refine ⟨(hp.map key).nodup_iff.2 h.nd, fun r hr => h.ends r (hp.mem_iff.1 hr), fun r hr => ?_⟩
  exact bfs_ok he 41 (ids n) 0 (fun r hr => by obtain ⟨k, hk, rfl⟩ := ids_mem hr; simp only; omega) r (hp.mem_iff.1 hr)
/-- The first place below n at which P holds, else -1; the last one. -/
def lstI (P : Nat → Bool) : Nat → Int
  | 0 => -1
  | n + 1 => if P n then (n : Int) else lstI P n
def fstI (P : Nat → Bool) : Nat → Int
  | 0 => -1
  | n + 1 => if fstI P n = -1 then (if P n then (n : Int) else -1) else fstI P n
theorem lstI_none {P : Nat → Bool} : ∀ {n : Nat}, (∀ j, j < n → P j = false) → lstI P n = -1
  | 0, _ => rfl
  | n + 1, h => by rw [lstI, if_neg (by rw [h n (by omega)]; decide)]; exact lstI_none (fun j hj => h j (by omega))
theorem lstI_one {P : Nat → Bool} : ∀ {n k : Nat}, k < n → P k = true → (∀ j, j < n → P j = true → j = k) → lstI P n = k
  | 0, k, h, _, _ => absurd h (Nat.not_lt_zero _)
  | n + 1, k, h, hk, hu => by
    rw [lstI]
    by_cases e : P n = true
    · rw [if_pos e, hu n (by omega) e]
    · rw [if_neg e]
      have : k ≠ n := fun q => e (by rw [← q]; exact hk)
      exact lstI_one (by omega) hk (fun j hj hp => hu j (by omega) hp)
theorem lstI_bd (P : Nat → Bool) : ∀ n, -1 ≤ lstI P n ∧ lstI P n < n
  | 0 => by simp [lstI]
  | n + 1 => by
    rw [lstI]
    have := lstI_bd P n
    split <;> omega
/-- Both ways to look for the composite. -/
def pI (S : List Rt) (f g k : Nat) : Bool := decide ((rt S k).a = (rt S f).a ∧ (rt S k).b = (rt S g).b) && decide ((rt S k).path = (rt S f).path ++ (rt S g).path)
def pS' (S : List Rt) (f g k : Nat) : Bool := decide ((rt S k).a = (rt S f).a) && decide ((rt S k).path = (rt S f).path ++ (rt S g).path)
theorem rt_mem {S : List Rt} {k : Nat} (h : k < S.length) : rt S k ∈ S := by rw [rt_lt h]; exact List.getElem_mem _
theorem eo_app (to : List Int) (a : Int) (p q : List Int) : eo to a (p ++ q) = eo to (eo to a p) q := by
  unfold eo
  rw [List.getLast?_append]
  cases q.getLast? <;> simp
theorem pI_eq {n : Nat} {to : List Int} {S : List Rt} (h : GS n to S) {f g k : Nat} (hf : f < S.length) (hg : g < S.length) (hk : k < S.length) (e : (rt S f).b = (rt S g).a) : pI S f g k = pS' S f g k := by
  unfold pI pS'
  by_cases h1 : (rt S k).a = (rt S f).a
  · by_cases h2 : (rt S k).path = (rt S f).path ++ (rt S g).path
    · have h3 : (rt S k).b = (rt S g).b := by
        rw [h.ends _ (rt_mem hk), h1, h2, eo_app, ← h.ends _ (rt_mem hf), e, ← h.ends _ (rt_mem hg)]
      simp [h1, h3]
    · simp [h2]
  · simp [h1]
theorem pS_one {n : Nat} {to : List Int} {S : List Rt} (h : GS n to S) {f g j k : Nat} (hj : j < S.length) (hk : k < S.length) (h1 : pS' S f g j = true) (h2 : pS' S f g k = true) : j = k := by
  unfold pS' at h1 h2
  simp only [Bool.and_eq_true, decide_eq_true_eq] at h1 h2
  have e : key (rt S j) = key (rt S k) := by unfold key; rw [h1.1, h1.2, h2.1, h2.2]
  rw [rt_lt hj, rt_lt hk] at e
  refine Classical.byContradiction fun hne => ?_
  rcases Nat.lt_or_gt_of_ne hne with hl | hl
  · have := List.pairwise_iff_getElem.1 h.nd j k (by simpa using hj) (by simpa using hk) hl
    simp only [List.getElem_map] at this
    exact this e
  · have := List.pairwise_iff_getElem.1 h.nd k j (by simpa using hk) (by simpa using hj) hl
    simp only [List.getElem_map] at this
    exact this e.symm
/-- The category of a list of routes. -/
def idF (S : List Rt) : Nat → Nat → Int
  | 0, _ => 0
  | k + 1, x => if (rt S k).path.length = 0 ∧ (rt S k).a = (x : Int) then (k : Int) else idF S k x
def cmV (S : List Rt) (f g : Nat) : Int := if (rt S f).b = (rt S g).a then lstI (pS' S f g) S.length else -1
def cmL (S : List Rt) : List (List Int) := (List.range S.length).map fun f => tab (cmV S f) S.length
def pathC (n : Nat) (S : List Rt) : Cat := ⟨n, S.map (·.a), S.map (·.b), tab (idF S S.length) n, cmL S⟩
theorem idF_bd (S : List Rt) : ∀ k x, 0 ≤ idF S k x ∧ idF S k x ≤ k
  | 0, _ => by simp [idF]
  | k + 1, x => by
    rw [idF]
    have := idF_bd S k x
    split <;> omega
theorem cmL_len (S : List Rt) : (cmL S).length = S.length := by simp [cmL]
theorem gr_cmL {S : List Rt} {f : Nat} (h : f < S.length) : gr (cmL S) f = tab (cmV S f) S.length := by
  rw [gr_lt (by rw [cmL_len]; exact h)]; simp [cmL]
/-- The first place at which the program's test holds is the reference's last one. -/
theorem fst_cm {n : Nat} {to : List Int} {S : List Rt} (h : GS n to S) {f g : Nat} (hf : f < S.length) (hg : g < S.length) (e : (rt S f).b = (rt S g).a) {z : Int}
    (hz : (z = -1 ∧ ∀ j, j < S.length → pI S f g j = false) ∨ (∃ k : Nat, z = k ∧ k < S.length ∧ pI S f g k = true)) : z = cmV S f g := by
  unfold cmV
  rw [if_pos e]
  rcases hz with ⟨rfl, hz⟩ | ⟨k, rfl, hk, hp⟩
  · exact (lstI_none fun j hj => by rw [← pI_eq h hf hg hj e]; exact hz j hj).symm
  · rw [pI_eq h hf hg hk e] at hp
    exact (lstI_one hk hp fun j hj hq => pS_one h hj hk hq hp).symm
/-- The sorted list of the routes. -/
noncomputable def sq (n : Nat) (fr to : List Int) : List Rt := @dite _ (∃ S : List Rt, S.Perm (qall n fr to) ∧ S.Pairwise (fun x y => ltR y x = false)) (Classical.propDecidable _) (fun h => Classical.choose h) (fun _ => [])
theorem sq_eq {n : Nat} {fr to : List Int} {S : List Rt} (h1 : S.Perm (qall n fr to)) (h2 : S.Pairwise (fun x y => ltR y x = false)) : S = sq n fr to := by
  have hx : ∃ S : List Rt, S.Perm (qall n fr to) ∧ S.Pairwise (fun x y => ltR y x = false) := ⟨S, h1, h2⟩
  unfold sq
  rw [dif_pos hx]
  exact sorted_one _ _ (h1.trans (Classical.choose_spec hx).1.symm) h2 (Classical.choose_spec hx).2
/-- What PathCategory answers. -/
noncomputable def pathR (n : Int) (fr to : List Int) : Cat × Int :=
  if fr.length ≠ to.length then (nilC, 1) else if ¬ (inR n 0 8 = true ∧ allIn n fr = true ∧ allIn n to = true) then (nilC, 2) else
  if cycB n.toNat (lps fr to fr.length (n.toNat + 1)) then (nilC, 5) else if ¬ (qall n.toNat fr to).length ≤ 40 then (nilC, 3) else (pathC n.toNat (sq n.toNat fr to), 0)
end Go.Proofs.Ytllbjckbinolmaa
