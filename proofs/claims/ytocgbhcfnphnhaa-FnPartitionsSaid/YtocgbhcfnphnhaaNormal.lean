/-
  normal numbers the classes of labels: it returns what the reference's l01Classes returns.
-/
import Derived.Test.YtocgbhcfnphnhaaSets3
import Derived.Test.YtocgbhcfnphnhaaMapI
namespace Go.Proofs.Ytocgbhcfnphnhaa
open Go.RowKit Go.Maps

theorem zeroI64 (w : World) : (zeroValue 2).run Try.prog w = .ok (.int .i64 0) w := by kernel_rfl
/-- The place of a label among those that have been met. -/
def seenAt (ss : List Int) : Int → Option Int := fun y => if ix ss y < 0 then none else some (ix ss y)
theorem seenAt_snoc {ss : List Int} {y : Int} (h : ix ss y < 0) : (fun q => if q = y then some (ss.length : Int) else seenAt ss q) = seenAt (ss ++ [y]) := by
  funext q
  unfold seenAt
  rw [ix_append, ixF_cons, ixF_nil]
  by_cases e : q = y
  · subst e
    rw [if_pos rfl, if_pos h, if_pos rfl, if_neg (by omega)]
  · rw [if_neg e, if_neg (Ne.symm e)]
    by_cases h2 : ix ss q < 0
    · rw [if_pos h2, if_pos h2, if_pos (by omega)]
    · rw [if_neg h2, if_neg h2, if_neg h2]
theorem gi_at_len {os r : List Int} {x : Int} {k : Nat} (h : os.length = k) : gi (os ++ x :: r) k = x := by
  subst h
  rw [gi_lt (by simp)]; simp
theorem cls_bd (xs : List Int) : ∀ y ∈ cls xs, 0 ≤ y ∧ y ≤ xs.length := by
  have H : ∀ (xs ss : List Int), ∀ y ∈ clsG xs ss, 0 ≤ y ∧ y ≤ ss.length + xs.length := by
    intro xs
    induction xs with
    | nil => intro ss y hy; cases hy
    | cons x r ih =>
      intro ss y hy
      unfold clsG at hy
      split at hy
      · rcases List.mem_cons.1 hy with rfl | hy
        · simp; omega
        · have := ih _ y hy
          simp at this ⊢; omega
      · rcases List.mem_cons.1 hy with rfl | hy
        · have := ix_bd ss x
          simp; omega
        · have := ih _ y hy
          simp at this ⊢; omega
  intro y hy
  have := H xs [] y hy
  simpa using this
theorem cls_I64 {xs : List Int} (h : xs.length ≤ 4294967296) : AllI64 (cls xs) := fun y hy => by
  have := cls_bd xs y hy
  exact ⟨by omega, by omega⟩
theorem row_step2 (n k : Nat) (v z : Value) (f : Nat → Value) (hv : v = f k) (j : Nat) (_ : j < n) : (if j = k then v else (if j < k then f j else z)) = if j < k + 1 then f j else z := by
  by_cases e : j = k
  · subst e; simp [hv]
  · rw [if_neg e]
    by_cases h : j < k
    · rw [if_pos h, if_pos (by omega)]
    · rw [if_neg h, if_neg (by omega)]

set_option maxHeartbeats 400000 in
theorem c_normal {w : World} {v : Value} {xs : List Int} (h : IS w v xs) :
    Calls Try.prog 48 #[v] w (Mk w fun w' u => OwnT 2 w.heap.size w'.heap.size w' u (cls xs)) := by
  obtain ⟨ao, b, o, c, rfl, ha, hc⟩ := h.ex
  have hlen := h.len
  have hwf := h.wf
  have hmk := run_make_row' (P := Try.prog) 56 2 (.int .i64 0) 8 Try.underlying56 infoInt64 rfl .i64 .i64 xs.length (by omega) (by omega)
  have hmm := @run_makeMap Try.prog
  clear h
  go_enter Try.func48, Try.ntmps48
  go_wp2
  clear hmk hmm
  go_loopw [5, 6, 7, 8, 15] (fun _ _ _ _ i wr => ∃ (k : Nat) (os ss : List Int), k ≤ xs.length ∧ i = .int .i64 k ∧ Below w.heap.size w wr ∧ MapI Try.prog 2 2 wr w.heap.size ss.length (seenAt ss) ∧
      wr.rowIs (w.heap.size + 1) 2 xs.length (fun j => if j < k then .int .i64 (gi (cls xs) j) else .int .i64 0) ∧ Hid (os.length = k ∧ cls xs = os ++ clsG (xs.drop k) ss) ∧ ss.length ≤ k) (fun _ _ _ _ i _ => xs.length - (intOf i).toNat)
  case atStart =>
    refine ⟨0, [], [], Nat.zero_le _, rfl, bel_alloc (bel_alloc (Below.refl _ _) _) _, (MapI.made _ _ _ _).kept (bel_alloc (Below.refl _ _) _), ?_, ⟨rfl, rfl⟩, Nat.le_refl _⟩
    have := World.rowIs_made (w.alloc (.map #[] 0)) (.int .i64 0) xs.length 2
    rw [World.size_alloc] at this
    exact this.congr (fun i _ => by simp)
  case round =>
    obtain ⟨k, os, ss, hk, rfl, hb, hm, hr, hp, hsl⟩ := hrel
    by_cases hlt : k < xs.length
    · obtain rfl := ha (by omega)
      have cx := IS.cellAt hb (hc k hlt) rfl
      have hxi : I64 (gi xs k) := gi_I64 hwf k
      have hw0 := hb.size
      have hs := Lib.hid (drop_gi hlt)
      have hm1 := hm.lt
      have hr1 := hr.lt
      clear hc
      rcases ix_bd ss (gi xs k) with hi | ⟨hi0, hi1⟩
      · have hneg : ix ss (gi xs k) < 0 := by omega
        have HN := Lib.hid hneg
        have hF : seenAt ss (gi xs k) = none := by unfold seenAt; rw [if_pos hneg]
        have hlk := hm.lookNo Try.underlying2 Try.underlying2 Try.underlying61 (zeroI64 _) hxi hF
        have hln := fun ty => hm.len Try.underlying61 ty
        have HF := Lib.hid hF
        have HM := Lib.hid hm
        have HR := Lib.hid hr
        clear hF hi hneg hm hr
        go_wp2_with (at_mapUpdate; refine hold ?_)
        clear hlk hln
        refine mapPut (z := (ss.length : Int)) HM.out Try.underlying2 Try.underlying2 Try.underlying61 hxi (by constructor <;> omega) HF.out (by omega) (by rfl) _ _ _ (by rfl) (by rfl) (by rfl) (by rfl) ?_
        intro w2 hm2 hg2
        rw [seenAt_snoc HN.out] at hm2
        have hb2 : Below w.heap.size w w2 := hb.grown hg2 (by omega) (fun k hk => by cases hk; exact Nat.le_refl _)
        have hr2 : w2.rowIs (w.heap.size + 1) 2 xs.length _ := HR.out.of_block (hg2.block _ HR.out.lt (by simp))
        have hst := hr2.cell hlt
        have hfz := hr2.frozen k
        have HR2 := Lib.hid hr2
        have hgk : gi (cls xs) k = ss.length := by
          rw [hp.out.2, hs.out, clsG, if_pos HN.out]
          exact gi_at_len hp.out.1
        have HG := Lib.hid hgk
        clear hb hr2 hgk cx hg2 HF HM HR
        go_wp2
        go_roundw
        case rel =>
          refine ⟨k + 1, os ++ [(ss.length : Int)], ss ++ [gi xs k], by omega, by go_num, hb2.setCell (by simp) _, by simpa using hm2.setCell (by simp) _, (HR2.out.set k _).congr (row_step2 _ _ _ _ (fun j => .int .i64 (gi (cls xs) j)) (by rw [HG.out])), ⟨by simp [hp.out.1], ?_⟩, by simp; omega⟩
          rw [hp.out.2, hs.out, clsG, if_pos HN.out, List.append_assoc]; rfl
        case measure => simp [intOf]; omega
      · have hF : seenAt ss (gi xs k) = some (ix ss (gi xs k)) := by unfold seenAt; rw [if_neg (by omega)]
        have hlk := hm.lookYes Try.underlying2 Try.underlying2 Try.underlying61 (zeroI64 _) hxi hF
        have hst := hr.cell hlt
        have hfz := hr.frozen k
        have hgk : gi (cls xs) k = ix ss (gi xs k) := by
          rw [hp.out.2, hs.out, clsG, if_neg (by omega)]
          exact gi_at_len hp.out.1
        have HG := Lib.hid hgk
        have HM := Lib.hid hm
        have HR := Lib.hid hr
        clear hF hm hr hgk
        go_wp2
        go_roundw
        case rel =>
          refine ⟨k + 1, os ++ [ix ss (gi xs k)], ss, by omega, by go_num, hb.setCell (by simp) _, HM.out.setCell (by simp) _, (HR.out.set k _).congr (row_step2 _ _ _ _ (fun j => .int .i64 (gi (cls xs) j)) (by rw [HG.out])), ⟨by simp [hp.out.1], ?_⟩, by omega⟩
          rw [hp.out.2, hs.out, clsG, if_neg (by omega), List.append_assoc]; rfl
        case measure => simp [intOf]; omega
    · have hk' : k = xs.length := by omega
      subst hk'
      go_wp2
      go_ret
      rw [← cls_length xs] at hr
      exact ⟨_, rfl, by rw [← cls_length xs]; exact (Own.of_row hr (by omega) (fun i hi => if_pos hi) (cls_I64 hlen) (by rw [cls_length]; exact hlen)).top, hb⟩
end Go.Proofs.Ytocgbhcfnphnhaa
