/-
  The law's helpers on lists of nodes of diagrams: equal, mark, held.
-/
import Derived.Test.YtjlpmfimbgbcmaaDoorPu
import Derived.StillTailTactics
import Derived.Laws.Rows
namespace Go.Proofs.YtjlpmfimbgbcmaaDoor
open Go.RowKit

def gq (d : List (Int × Int)) (i : Nat) : Int × Int := d.getD i (0, 0)
theorem flP_get : ∀ (d : List (Int × Int)) (i : Nat), i < d.length → (flP d)[i * 2]? = some (.int .i64 (gq d i).1) ∧ (flP d)[i * 2 + 1]? = some (.int .i64 (gq d i).2)
  | [], i, h => absurd h (Nat.not_lt_zero _)
  | x :: d, 0, _ => ⟨rfl, rfl⟩
  | x :: d, i + 1, h => by
    have := flP_get d i (by simp at h; omega)
    have e : flP (x :: d) = .int .i64 x.1 :: .int .i64 x.2 :: flP d := rfl
    rw [e, show (i + 1) * 2 = i * 2 + 1 + 1 by omega, List.getElem?_cons_succ, List.getElem?_cons_succ, List.getElem?_cons_succ, List.getElem?_cons_succ]
    exact this
/-- A slice of n nodes with known cells. -/
def NV (w : World) (v : Value) (n : Nat) (f : Nat → Int) : Prop := ∃ ao c, v = .slice ao n c ∧ (0 < n → ∃ g, ao = some ⟨g, 0, none⟩ ∧ ∀ j, j < n * 2 → w.cell? ⟨g, j, none⟩ = some (.int .i64 (f j)))
theorem NV.kept {w w' : World} {v : Value} {n : Nat} {f : Nat → Int} (h : NV w v n f) (hb : Below w.heap.size w w') : NV w' v n f := by
  obtain ⟨ao, c, rfl, h⟩ := h
  refine ⟨ao, c, rfl, fun hn => ?_⟩
  obtain ⟨g, rfl, hc⟩ := h hn
  exact ⟨g, rfl, fun j hj => up_cell hb (hc j hj)⟩
def fd (d : List (Int × Int)) (j : Nat) : Int := if j % 2 = 0 then (gq d (j / 2)).1 else (gq d (j / 2)).2
theorem OwnP.nv {E : TypeId} {w : World} {B : Nat} {v : Value} {d : List (Int × Int)} (h : OwnP E w B v d) : NV w v d.length (fd d) := by
  rcases h.2 with ⟨rfl, hn⟩ | ⟨g, cap, cur, rfl, -⟩
  · exact ⟨none, 0, by rw [hn], fun q => by omega⟩
  · refine ⟨_, cap, rfl, fun _ => ⟨g, rfl, fun j hj => ?_⟩⟩
    have hg := flP_get d (j / 2) (by omega)
    rw [World.ownsRow.cellAt h j hj]
    unfold fd
    by_cases e : j % 2 = 0
    · rw [if_pos e, ← hg.1, show j / 2 * 2 = j by omega]
    · rw [if_neg e, ← hg.2, show j / 2 * 2 + 1 = j by omega]
theorem c_eqDN (a b : Int) (w : World) : Calls Tryd.prog 41 #[.agg #[.int .i64 a, .int .i64 b], .agg #[.int .i64 a, .int .i64 b]] w (Ret w (.bool true)) := by
  have h1 : (a != a) = false := by simp
  have h2 : (b != b) = false := by simp
  go_enter Tryd.func41, Tryd.ntmps41
  go_wp2_with fail
  go_ret
  exact ⟨rfl, bel_alloc (bel_alloc (Below.refl _ _) _) _⟩
set_option maxRecDepth 1000000 in
set_option maxHeartbeats 400000 in
theorem c_eqDNS {w : World} {u v : Value} {n : Nat} {f : Nat → Int} (hu : NV w u n f) (hv : NV w v n f) (hlen : n ≤ 1048576) : Calls Tryd.prog 18 #[u, v] w (Ret w (.bool true)) := by
  obtain ⟨ao, c, rfl, ha⟩ := hu
  obtain ⟨ao', c', rfl, ha'⟩ := hv
  have hlb : ((n : Int) != (n : Int)) = false := by simp
  have HA := Lib.hid ha
  have HA' := Lib.hid ha'
  clear ha ha'
  go_enter Tryd.func18, Tryd.ntmps18
  go_wp2_with fail
  clear hlb
  go_loopw [5] (fun i wr => ∃ k : Nat, k ≤ n ∧ i = .int .i64 k ∧ Below w.heap.size w wr) (fun i _ => n - (intOf i).toNat)
  case atStart => exact ⟨0, Nat.zero_le _, rfl, Below.refl _ _⟩
  case round =>
    obtain ⟨k, hk, rfl, hb⟩ := hrel
    by_cases hlt : k < n
    · obtain ⟨g, rfl, hc⟩ := HA.out (by omega)
      obtain ⟨g', rfl, hc'⟩ := HA'.out (by omega)
      have cx := up_cell hb (hc (k * 2) (by omega))
      have cy := up_cell hb (hc (k * 2 + 1) (by omega))
      have cx' := up_cell hb (hc' (k * 2) (by omega))
      have cy' := up_cell hb (hc' (k * 2 + 1) (by omega))
      clear hc hc'
      go_wp2_with fail
      go_still_tail 8, (by kernel_rfl)
      change wpList _ _ _ _ _ wr.drew
      have hb2 := hb.trans ((Drawn.one (Drawn.refl wr)).below _)
      clear cx cy cx' cy' hb
      generalize wr.drew = wq at *
      go_wp2_with fail
      refine (c_eqDN _ _ _).mono ?_
      rintro e w2 ⟨rfl, b2⟩
      have hb3 := hb2.trans (b2.mono hb2.size)
      clear b2 hb2
      go_wp2_with fail
      go_roundw
      case rel => exact ⟨k + 1, by omega, by go_num, hb3⟩
      case measure => simp [intOf]; omega
    · have hk : k = n := by omega
      subst hk
      go_wp2_with fail
      go_ret
      exact ⟨rfl, hb⟩
/-- The marks 1, 2, .. -/
def mkf (j : Nat) : Int := (j : Int) + 1
set_option maxHeartbeats 400000 in
theorem c_heldDNS {w : World} {v : Value} {n : Nat} (hv : NV w v n mkf) (hlen : n ≤ 1048576) : Calls Tryd.prog 20 #[v, .int .i64 1] w (Rd w (.int .i64 ((n : Int) * 2 + 1))) := by
  obtain ⟨ao, c, rfl, ha⟩ := hv
  have HA := Lib.hid ha
  clear ha
  go_enter Tryd.func20, Tryd.ntmps20
  go_wp2_with fail
  go_loopw [1, 5] (fun m i wr => ∃ k : Nat, k ≤ n ∧ m = .int .i64 ((k : Int) * 2 + 1) ∧ i = .int .i64 k ∧ Drawn w wr) (fun _ i _ => n - (intOf i).toNat)
  case atStart => exact ⟨0, Nat.zero_le _, rfl, rfl, Drawn.refl _⟩
  case round =>
    obtain ⟨k, hk, rfl, rfl, hd⟩ := hrel
    by_cases hlt : k < n
    · obtain ⟨g, rfl, hc⟩ := HA.out (by omega)
      have cx := up_cell (hd.below _) (hc (k * 2) (by omega))
      have cy := up_cell (hd.below _) (hc (k * 2 + 1) (by omega))
      unfold mkf at cx cy
      rw [show (((k * 2 : Nat) : Int)) + 1 = (k : Int) * 2 + 1 by omega] at cx
      rw [show (((k * 2 + 1 : Nat) : Int)) + 1 = (k : Int) * 2 + 1 + 1 by omega] at cy
      clear hc
      go_wp2_with fail
      go_roundw
      case rel => exact ⟨k + 1, by omega, by go_num, by go_num, hd⟩
      case measure => simp [intOf]; omega
    · have hk : k = n := by omega
      subst hk
      go_wp2_with fail
      go_ret
      exact ⟨rfl, hd⟩
set_option maxRecDepth 1000000 in
set_option maxHeartbeats 800000 in
theorem c_markDNS {w : World} {B : Nat} {v : Value} {d : List (Int × Int)} (h : OwnP 73 w B v d) (hlen : d.length ≤ 1048576) :
    Calls Tryd.prog 19 #[v, .int .i64 1] w (fun e w' => e = .returned (.int .i64 ((d.length : Int) * 2 + 1)) ∧ NV w' v d.length mkf ∧ Within B w.heap.size w w') := by
  rcases h.2 with ⟨rfl, hn⟩ | ⟨g, cap, cur, rfl, hBg, hg, hnc, hcap, hsz, -⟩
  · clear h
    rw [hn]
    go_enter Tryd.func19, Tryd.ntmps19
    go_wp2_with fail
    go_loopw [1, 5] (fun m i wr => m = .int .i64 1 ∧ i = .int .i64 0 ∧ wr = w) (fun _ i _ => 0)
    case atStart => exact ⟨rfl, rfl, rfl⟩
    case round =>
      obtain ⟨rfl, rfl, rfl⟩ := hrel
      go_wp2_with fail
      go_ret
      exact ⟨rfl, ⟨none, 0, rfl, fun q => by omega⟩, Within.refl _ _ _⟩
  · have hgl := (Array.getElem?_eq_some_iff.1 hg).1
    have hr0 : w.rowIs g 73 (cap * 2) (fun j => if j < 0 * 2 then .int .i64 (mkf j) else cur.getD j undef) := ⟨cur, hg, hsz, fun i hi => by
      show cur[i]? = some (if i < 0 * 2 then .int .i64 (mkf i) else cur.getD i undef)
      rw [if_neg (by omega), Array.getElem?_eq_getElem (by omega)]
      simp [Array.getD, show i < cur.size by omega]⟩
    have HR0 := Lib.hid hr0
    clear h hg hr0
    obtain ⟨n, hnn⟩ : ∃ n, n = d.length := ⟨_, rfl⟩
    rw [← hnn] at hnc hlen ⊢
    clear hnn
    go_enter Tryd.func19, Tryd.ntmps19
    go_wp2_with fail
    go_loopw [1, 5] (fun m i wr => ∃ k : Nat, k ≤ n ∧ m = .int .i64 ((k : Int) * 2 + 1) ∧ i = .int .i64 k ∧ Hid (wr.rowIs g 73 (cap * 2) (fun j => if j < k * 2 then .int .i64 (mkf j) else cur.getD j undef)) ∧ Hid (Within B w.heap.size w wr)) (fun _ i _ => n - (intOf i).toNat)
    case atStart => exact ⟨0, Nat.zero_le _, rfl, rfl, HR0, Within.refl _ _ _⟩
    case round =>
      obtain ⟨k, hk, rfl, rfl, HR, HW⟩ := hrel
      by_cases hlt : k < n
      · have hst := HR.out.cell (show k * 2 < cap * 2 by omega)
        have hst1 := HR.out.cell (show k * 2 + 1 < cap * 2 by omega)
        have hfz := HR.out.frozen (k * 2)
        have hfz1 := HR.out.frozen (k * 2 + 1)
        go_wp2_with fail
        go_roundw
        case rel =>
          refine ⟨k + 1, by omega, by go_num, by go_num, ((HR.out.set (k * 2) _).set (k * 2 + 1) _).congr fun j hj => ?_, (HW.out.setCell (p := ⟨g, k * 2, none⟩) hBg hgl _).setCell (p := ⟨g, k * 2 + 1, none⟩) hBg hgl _⟩
          by_cases e1 : j = k * 2 + 1
          · subst e1
            rw [if_pos rfl, if_pos (by omega)]
            unfold mkf
            first | rfl | (congr 1; omega) | (congr 1)
          · rw [if_neg e1]
            by_cases e2 : j = k * 2
            · subst e2
              rw [if_pos rfl, if_pos (by omega)]
              unfold mkf
              first | rfl | (congr 1; omega) | (congr 1)
            · rw [if_neg e2]
              by_cases e3 : j < k * 2
              · rw [if_pos e3, if_pos (show j < (k + 1) * 2 by omega)]
              · rw [if_neg e3, if_neg (show ¬ j < (k + 1) * 2 by omega)]
        case measure => simp [intOf]; omega
      · have hk : k = n := by omega
        subst hk
        go_wp2_with fail
        go_ret
        exact ⟨rfl, ⟨_, _, rfl, fun _ => ⟨g, rfl, fun j hj => by rw [HR.out.cell (show j < cap * 2 by omega), if_pos hj]⟩⟩, HW.out⟩
end Go.Proofs.YtjlpmfimbgbcmaaDoor
