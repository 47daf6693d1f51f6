/-
  Chapter 29: FreeVariables of program and reference.
-/
import Derived.Test.YtkgbloldbhhgpaaNode2
import Derived.Test.YtkgbloldbhhgpaaSS
namespace Go.Proofs.Ytkgbloldbhhgpaa
open Go.RowKit

theorem infoBoolN : (Try.prog.info? 4).map (fun i => (i.zero, i.size, i.bytes)) = some (some (.bool false), 1, 1) := by kernel_rfl
def hasN (xs : List Int) (x : Int) : Bool := xs.any fun y => y == x
theorem hasN_step {x : Int} {xs : List Int} {k : Nat} (h : k < xs.length) : hasN (xs.drop k) x = ((gi xs k == x) || hasN (xs.drop (k + 1)) x) := by
  rw [drop_gi h]; rfl
theorem hasN_take {x : Int} {xs : List Int} {k : Nat} (h : k < xs.length) : hasN (xs.take (k + 1)) x = (hasN (xs.take k) x || (gi xs k == x)) := by
  rw [take_gi h]; simp [hasN]
theorem c_l01HasN {w : World} {v : Value} {xs : List Int} (h : IS w v xs) (x : Int) : Calls Try.prog 28 #[v, .int .i64 x] w (Ret w (.bool (hasN xs x))) := by
  obtain ⟨ao, b, o, c, rfl, ha, hc⟩ := h.ex
  have hlen := h.len
  have HC := Lib.hid hc
  clear h hc
  go_enter Try.func28, Try.ntmps28
  go_wp2
  go_loopw [5] (fun i wr => ∃ k m : Nat, k ≤ xs.length ∧ i = .int .i64 k ∧ wr = w.drewN m ∧ Hid (hasN xs x = hasN (xs.drop k) x)) (fun i _ => xs.length - (intOf i).toNat)
  case atStart => exact ⟨0, 0, Nat.zero_le _, rfl, rfl, rfl⟩
  case round =>
    obtain ⟨k, m, hk, rfl, rfl, hp⟩ := hrel
    by_cases hlt : k < xs.length
    · obtain rfl := ha (by omega)
      have cx := HC.out k hlt
      have hs := Lib.hid (hasN_step (x := x) hlt)
      by_cases he : gi xs k = x
      · have heb : (gi xs k == x) = true := by simp [he]
        have HE := Lib.hid he
        clear he
        go_wp2
        go_ret
        exact ⟨by rw [hp.out, hs.out]; simp [HE.out], Drawn.below (by repeat (first | exact Drawn.refl _ | refine Drawn.step ?_ _ | refine Drawn.one ?_)) _⟩
      · have heb : (gi xs k == x) = false := by simp [he]
        have HE := Lib.hid heb
        clear he
        go_wp2
        go_roundw
        case rel => exact ⟨k + 1, _, by omega, by go_num, rfl, by unfold Hid; rw [hp.out, hs.out, HE.out]; rfl⟩
        case measure => simp [intOf]; omega
    · have hk' : k = xs.length := by omega
      subst hk'
      go_wp2_with fail
      go_ret
      exact ⟨by rw [hp.out, List.drop_length]; rfl, Drawn.below (by repeat (first | exact Drawn.refl _ | refine Drawn.step ?_ _ | refine Drawn.one ?_)) _⟩
/-- Number j is among the arguments of the first k nodes, or among the first l ones of node k. -/
def frB (d : List Nd) (k l j : Nat) : Bool := (d.take k).any (fun x => hasN x.ag j) || hasN ((gn d k).ag.take l) j
theorem frB_zero (d : List Nd) (j : Nat) : frB d 0 0 j = false := by simp [frB, hasN]
theorem take_gn {d : List Nd} {k : Nat} (h : k < d.length) : d.take (k + 1) = d.take k ++ [gn d k] := by
  rw [gn_lt h, List.take_add_one, List.getElem?_eq_getElem h]; rfl
theorem frB_row {d : List Nd} {k : Nat} (h : k < d.length) (j : Nat) : frB d k (gn d k).ag.length j = frB d (k + 1) 0 j := by
  unfold frB
  rw [List.take_length, take_gn h]
  simp [hasN]
theorem frB_step {d : List Nd} {k l : Nat} (h : l < (gn d k).ag.length) (j : Nat) : frB d k (l + 1) j = (frB d k l j || (gi (gn d k).ag l == (j : Int))) := by
  unfold frB
  rw [hasN_take h, Bool.or_assoc]
def fvP (d : List Nd) (j : Nat) : Bool := d.any fun x => hasN x.ag j
theorem frB_end (d : List Nd) (j : Nat) : frB d d.length 0 j = fvP d j := by
  unfold frB fvP
  rw [List.take_length]
  simp [hasN]
theorem fvP_step {d : List Nd} {i : Nat} (h : i < d.length) (j : Nat) : (d.take (i + 1)).any (fun x => hasN x.ag j) = ((d.take i).any (fun x => hasN x.ag j) || hasN (gn d i).ag j) := by
  rw [take_gn h]; simp
def fvR (d : List Nd) (n : Int) : List Int × Int := if fmB d = true then (if inR n 0 4 = true then (sel (fvP d) n.toNat, 0) else ([], 2)) else ([], 1)
theorem fvR_t {d : List Nd} {n : Int} (h1 : fmB d = true) (h2 : inR n 0 4 = true) : fvR d n = (sel (fvP d) n.toNat, 0) := by rw [fvR, if_pos h1, if_pos h2]
theorem fvR_r {d : List Nd} {n : Int} (h1 : fmB d = true) (h2 : inR n 0 4 = false) : fvR d n = ([], 2) := by rw [fvR, if_pos h1, if_neg (by rw [h2]; exact Bool.false_ne_true)]
theorem fvR_n {d : List Nd} {n : Int} (h1 : fmB d = false) : fvR d n = ([], 1) := by rw [fvR, if_neg (by rw [h1]; exact Bool.false_ne_true)]
/-- The arguments of a formula's nodes are not negative. -/
theorem fmB_arg {d : List Nd} (h : fmB d = true) {k l : Nat} (hk : k < d.length) (hl : l < (gn d k).ag.length) : 0 ≤ gi (gn d k).ag l ∧ gi (gn d k).ag l < 4 := by
  simp only [fmB, Bool.and_eq_true] at h
  have h1 := List.all_eq_true.1 h.2.1 (gn d k) (by rw [gn_lt hk]; exact List.getElem_mem hk)
  simp only [ndB, Bool.and_eq_true] at h1
  have h2 := List.all_eq_true.1 h1.1 (gi (gn d k).ag l) (gi_mem hl)
  simpa using h2
theorem c_markedN {w : World} {g m : Nat} {p : Nat → Bool} (hr : w.rowIs g 4 m (fun j => .bool (p j))) (hm : m ≤ 40) : Calls Try.prog 29 #[.slice (some ⟨g, 0, none⟩) m m] w (Mk w fun w' u => OwnT 2 w.heap.size w'.heap.size w' u (sel p m)) := by
  have hg := hr.lt
  go_enter Try.func29, Try.ntmps29
  go_wp2_with fail
  go_loopw [3, 4, 5, 9] (fun out _ _ i wr => ∃ (k : Nat) (os : List Int), k ≤ m ∧ i = .int .i64 k ∧ Below w.heap.size w wr ∧ Own 2 wr w.heap.size out os ∧ os.length ≤ k ∧ Hid (os = sel p k)) (fun _ _ _ i _ => m - (intOf i).toNat)
  case atStart => exact ⟨0, [], Nat.zero_le _, rfl, (Below.refl _ _).alloc (Nat.le_refl _) _, Own.empty _ _ _ (Nat.le_refl _), Nat.le_refl _, rfl⟩
  case round =>
    obtain ⟨k, os, hk, rfl, hb, ho, hol, hp⟩ := hrel
    by_cases hlt : k < m
    · have hw0 := hb.size
      have cx := upN hb (hr.cell hlt)
      cases hpk : p k with
      | true =>
        rw [hpk] at cx
        have HE := Lib.hid hpk
        clear hpk
        go_wp2_with (at_builtin; refine hold ?_)
        refine app1 ho (by constructor <;> omega) (by omega) (by first | omega | (simp; omega)) Try.underlying32 infoInt64 (by rfl) _ _ (by rfl) (by rfl) (by rfl) ?_
        intro v' w2 ho2 g2
        have hb2 := g2.below hb (by first | omega | (simp; omega)) (fun k hk => (ho.lt k hk).1)
        clear ho g2 hb cx
        go_wp2_with fail
        go_roundw
        case rel => exact ⟨k + 1, _, by omega, by go_num, hb2, ho2, by simp; omega, by unfold Hid; rw [sel_yes HE.out, ← hp.out]⟩
        case measure => simp [intOf]; omega
      | false =>
        rw [hpk] at cx
        have HE := Lib.hid hpk
        have HB := Lib.hid hb
        have HO := Lib.hid ho
        clear hpk hb ho
        go_wp2_with fail
        go_roundw
        case rel => exact ⟨k + 1, _, by omega, by go_num, HB.out, HO.out, by omega, by unfold Hid; rw [sel_no HE.out, ← hp.out]⟩
        case measure => simp [intOf]; omega
    · have hke : m = k := by omega
      have hkb : decide ((k : Int) < (m : Int)) = false := by simp; omega
      go_wp2_with fail
      go_ret
      exact ⟨_, rfl, by rw [hke, ← hp.out]; exact ho.top, hb⟩
set_option maxHeartbeats 800000 in
theorem s_FreeVariables {w : World} {v : Value} {d : List Nd} (h : INS w v d) (n : Int) (_ : I64 n) : Calls Try.prog 13 #[v, .int .i64 n] w (Mk2 2 w (fvR d n)) := by
  obtain ⟨ao, b, o, c, A, rfl, ha, hc, hA⟩ := h.ex
  have hlen := h.len
  have HH := Lib.hid h
  have HC := Lib.hid hc
  have HA := Lib.hid hA
  clear h hc hA
  go_enter Try.func13, Try.ntmps13
  go_wp2_with fail
  refine (s_IsFormula HH.out).mono ?_
  rintro e w1 ⟨rfl, b1⟩
  cases hf : fmB d with
  | false =>
    have HG := Lib.hid (fvR_n (n := n) hf)
    go_wp2_with fail
    go_ret2
    exact mk2_nil HG.out b1
  | true =>
    have HF := Lib.hid hf
    have hd40 := fmB_len hf
    clear hf
    go_wp2_with fail
    refine (c_l01In _ _ _ _).mono ?_
    rintro e w2 ⟨rfl, n2, rfl⟩
    have b2 := b1.trans ((show Drawn w1 (w1.drewN n2) from ⟨n2, rfl⟩).below w.heap.size)
    generalize w1.drewN n2 = w2 at *
    cases hin : inR n 0 4 with
    | false =>
      have HG := Lib.hid (fvR_r HF.out hin)
      go_wp2_with fail
      go_ret2
      exact mk2_nil HG.out b2
    | true =>
      have HG := Lib.hid (fvR_t HF.out hin)
      have hn4 : 0 ≤ n ∧ n ≤ 4 := by simpa [inR] using hin
      obtain ⟨N, rfl⟩ := Int.eq_ofNat_of_zero_le hn4.1
      clear hin
      have hw2 := b2.size
      go_wp2_with fail
      go_loopw [6, 7, 8, 9] (fun out iv _ _ wr => ∃ (k : Nat) (os : List Int), k ≤ N ∧ iv = .int .i64 (k : Int) ∧ Below w.heap.size w wr ∧ Own 2 wr w.heap.size out os ∧ os.length ≤ k ∧ Hid (os = sel (fvP d) k)) (fun _ iv _ _ _ => N - (intOf iv).toNat)
      case atStart => exact ⟨0, [], Nat.zero_le _, rfl, b2.alloc hw2 _, Own.empty _ _ _ hw2, Nat.le_refl _, rfl⟩
      case round =>
        clear b1 b2
        obtain ⟨k, os, hk, rfl, hb, ho, hol, hp⟩ := hrel
        by_cases hlt : k < N
        · go_wp2_with fail
          go_loopw [8, 9] (fun bv iv wr2 => ∃ i : Nat, i ≤ d.length ∧ iv = .int .i64 (i : Int) ∧ bv = .bool ((d.take i).any (fun x => hasN x.ag k)) ∧ Below wr.heap.size wr wr2) (fun _ iv _ => d.length - (intOf iv).toNat)
          case atStart => exact ⟨0, Nat.zero_le _, rfl, by simp, Below.refl _ _⟩
          case round =>
            obtain ⟨i, hi, rfl, rfl, hb2⟩ := hrel
            by_cases hli : i < d.length
            · obtain rfl := ha (by omega)
              have HS := Lib.hid (fvP_step hli k)
              have hbw := belN hb hb2 hb.size
              have cz := upN hbw (HC.out i hli).2.2
              have HI := Lib.hid ((HA.out i hli).kept hbw)
              cases hany : (d.take i).any (fun x => hasN x.ag k) with
              | true =>
                have HB := Lib.hid hb2
                have HE : Hid ((d.take (i + 1)).any (fun x => hasN x.ag k) = true) := by unfold Hid; rw [HS.out, hany]; rfl
                clear hb2 hbw hany
                go_wp2_with fail
                go_roundw
                case rel => exact ⟨i + 1, by omega, by go_num, by rw [HE.out], HB.out⟩
                case measure => simp [intOf]; omega
              | false =>
                have HE : Hid ((d.take (i + 1)).any (fun x => hasN x.ag k) = hasN (gn d i).ag k) := by unfold Hid; rw [HS.out, hany]; rfl
                clear hany hbw
                go_wp2_with fail
                refine (c_l01HasN HI.out _).mono ?_
                rintro e w5 ⟨rfl, b5⟩
                have HB := Lib.hid (belN hb2 b5 hb2.size)
                clear hb2 b5 cz
                go_wp2_with fail
                go_roundw
                case rel => exact ⟨i + 1, by omega, by go_num, by rw [HE.out], HB.out⟩
                case measure => simp [intOf]; omega
            · have hie : i = d.length := by omega
              have HV : Hid ((d.take i).any (fun x => hasN x.ag k) = fvP d k) := by unfold Hid fvP; rw [hie, List.take_length]
              rw [HV.out]
              have hlb : decide ((i : Int) < (d.length : Int)) = false := by simp; omega
              clear hie
              replace ho := ho.kept hb2
              replace hb := belN hb hb2 hb.size
              have hw0 := hb.size
              clear hb2
              cases hfv : fvP d k with
              | true =>
                have HE := Lib.hid hfv
                clear hfv HV
                go_wp2_with (at_builtin; refine hold ?_)
                refine app1 ho (by constructor <;> omega) (by omega) (by first | omega | (simp; omega)) Try.underlying32 infoInt64 (by rfl) _ _ (by rfl) (by rfl) (by rfl) ?_
                intro v' w7 ho2 g2
                have hb3 := g2.below hb (by first | omega | (simp; omega)) (fun k hk => (ho.lt k hk).1)
                clear ho g2 hb
                go_wp2_with fail
                go_roundw
                case rel => exact ⟨k + 1, _, by omega, by go_num, hb3, ho2, by simp; omega, by unfold Hid; rw [sel_yes HE.out, ← hp.out]⟩
                case measure => simp [intOf]; omega
              | false =>
                have HE := Lib.hid hfv
                have HB := Lib.hid hb
                have HO := Lib.hid ho
                clear hfv HV hb ho
                go_wp2_with fail
                go_roundw
                case rel => exact ⟨k + 1, _, by omega, by go_num, HB.out, HO.out, by omega, by unfold Hid; rw [sel_no HE.out, ← hp.out]⟩
                case measure => simp [intOf]; omega
        · have hke : k = N := by omega
          have HE : Hid (fvR d (N : Int) = (os, 0)) := by unfold Hid; rw [HG.out, hp.out, hke]; simp
          have hlb : decide ((k : Int) < (N : Int)) = false := by simp; omega
          clear hke
          go_wp2_with fail
          go_ret2
          exact mk2_own HE.out ho hb
set_option maxHeartbeats 1600000 in
theorem i_FreeVariables {w : World} {v : Value} {d : List Nd} (h : INS w v d) (n : Int) (_ : I64 n) : Calls Try.prog 14 #[v, .int .i64 n] w (Mk2 2 w (fvR d n)) := by
  obtain ⟨ao, b, o, c, A, rfl, ha, hc, hA⟩ := h.ex
  have hlen := h.len
  have HH := Lib.hid h
  have HC := Lib.hid hc
  have HA := Lib.hid hA
  have HWF := Lib.hid h.wf
  clear h hc hA
  go_enter Try.func14, Try.ntmps14
  go_wp2_with fail
  refine (c_isFormula HH.out).mono ?_
  rintro e w1 ⟨rfl, b1⟩
  cases hf : fmB d with
  | false =>
    have HG := Lib.hid (fvR_n (n := n) hf)
    go_wp2_with fail
    go_ret2
    exact mk2_nil HG.out b1
  | true =>
    have HF := Lib.hid hf
    have hd40 := fmB_len hf
    clear hf
    go_wp2_with fail
    refine (c_inRange _ _ _ _).mono ?_
    rintro e w2 ⟨rfl, n2, rfl⟩
    have b2 := b1.trans ((show Drawn w1 (w1.drewN n2) from ⟨n2, rfl⟩).below w.heap.size)
    generalize w1.drewN n2 = w2 at *
    cases hin : inR n 0 4 with
    | false =>
      have HG := Lib.hid (fvR_r HF.out hin)
      go_wp2_with fail
      go_ret2
      exact mk2_nil HG.out b2
    | true =>
      have HG := Lib.hid (fvR_t HF.out hin)
      have hn4 : 0 ≤ n ∧ n ≤ 4 := by simpa [inR] using hin
      obtain ⟨N, rfl⟩ := Int.eq_ofNat_of_zero_le hn4.1
      have hN4 : N ≤ 4 := by omega
      clear hin hn4
      have hw2 := b2.size
      have hmk := run_make_row' (P := Try.prog) 48 4 (.bool false) 1 Try.underlying48 infoBoolN rfl .i64 .i64 N (by omega) (by omega)
      have hb0 := b2.alloc hw2 (.cells (madeCells #[.bool false] N) 4)
      have hr0 := World.rowIs_made w2 (.bool false) N 4
      go_wp2_with fail
      clear hmk b1 b2
      generalize w2.alloc (.cells (madeCells #[.bool false] N) 4) = w3 at *
      generalize w2.heap.size = g at *
      go_loopw [8, 10, 21] (fun _ _ i wr => ∃ k : Nat, k ≤ d.length ∧ i = .int .i64 (k : Int) ∧ Below w.heap.size w wr ∧ wr.rowIs g 4 N (fun j => .bool (frB d k 0 j))) (fun _ _ i _ => d.length - (intOf i).toNat)
      case atStart => exact ⟨0, Nat.zero_le _, rfl, hb0, hr0.congr (fun j _ => by rw [frB_zero])⟩
      case round =>
        clear hb0 hr0
        obtain ⟨k, hk, rfl, hb, hr⟩ := hrel
        by_cases hlt : k < d.length
        · obtain rfl := ha (by omega)
          obtain ⟨x0, x1, x2⟩ := HC.out k hlt
          obtain ⟨aa, bb, oo, cc, hAk, haa, hcc⟩ := (HA.out k hlt).ex
          have hagl := (HA.out k hlt).len
          have HCC := Lib.hid hcc
          rw [hAk] at x2
          have cx := upN hb x0
          have cy := upN hb x1
          have cz := upN hb x2
          have hb5 := hb.alloc hb.size (.cells #[.int .i64 (gn d k).kd, .int .i64 (gn d k).sy, .slice aa (gn d k).ag.length cc] 43)
          have hr5 := hr.of_block (w' := wr.alloc (.cells #[.int .i64 (gn d k).kd, .int .i64 (gn d k).sy, .slice aa (gn d k).ag.length cc] 43)) (Below.heap_alloc _ _ _ hr.lt)
          have HB5 := Lib.hid hb5
          have HR5 := Lib.hid hr5
          clear x0 x1 x2 hcc hb hr hb5 hr5
          go_wp2_with fail
          clear cx cy cz
          generalize wr.alloc (.cells #[.int .i64 (gn d k).kd, .int .i64 (gn d k).sy, .slice aa (gn d k).ag.length cc] 43) = w5 at *
          go_loopw [10, 28] (fun _ i wr => ∃ l : Nat, l ≤ (gn d k).ag.length ∧ i = .int .i64 (l : Int) ∧ Below w.heap.size w wr ∧ wr.rowIs g 4 N (fun j => .bool (frB d k l j))) (fun _ i _ => (gn d k).ag.length - (intOf i).toNat)
          case atStart => exact ⟨0, Nat.zero_le _, rfl, HB5.out, HR5.out⟩
          case round =>
            clear HB5 HR5
            obtain ⟨l, hl, rfl, hb, hr⟩ := hrel
            by_cases hll : l < (gn d k).ag.length
            · obtain rfl := haa (by omega)
              have cx := upN hb (HCC.out l hll)
              have HST := Lib.hid (frB_step (d := d) (k := k) hll)
              obtain ⟨v0, v4⟩ := fmB_arg HF.out hlt hll
              obtain ⟨x, hx⟩ := Int.eq_ofNat_of_zero_le v0
              rw [hx] at cx HST
              have HX := Lib.hid hx
              clear hx v0 v4
              by_cases hxN : x < N
              · have hst := hr.cell hxN
                have hfz := hr.frozen x
                have HR := Lib.hid hr
                have HB := Lib.hid hb
                clear hr hb
                go_wp2_with fail
                go_roundw
                case rel => exact ⟨l + 1, by omega, by go_num, HB.out.setCell hw2 _, (HR.out.set x _).congr (fun j _ => by
                  rw [HST.out]
                  by_cases e : j = x
                  · subst e; simp
                  · have e2 : ((x : Int) == (j : Int)) = false := by simp; omega
                    rw [if_neg e, e2, Bool.or_false])⟩
                case measure => simp [intOf]; omega
              · have hxb : decide ((x : Int) < (N : Int)) = false := by simp; omega
                have HR := Lib.hid hr
                have HB := Lib.hid hb
                clear hr hb
                go_wp2_with fail
                go_roundw
                case rel => exact ⟨l + 1, by omega, by go_num, HB.out, HR.out.congr (fun j hj => by
                  have e2 : ((x : Int) == (j : Int)) = false := by simp; omega
                  rw [HST.out, e2, Bool.or_false])⟩
                case measure => simp [intOf]; omega
            · have hle : l = (gn d k).ag.length := by omega
              have HR : Hid (wr.rowIs g 4 N (fun j => .bool (frB d (k + 1) 0 j))) := hr.congr (fun j _ => by rw [hle, frB_row hlt])
              have HB := Lib.hid hb
              have hlb : decide ((l : Int) < ((gn d k).ag.length : Int)) = false := by simp; omega
              clear hr hb hle
              go_wp2_with fail
              go_roundw
              case rel => exact ⟨k + 1, by omega, by go_num, HB.out, HR.out⟩
              case measure => simp [intOf]; omega
        · have hke : k = d.length := by omega
          have hr2 : wr.rowIs g 4 N (fun j => .bool (fvP d j)) := hr.congr (fun j _ => by rw [hke, frB_end])
          have hlb : decide ((k : Int) < (d.length : Int)) = false := by simp; omega
          have hws := hb.size
          clear hr hke
          go_wp2_with fail
          refine (c_markedN hr2 (by omega)).mono ?_
          rintro e w7 ⟨u, rfl, o7, b7⟩
          have HB := Lib.hid (belN hb b7 hws)
          have HO := Lib.hid (o7.own.base hws)
          clear hb b7 o7 hr2
          go_wp2_with fail
          go_ret2
          exact mk2_own (by rw [HG.out]; simp) HO.out HB.out
end Go.Proofs.Ytkgbloldbhhgpaa
