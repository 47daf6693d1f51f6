/-
  Chapter 11: splittings of idempotents, IsComplete: program and reference.
-/
import Derived.Test.YtkmkbmhpdnddnaaCat8
namespace Go.Proofs.Ytkmkbmhpdnddnaa
open Go.RowKit

/-- r and t split e at y. -/
def SplP (c : Cat) (e y r t : Int) : Prop := c.M r t = e ∧ c.M t r = c.I y
def HasSplit (c : Cat) (e : Int) : Prop := ∃ y, c.Obj y ∧ ∃ r, r ∈ homL c (c.F e) y ∧ ∃ t, t ∈ homL c y (c.F e) ∧ SplP c e y r t
def SplEnd (c : Cat) (e : Int) (w : World) : Ending → World → Prop := fun z w' => ∃ (a b d : Int) (ok : Bool), (ok = true ↔ HasSplit c e) ∧ z = .returned (.tuple #[.int .i64 a, .int .i64 b, .int .i64 d, .bool ok]) ∧ Below w.heap.size w w'
def NoSpl (c : Cat) (e y : Int) : Prop := ∀ r ∈ homL c (c.F e) y, ∀ t ∈ homL c y (c.F e), ¬ SplP c e y r t
theorem no_split {c : Cat} {e : Int} (h : ∀ y, c.Obj y → NoSpl c e y) : false = true ↔ HasSplit c e :=
  ⟨(fun q => Bool.noConfusion q), fun ⟨y, hy, r, hr, t, ht, hs⟩ => absurd hs (h y hy r hr t ht)⟩
theorem has_split {c : Cat} {e y r t : Int} (hy : c.Obj y) (hr : r ∈ homL c (c.F e) y) (ht : t ∈ homL c y (c.F e)) (hs : SplP c e y r t) : true = true ↔ HasSplit c e :=
  ⟨fun _ => ⟨y, hy, r, hr, t, ht, hs⟩, fun _ => rfl⟩
set_option maxHeartbeats 1600000 in
theorem c_splitting {w1 : World} {b : Nat} {c : Cat} (P : PC w1 b c) (S : Shape c) {f : Int} (hf : c.Arr f) : Calls Try.prog 75 #[.pointer (some ⟨b, 0, none⟩), .int .i64 f] w1 (SplEnd c f w1) := by
  obtain ⟨aF, aT, aI, aC, bF, oF, kF, bT, oT, kT, bI, oI, kI, bC, oC, kC, bR, oR, kR, V⟩ := P.opens
  obtain ⟨rfl, rfl, rfl, rfl⟩ := V.som S (by have := hf.1; have := hf.2; unfold Cat.m at this; omega)
  have c1 := V.c1
  have cF := V.cF hf
  have f0 := hf.1
  have f1 : f < (c.fr.length : Int) := hf.2
  have n0 := S.n0
  have n8 := S.n8
  have SH := Lib.hid S
  clear S P
  go_enter Try.func75, Try.ntmps75
  go_wp2_with fail
  clear c1 cF
  go_loopw [9, 11, 13] (fun i _ _ wr => ∃ k : Nat, (k : Int) ≤ c.n ∧ i = .int .i64 k ∧ Below w1.heap.size w1 wr ∧ Hid (∀ y : Int, 0 ≤ y → y < k → NoSpl c f y)) (fun i _ _ _ => (c.n - intOf i).toNat)
  case atStart => exact ⟨0, by omega, rfl, Below.refl _ _, fun y _ _ => by omega⟩
  case round =>
    obtain ⟨k, hk, rfl, hb, hp⟩ := hrel
    have c0 := (V.kept hb).c0
    by_cases hlt : (k : Int) < c.n
    · have hy : c.Obj k := ⟨by omega, hlt⟩
      go_wp2_with fail
      refine (c_hom (V.kept hb).pc SH.out.tl _ _).mono ?_
      rintro e w2 ⟨u, rfl, o2, b2⟩
      obtain ⟨ao, bb, oo, cc, rfl, ha, hc⟩ := o2.is.ex
      have hL := homL_le c (c.F f) k
      have hLl := o2.size
      have B2 := bel_next hb b2
      clear o2 b2 c0 hb
      go_wp2_with fail
      go_loopw [11, 13, 34] (fun _ _ i wr => ∃ j : Nat, j ≤ (homL c (c.F f) k).length ∧ i = .int .i64 j ∧ Below w2.heap.size w2 wr ∧ Hid (∀ q, q < j → ∀ t ∈ homL c k (c.F f), ¬ SplP c f k (gi (homL c (c.F f) k) q) t)) (fun _ _ i _ => (homL c (c.F f) k).length - (intOf i).toNat)
      case atStart => exact ⟨0, Nat.zero_le _, rfl, Below.refl _ _, fun q h => by omega⟩
      case round =>
        obtain ⟨j, hj, rfl, hbi, hp2⟩ := hrel
        by_cases hlj : j < (homL c (c.F f) k).length
        · obtain rfl := ha (by omega)
          have cx := up_cell hbi (hc j hlj)
          have hrm := gi_mem hlj
          obtain ⟨hr, hrF, hrT⟩ := homL_mem hrm
          have HRM := Lib.hid hrm
          clear hrF hrT hrm
          generalize hge : gi (homL c (c.F f) k) j = r at *
          have HGE := Lib.hid hge
          clear hge
          go_wp2_with fail
          refine (c_hom (V.kept (bel_next B2 hbi)).pc SH.out.tl _ _).mono ?_
          rintro e w3 ⟨u3, rfl, o3, b3⟩
          obtain ⟨ao3, bb3, oo3, cc3, rfl, ha3, hc3⟩ := o3.is.ex
          have hL3 := homL_le c k (c.F f)
          have B3 := bel_next hbi b3
          have hL3l := o3.size
          clear o3 b3 cx hbi
          go_wp2_with fail
          go_loopw [13, 43] (fun _ i wr => ∃ l : Nat, l ≤ (homL c k (c.F f)).length ∧ i = .int .i64 l ∧ Below w3.heap.size w3 wr ∧ Hid (∀ q, q < l → ¬ SplP c f k r (gi (homL c k (c.F f)) q))) (fun _ i _ => (homL c k (c.F f)).length - (intOf i).toNat)
          case atStart => exact ⟨0, Nat.zero_le _, rfl, Below.refl _ _, fun q h => by omega⟩
          case round =>
            obtain ⟨l, hl, rfl, hbl, hp3⟩ := hrel
            by_cases hll : l < (homL c k (c.F f)).length
            · obtain rfl := ha3 (by omega)
              have cx := up_cell hbl (hc3 l hll)
              have htm := gi_mem hll
              obtain ⟨ht, htF, htT⟩ := homL_mem htm
              have HTM := Lib.hid htm
              have V5 := V.kept (bel_next B2 (bel_next B3 hbl))
              have c3 := V5.c3
              have cI := V5.cI SH.out hy
              simp only [Int.toNat_natCast] at cI
              have l1 : k < c.id.length := by have := SH.out.il; omega
              clear htF htT htm
              generalize hge : gi (homL c k (c.F f)) l = t at *
              have HGT := Lib.hid hge
              clear hge
              by_cases i1 : c.M r t = f
              · have i1b : (c.M r t == f) = true := by simp [i1]
                have I1 := Lib.hid i1
                clear i1
                by_cases i2 : c.M t r = c.I k
                · have i2b : (c.M t r == c.I k) = true := by simp [i2]
                  have I2 := Lib.hid i2
                  clear i2
                  go_wp2_with fail
                  refine wp_region_qb (by kernel_rfl) (by kernel_rfl) ?_
                  repeat (refine qw_step (fun K hK => ?_); first | (refine qb_no rfl ?_; (try simp only [Act.put, List.setIfInBounds_toArray, List.set_cons_zero, List.set_cons_succ]); refine hK _ ?_; clear hK K) | (refine qb_yes rfl ?_; apply Exists.intro; refine ⟨fun w' hC => ?_, ?_⟩; (· (have x0 := up_cell hC c3; have x1 := up_cell hC cI; (try go_simp); (first | done | (go_at_call 103; with_reducible exact calls_qr hC (c_then (V5.kept hC).pc SH.out hr ht)) | (go_at_call 103; with_reducible exact calls_qr hC (c_then (V5.kept hC).pc SH.out ht hr)) | with_reducible rfl | exact rfl))); (try simp only [Act.put, List.setIfInBounds_toArray, List.set_cons_zero, List.set_cons_succ]); refine hK _ ?_; clear hK K))
                  refine qw_nil ?_
                  intro wq hbq
                  go_wp2_with fail
                  ((try simp only [Exit.inBlock, Exit.then]); refine bodyPost_ret (results_tmp4 rfl _ _ _) rfl ?_)
                  exact ⟨_, _, _, true, has_split hy HRM.out HTM.out ⟨I1.out, I2.out⟩, rfl, bel_next B2 (bel_next B3 (bel_next hbl hbq))⟩
                · have i2b : (c.M t r == c.I k) = false := by simp [i2]
                  have I2 := Lib.hid i2
                  clear i2
                  go_wp2_with fail
                  refine wp_region_qb (by kernel_rfl) (by kernel_rfl) ?_
                  repeat (refine qw_step (fun K hK => ?_); first | (refine qb_no rfl ?_; (try simp only [Act.put, List.setIfInBounds_toArray, List.set_cons_zero, List.set_cons_succ]); refine hK _ ?_; clear hK K) | (refine qb_yes rfl ?_; apply Exists.intro; refine ⟨fun w' hC => ?_, ?_⟩; (· (have x0 := up_cell hC c3; have x1 := up_cell hC cI; (try go_simp); (first | done | (go_at_call 103; with_reducible exact calls_qr hC (c_then (V5.kept hC).pc SH.out hr ht)) | (go_at_call 103; with_reducible exact calls_qr hC (c_then (V5.kept hC).pc SH.out ht hr)) | with_reducible rfl | exact rfl))); (try simp only [Act.put, List.setIfInBounds_toArray, List.set_cons_zero, List.set_cons_succ]); refine hK _ ?_; clear hK K))
                  refine qw_nil ?_
                  intro wq hbq
                  go_wp2_with fail
                  go_roundw
                  case rel => exact ⟨l + 1, by omega, by go_num, bel_next hbl hbq, fun q h => by
                    by_cases e : q = l
                    · subst e; rw [HGT.out]; exact fun z => I2.out z.2
                    · exact hp3.out q (by omega)⟩
                  case measure => simp [intOf]; omega
              · have i1b : (c.M r t == f) = false := by simp [i1]
                have I1 := Lib.hid i1
                clear i1
                go_wp2_with fail
                refine wp_region_qb (by kernel_rfl) (by kernel_rfl) ?_
                repeat (refine qw_step (fun K hK => ?_); first | (refine qb_no rfl ?_; (try simp only [Act.put, List.setIfInBounds_toArray, List.set_cons_zero, List.set_cons_succ]); refine hK _ ?_; clear hK K) | (refine qb_yes rfl ?_; apply Exists.intro; refine ⟨fun w' hC => ?_, ?_⟩; (· (have x0 := up_cell hC c3; have x1 := up_cell hC cI; (try go_simp); (first | done | (go_at_call 103; with_reducible exact calls_qr hC (c_then (V5.kept hC).pc SH.out hr ht)) | (go_at_call 103; with_reducible exact calls_qr hC (c_then (V5.kept hC).pc SH.out ht hr)) | with_reducible rfl | exact rfl))); (try simp only [Act.put, List.setIfInBounds_toArray, List.set_cons_zero, List.set_cons_succ]); refine hK _ ?_; clear hK K))
                refine qw_nil ?_
                intro wq hbq
                go_wp2_with fail
                go_roundw
                case rel => exact ⟨l + 1, by omega, by go_num, bel_next hbl hbq, fun q h => by
                  by_cases e : q = l
                  · subst e; rw [HGT.out]; exact fun z => I1.out z.1
                  · exact hp3.out q (by omega)⟩
                case measure => simp [intOf]; omega
            · have HN : Hid (∀ t ∈ homL c k (c.F f), ¬ SplP c f k r t) := all_gi fun q h => hp3.out q (by omega)
              have hlb : decide ((l : Int) < ((homL c k (c.F f)).length : Int)) = false := by simp; omega
              clear hp3
              go_wp2_with fail
              go_roundw
              case rel => exact ⟨j + 1, by omega, by go_num, bel_next B3 hbl, fun q h => by
                by_cases e : q = j
                · subst e; rw [HGE.out]; exact HN.out
                · exact hp2.out q (by omega)⟩
              case measure => simp [intOf]; omega
        · have HN : Hid (NoSpl c f k) := all_gi fun q h => hp2.out q (by omega)
          have hlb : decide ((j : Int) < ((homL c (c.F f) k).length : Int)) = false := by simp; omega
          clear hp2
          go_wp2_with fail
          go_roundw
          case rel => exact ⟨k + 1, by omega, by go_num, bel_next B2 hbi, fun y h0 h1 => by
            by_cases e : y = k
            · subst e; exact HN.out
            · exact hp.out y h0 (by omega)⟩
          case measure => simp [intOf]; omega
    · have HN : Hid (∀ y, c.Obj y → NoSpl c f y) := fun y hy => hp.out y hy.1 (by have := hy.2; omega)
      clear hp
      go_wp2_with fail
      ((try simp only [Exit.inBlock, Exit.then]); refine bodyPost_ret (results_tmp4 rfl _ _ _) rfl ?_)
      exact ⟨_, _, _, false, no_split HN.out, rfl, hb⟩
set_option maxHeartbeats 3200000 in
set_option maxRecDepth 100000 in
theorem c_l11Splitting {w : World} {v : Value} {c : Cat} (h : IC w v c) (S : Shape c) {f : Int} (hf : c.Arr f) : Calls Try.prog 73 #[v, .int .i64 f] w (SplEnd c f w) := by
  have f0 := hf.1
  have f1 : f < (c.fr.length : Int) := hf.2
  have n0 := S.n0
  have n8 := S.n8
  have SH := Lib.hid S
  clear S
  obtain ⟨aF, aT, aI, aC, bF, oF, kF, bT, oT, kT, bI, oI, kI, bC, oC, kC, bR, oR, kR, rfl, V⟩ := h.boxed 29
  have B : Bel w (w.alloc (.cells #[.int .i64 c.n, .slice aF c.fr.length kF, .slice aT c.to.length kT, .slice aI c.id.length kI, .slice aC c.cm.length kC] 29)) := bel_box w _
  have ZB := Lib.hid (show (w.alloc (.cells #[.int .i64 c.n, .slice aF c.fr.length kF, .slice aT c.to.length kT, .slice aI c.id.length kI, .slice aC c.cm.length kC] 29)).heap.size = w.heap.size + 1 from by simp)
  clear h
  go_enter Try.func73, Try.ntmps73
  go_wp2_with fail
  generalize w.alloc (.cells #[.int .i64 c.n, .slice aF c.fr.length kF, .slice aT c.to.length kT, .slice aI c.id.length kI, .slice aC c.cm.length kC] 29) = w1 at *
  generalize w.heap.size = b at *
  have c0 := V.c0
  have c1 := V.c1
  have c2 := V.c2
  have c3 := V.c3
  have c4 := V.c4
  clear c0 c1 c2 c3 c4
  obtain ⟨rfl, rfl, rfl, rfl⟩ := V.som SH.out (by omega)
  try go_wp2_with fail
  go_loopw [8, 9, 10, 11, 12] (fun i _ _ _ _ wr => ∃ k : Nat, (k : Int) ≤ c.n ∧ i = .int .i64 k ∧ Below w1.heap.size w1 wr ∧ Hid (∀ y : Int, 0 ≤ y → y < k → NoSpl c f y)) (fun i _ _ _ _ _ => (c.n - intOf i).toNat)
  case atStart => exact ⟨0, by omega, rfl, Below.refl _ _, fun y _ _ => by omega⟩
  case round =>
    obtain ⟨k, hk, rfl, hb, hp⟩ := hrel
    have V2 := V.kept hb
    have c0 := V2.c0
    have c1 := V2.c1
    have c2 := V2.c2
    have c3 := V2.c3
    have c4 := V2.c4
    by_cases hlt : (k : Int) < c.n
    · have hy : c.Obj k := ⟨by omega, hlt⟩
      have cF := V2.cF hf
      have VI := V2.ic
      go_wp2_with fail
      go_region_held3 (fun w' => Below wr.heap.size wr w' ∧ w'.cell? ⟨b, 0, none⟩ = some (.int .i64 c.n) ∧ w'.cell? ⟨b, 1, none⟩ = some (.slice (some ⟨bF, oF, none⟩) c.fr.length kF) ∧ w'.cell? ⟨b, 2, none⟩ = some (.slice (some ⟨bT, oT, none⟩) c.to.length kT) ∧ w'.cell? ⟨b, 3, none⟩ = some (.slice (some ⟨bI, oI, none⟩) c.id.length kI) ∧ w'.cell? ⟨b, 4, none⟩ = some (.slice (some ⟨bC, oC, none⟩) c.cm.length kC) ∧ w'.cell? ⟨bF, oF + f.toNat, none⟩ = some (.int .i64 (c.F f)))
        (first | exact ⟨(Drawn.one (Drawn.refl _)).bel0, c0, c1, c2, c3, c4, cF⟩ | (refine keep6 ?_ hb7; assumption) | (refine keep6 ?_ (bel_box _ _); assumption))
        (first | (go_at_call 82; (with_reducible refine (c_l02Hom (VI.kept (And.left (by assumption))) SH.out.tl (c.F f) (k : Int)).mono ?_); rintro e wq ⟨u1, rfl, o1, hb7⟩) | (go_at_call 82; (with_reducible refine (c_l02Hom (VI.kept (And.left (by assumption))) SH.out.tl (k : Int) (c.F f)).mono ?_); rintro e wq ⟨u2, rfl, o2, hb7⟩))
      all_goals
        obtain ⟨hbl, -⟩ := ‹Below wr.heap.size wr wq ∧ _›
        obtain ⟨I1, I2⟩ : IS wq u1 (homL c (c.F f) k) ∧ IS wq u2 (homL c k (c.F f)) := by first | exact ⟨o1.is.kept hb7, o2.is⟩ | exact ⟨o1.is, o2.is.kept hb7⟩
        have hL1 := I1.len
        have hL2 := I2.len
        have B2 := bel_next hb hbl
        clear o1 o2 hb7 hbl hb c0 c1 c2 c3 c4 cF VI V2
        obtain ⟨ao, bb, oo, cc, rfl, ha, hc⟩ := I1.ex
        obtain ⟨ao3, bb3, oo3, cc3, rfl, ha3, hc3⟩ := I2.ex
        clear I1 I2
        go_wp2_with fail
        go_loopw [11, 12] (fun i _ wr => ∃ j : Nat, j ≤ (homL c (c.F f) k).length ∧ i = .int .i64 j ∧ Below wq.heap.size wq wr ∧ Hid (∀ q, q < j → ∀ t ∈ homL c k (c.F f), ¬ SplP c f k (gi (homL c (c.F f) k) q) t)) (fun i _ _ => (homL c (c.F f) k).length - (intOf i).toNat)
        case atStart => exact ⟨0, Nat.zero_le _, rfl, Below.refl _ _, fun q h => by omega⟩
        case round =>
          obtain ⟨j, hj, rfl, hbi, hp2⟩ := hrel
          by_cases hlj : j < (homL c (c.F f) k).length
          · obtain rfl := ha (by omega)
            have cx0 := up_cell hbi (hc j hlj)
            have hrm := gi_mem hlj
            obtain ⟨hr, hrF, hrT⟩ := homL_mem hrm
            have HRM := Lib.hid hrm
            have HRE := Lib.hid (And.intro hrF hrT)
            clear hrF hrT hrm
            generalize hge : gi (homL c (c.F f) k) j = r at *
            have HGE := Lib.hid hge
            clear hge
            go_wp2_with fail
            obtain ⟨wi, rfl⟩ : ∃ wi : World, wi = wr := ⟨_, rfl⟩
            go_loopw [12] (fun i wr => ∃ l : Nat, l ≤ (homL c k (c.F f)).length ∧ i = .int .i64 l ∧ Below wi.heap.size wi wr ∧ Hid (∀ q, q < l → ¬ SplP c f k r (gi (homL c k (c.F f)) q))) (fun i _ => (homL c k (c.F f)).length - (intOf i).toNat)
            case atStart => exact ⟨0, Nat.zero_le _, rfl, Below.refl _ _, fun q h => by omega⟩
            case round =>
              obtain ⟨l, hl, rfl, hbl, hp3⟩ := hrel
              by_cases hll : l < (homL c k (c.F f)).length
              · obtain rfl := ha3 (by omega)
                have cy := up_cell (bel_next hbi hbl) (hc3 l hll)
                have cx := up_cell hbl cx0
                have htm := gi_mem hll
                obtain ⟨ht, htF, htT⟩ := homL_mem htm
                have HTM := Lib.hid htm
                have V5 := V.kept (bel_next B2 (bel_next hbi hbl))
                have c0 := V5.c0
                have c1 := V5.c1
                have c2 := V5.c2
                have c3 := V5.c3
                have c4 := V5.c4
                have VI := V5.ic
                have m2 := SH.out.mA _ _ ht hr (htT.trans HRE.out.1.symm)
                have hu := fun W (hW : Below wr.heap.size wr W) => c_l02Unit (VI.kept hW) SH.out m2.1
                rw [m2.2.1, htF] at hu
                clear htF htT htm m2
                generalize hge : gi (homL c k (c.F f)) l = t at *
                have HGT := Lib.hid hge
                clear hge
                by_cases i1 : c.M r t = f
                · have i1b : (c.M r t == f) = true := by simp [i1]
                  have I1 := Lib.hid i1
                  clear i1
                  by_cases i2 : c.M t r = c.I k
                  · have i2b : (c.I k == c.M t r) = true := by simp [i2]
                    have I2 := Lib.hid i2
                    rw [i2b] at hu
                    have HU := Lib.hid hu
                    clear i2 i2b hu
                    go_wp2_with fail
                    refine wp_region_qb (by kernel_rfl) (by kernel_rfl) ?_
                    repeat (refine qw_step (fun K hK => ?_); first | (refine qb_no rfl ?_; (try simp only [Act.put, List.setIfInBounds_toArray, List.set_cons_zero, List.set_cons_succ]); refine hK _ ?_; clear hK K) | (refine qb_yes rfl ?_; apply Exists.intro; refine ⟨fun w' hC => ?_, ?_⟩; (· (have x0 := up_cell hC c0; have x1 := up_cell hC c1; have x2 := up_cell hC c2; have x3 := up_cell hC c3; have x4 := up_cell hC c4; have x5 := up_cell hC cx; have x6 := up_cell hC cy; (try go_simp); (first | done | (go_at_call 104; with_reducible exact calls_qb hC (c_l02Then (VI.kept hC) SH.out hr ht)) | (go_at_call 104; with_reducible exact calls_qb hC (c_l02Then (VI.kept hC) SH.out ht hr)) | (go_at_call 96; with_reducible exact calls_qb hC (HU.out _ hC)) | with_reducible rfl | exact rfl))); (try simp only [Act.put, List.setIfInBounds_toArray, List.set_cons_zero, List.set_cons_succ]); refine hK _ ?_; clear hK K))
                    refine qw_nil ?_
                    intro wq hbq
                    have cx2 := up_cell hbq cx
                    have cy2 := up_cell hbq cy
                    clear cx cy cx0 c0 c1 c2 c3 c4
                    go_wp2_with fail
                    go_quiet (fail)
                    go_wp2_with fail
                    ((try simp only [Exit.inBlock, Exit.then]); refine bodyPost_ret (results_tmp4 rfl _ _ _) rfl ?_)
                    exact ⟨_, _, _, true, has_split hy HRM.out HTM.out ⟨I1.out, I2.out⟩, rfl, B.next (bel_next B2 (bel_next hbi (bel_next hbl (bel_next hbq (Drawn.step (Drawn.refl _) _).bel0))))⟩
                  · have i2b : (c.I k == c.M t r) = false := by simp; exact fun q => i2 q.symm
                    have I2 := Lib.hid i2
                    rw [i2b] at hu
                    have HU := Lib.hid hu
                    clear i2 i2b hu
                    go_wp2_with fail
                    refine wp_region_qb (by kernel_rfl) (by kernel_rfl) ?_
                    repeat (refine qw_step (fun K hK => ?_); first | (refine qb_no rfl ?_; (try simp only [Act.put, List.setIfInBounds_toArray, List.set_cons_zero, List.set_cons_succ]); refine hK _ ?_; clear hK K) | (refine qb_yes rfl ?_; apply Exists.intro; refine ⟨fun w' hC => ?_, ?_⟩; (· (have x0 := up_cell hC c0; have x1 := up_cell hC c1; have x2 := up_cell hC c2; have x3 := up_cell hC c3; have x4 := up_cell hC c4; have x5 := up_cell hC cx; have x6 := up_cell hC cy; (try go_simp); (first | done | (go_at_call 104; with_reducible exact calls_qb hC (c_l02Then (VI.kept hC) SH.out hr ht)) | (go_at_call 104; with_reducible exact calls_qb hC (c_l02Then (VI.kept hC) SH.out ht hr)) | (go_at_call 96; with_reducible exact calls_qb hC (HU.out _ hC)) | with_reducible rfl | exact rfl))); (try simp only [Act.put, List.setIfInBounds_toArray, List.set_cons_zero, List.set_cons_succ]); refine hK _ ?_; clear hK K))
                    refine qw_nil ?_
                    intro wq hbq
                    clear cx cy c0 c1 c2 c3 c4
                    go_wp2_with fail
                    go_roundw
                    case rel => exact ⟨l + 1, by omega, by go_num, bel_next hbl hbq, fun q h => by
                      by_cases e : q = l
                      · subst e; rw [HGT.out]; exact fun z => I2.out z.2
                      · exact hp3.out q (by omega)⟩
                    case measure => simp [intOf]; omega
                · have i1b : (c.M r t == f) = false := by simp [i1]
                  have I1 := Lib.hid i1
                  have HU := Lib.hid hu
                  clear i1 hu
                  go_wp2_with fail
                  refine wp_region_qb (by kernel_rfl) (by kernel_rfl) ?_
                  repeat (refine qw_step (fun K hK => ?_); first | (refine qb_no rfl ?_; (try simp only [Act.put, List.setIfInBounds_toArray, List.set_cons_zero, List.set_cons_succ]); refine hK _ ?_; clear hK K) | (refine qb_yes rfl ?_; apply Exists.intro; refine ⟨fun w' hC => ?_, ?_⟩; (· (have x0 := up_cell hC c0; have x1 := up_cell hC c1; have x2 := up_cell hC c2; have x3 := up_cell hC c3; have x4 := up_cell hC c4; have x5 := up_cell hC cx; have x6 := up_cell hC cy; (try go_simp); (first | done | (go_at_call 104; with_reducible exact calls_qb hC (c_l02Then (VI.kept hC) SH.out hr ht)) | (go_at_call 104; with_reducible exact calls_qb hC (c_l02Then (VI.kept hC) SH.out ht hr)) | (go_at_call 96; with_reducible exact calls_qb hC (HU.out _ hC)) | with_reducible rfl | exact rfl))); (try simp only [Act.put, List.setIfInBounds_toArray, List.set_cons_zero, List.set_cons_succ]); refine hK _ ?_; clear hK K))
                  refine qw_nil ?_
                  intro wq hbq
                  clear cx cy c0 c1 c2 c3 c4
                  go_wp2_with fail
                  go_roundw
                  case rel => exact ⟨l + 1, by omega, by go_num, bel_next hbl hbq, fun q h => by
                    by_cases e : q = l
                    · subst e; rw [HGT.out]; exact fun z => I1.out z.1
                    · exact hp3.out q (by omega)⟩
                  case measure => simp [intOf]; omega
              · have HN : Hid (∀ t ∈ homL c k (c.F f), ¬ SplP c f k r t) := all_gi fun q h => hp3.out q (by omega)
                have hlb : decide ((l : Int) < ((homL c k (c.F f)).length : Int)) = false := by simp; omega
                clear hp3 cx0
                go_wp2_with fail
                go_roundw
                case rel => exact ⟨j + 1, by omega, by go_num, bel_next hbi hbl, fun q h => by
                  by_cases e : q = j
                  · subst e; rw [HGE.out]; exact HN.out
                  · exact hp2.out q (by omega)⟩
                case measure => simp [intOf]; omega
          · have HN : Hid (NoSpl c f k) := all_gi fun q h => hp2.out q (by omega)
            have hlb : decide ((j : Int) < ((homL c (c.F f) k).length : Int)) = false := by simp; omega
            clear hp2
            go_wp2_with fail
            go_roundw
            case rel => exact ⟨k + 1, by omega, by go_num, bel_next B2 hbi, fun y h0 h1 => by
              by_cases e : y = k
              · subst e; exact HN.out
              · exact hp.out y h0 (by omega)⟩
            case measure => simp [intOf]; omega
    · have HN : Hid (∀ y, c.Obj y → NoSpl c f y) := fun y hy => hp.out y hy.1 (by have := hy.2; omega)
      clear hp
      go_wp2_with fail
      ((try simp only [Exit.inBlock, Exit.then]); refine bodyPost_ret (results_tmp4 rfl _ _ _) rfl ?_)
      exact ⟨_, _, _, false, no_split HN.out, rfl, B.next hb⟩
/-- What IsComplete returns. -/
noncomputable def complR (c : Cat) : Bool × Int := if catB c then (@decide (∀ e ∈ idemL c, HasSplit c e) (Classical.propDecidable _), 0) else (false, 1)
theorem complR_t {c : Cat} (h : catB c = true) (h2 : ∀ e ∈ idemL c, HasSplit c e) : complR c = (true, 0) := by
  unfold complR; rw [if_pos h, @decide_eq_true _ (Classical.propDecidable _) h2]
theorem complR_f {c : Cat} (h : catB c = true) (h2 : ¬ ∀ e ∈ idemL c, HasSplit c e) : complR c = (false, 0) := by
  unfold complR; rw [if_pos h, @decide_eq_false _ (Classical.propDecidable _) h2]
theorem complR_n {c : Cat} (h : ¬ catB c = true) : complR c = (false, 1) := by unfold complR; rw [if_neg h]
theorem idemL_arr {c : Cat} {e : Int} (h : e ∈ idemL c) : c.Arr e := by
  simp only [idemL, sel, List.mem_map, List.mem_filter, List.mem_range] at h
  obtain ⟨k, ⟨h1, -⟩, rfl⟩ := h
  exact ⟨by omega, by unfold Cat.m; omega⟩
theorem idemL_le (c : Cat) : (idemL c).length ≤ c.fr.length := sel_le _ _
set_option maxHeartbeats 800000 in
theorem i_IsComplete {w : World} {v : Value} {c : Cat} (h : IC w v c) : Calls Try.prog 40 #[v] w (Ret w (.tuple #[.bool (complR c).1, .int .i64 (complR c).2])) := by
  obtain ⟨aF, aT, aI, aC, bF, oF, kF, bT, oT, kT, bI, oI, kI, bC, oC, kC, bR, oR, kR, rfl, V⟩ := h.boxed 29
  have B : Bel w (w.alloc (.cells #[.int .i64 c.n, .slice aF c.fr.length kF, .slice aT c.to.length kT, .slice aI c.id.length kI, .slice aC c.cm.length kC] 29)) := bel_box w _
  have ZB := Lib.hid (show (w.alloc (.cells #[.int .i64 c.n, .slice aF c.fr.length kF, .slice aT c.to.length kT, .slice aI c.id.length kI, .slice aC c.cm.length kC] 29)).heap.size = w.heap.size + 1 from by simp)
  clear h
  go_enter Try.func40, Try.ntmps40
  go_wp2_with fail
  generalize w.alloc (.cells #[.int .i64 c.n, .slice aF c.fr.length kF, .slice aT c.to.length kT, .slice aI c.id.length kI, .slice aC c.cm.length kC] 29) = w1 at *
  generalize w.heap.size = b at *
  have c0 := V.c0
  have c1 := V.c1
  have c2 := V.c2
  have c3 := V.c3
  have c4 := V.c4
  clear c0 c1 c2 c3 c4
  refine (c_isCategory V.pc).mono ?_
  rintro e w2 ⟨rfl, b2⟩
  have V2 := V.kept b2
  have B2 := B.next b2
  by_cases hc : catB c = true
  · have SH := Lib.hid (catB_s hc).s
    have HC := Lib.hid hc

    go_wp2_with fail
    refine (c_idempotents V2.pc SH.out).mono ?_
    rintro e w3 ⟨u, rfl, o3, b3⟩
    obtain ⟨ao, bb, oo, cc, rfl, ha, hcc⟩ := o3.is.ex
    have hL := o3.size
    have B3 := bel_next B2 b3
    have V3 := V2.kept b3
    clear o3 b3
    go_wp2_with fail
    go_loopw [5, 6, 7, 8, 9, 14] (fun _ _ _ _ _ i wr => ∃ k : Nat, k ≤ (idemL c).length ∧ i = .int .i64 k ∧ Below w3.heap.size w3 wr ∧ Hid (∀ j, j < k → HasSplit c (gi (idemL c) j))) (fun _ _ _ _ _ i _ => (idemL c).length - (intOf i).toNat)
    case atStart => exact ⟨0, Nat.zero_le _, rfl, Below.refl _ _, fun x h => by omega⟩
    case round =>
      obtain ⟨k, hk, rfl, hb, hp⟩ := hrel
      by_cases hlt : k < (idemL c).length
      · obtain rfl := ha (by omega)
        have cx := up_cell hb (hcc k hlt)
        have hm := gi_mem hlt
        have hA := idemL_arr hm
        have HM := Lib.hid hm
        have V4 := V3.kept hb
        clear hm
        generalize hge : gi (idemL c) k = g at *
        have HGE := Lib.hid hge
        clear hge
        go_wp2_with fail
        refine (c_splitting V4.pc SH.out hA).mono ?_
        rintro e wq ⟨a, b', d, ok, hok, rfl, hbq⟩
        have hb4 := bel_next hb hbq
        clear hbq V4 cx
        have HOK := Lib.hid hok
        clear hok
        cases ok with
        | true =>
          go_wp2_with fail
          go_roundw
          case rel => exact ⟨k + 1, by omega, by go_num, hb4, fun j h => by
            by_cases e : j = k
            · subst e; rw [HGE.out]; have := HOK.out; simpa using this
            · exact hp.out j (by omega)⟩
          case measure => simp [intOf]; omega
        | false =>
          have HG := Lib.hid (complR_f HC.out fun q => by have := HOK.out.2 (q g HM.out); cases this)
          go_wp2_with fail
          go_ret2
          exact ⟨ret_bi HG.out, bel_next B3 hb4⟩
      · have HG := Lib.hid (complR_t HC.out (all_gi fun j h => hp.out j (by omega)))
        have hkb : decide ((k : Int) < ((idemL c).length : Int)) = false := by simp; omega
        clear hp
        go_wp2_with fail
        go_ret2
        exact ⟨ret_bi HG.out, bel_next B3 hb⟩
  · have HG := Lib.hid (complR_n hc)
    have hn : catB c = false := by simpa using hc
    clear hc
    go_wp2_with fail
    go_ret2
    exact ⟨ret_bi HG.out, B2⟩
set_option maxHeartbeats 800000 in
theorem s_IsComplete {w : World} {v : Value} {c : Cat} (h : IC w v c) : Calls Try.prog 39 #[v] w (Ret w (.tuple #[.bool (complR c).1, .int .i64 (complR c).2])) := by
  obtain ⟨aF, aT, aI, aC, bF, oF, kF, bT, oT, kT, bI, oI, kI, bC, oC, kC, bR, oR, kR, rfl, V⟩ := h.boxed 29
  have B : Bel w (w.alloc (.cells #[.int .i64 c.n, .slice aF c.fr.length kF, .slice aT c.to.length kT, .slice aI c.id.length kI, .slice aC c.cm.length kC] 29)) := bel_box w _
  have ZB := Lib.hid (show (w.alloc (.cells #[.int .i64 c.n, .slice aF c.fr.length kF, .slice aT c.to.length kT, .slice aI c.id.length kI, .slice aC c.cm.length kC] 29)).heap.size = w.heap.size + 1 from by simp)
  clear h
  go_enter Try.func39, Try.ntmps39
  go_wp2_with fail
  generalize w.alloc (.cells #[.int .i64 c.n, .slice aF c.fr.length kF, .slice aT c.to.length kT, .slice aI c.id.length kI, .slice aC c.cm.length kC] 29) = w1 at *
  generalize w.heap.size = b at *
  have c0 := V.c0
  have c1 := V.c1
  have c2 := V.c2
  have c3 := V.c3
  have c4 := V.c4
  refine (c_l02Is V.ic).mono ?_
  rintro e w2 ⟨rfl, b2⟩
  have V2 := V.kept b2
  have B2 := B.next b2
  clear c0 c1 c2 c3 c4
  by_cases hc : catB c = true
  · have SH := Lib.hid (catB_s hc).s
    have HC := Lib.hid hc
    have c0 := V2.c0
    have c1 := V2.c1
    have c2 := V2.c2
    have c3 := V2.c3
    have c4 := V2.c4
    go_wp2_with fail
    refine (c_l11Idempotents V2.ic SH.out).mono ?_
    rintro e w3 ⟨u, rfl, o3, b3⟩
    obtain ⟨ao, bb, oo, cc, rfl, ha, hcc⟩ := o3.is.ex
    have hL := o3.size
    have B3 := bel_next B2 b3
    have V3 := V2.kept b3
    clear o3 b3 c0 c1 c2 c3 c4
    go_wp2_with fail
    go_loopw [5, 6, 7, 8, 9] (fun i _ _ _ _ wr => ∃ k : Nat, k ≤ (idemL c).length ∧ i = .int .i64 k ∧ Below w3.heap.size w3 wr ∧ Hid (∀ j, j < k → HasSplit c (gi (idemL c) j))) (fun i _ _ _ _ _ => (idemL c).length - (intOf i).toNat)
    case atStart => exact ⟨0, Nat.zero_le _, rfl, Below.refl _ _, fun x h => by omega⟩
    case round =>
      obtain ⟨k, hk, rfl, hb, hp⟩ := hrel
      by_cases hlt : k < (idemL c).length
      · obtain rfl := ha (by omega)
        have cx := up_cell hb (hcc k hlt)
        have hm := gi_mem hlt
        have hA := idemL_arr hm
        have HM := Lib.hid hm
        have V4 := V3.kept hb
        clear hm
        obtain ⟨rfl, rfl, rfl, rfl⟩ := V.som SH.out (by have := hA.1; have := hA.2; unfold Cat.m at this; omega)
        have c0 := V4.c0
        have c1 := V4.c1
        have c2 := V4.c2
        have c3 := V4.c3
        have c4 := V4.c4
        have VI := V4.ic
        generalize hge : gi (idemL c) k = g at *
        have HGE := Lib.hid hge
        clear hge
        go_wp2_with fail
        go_region_held3 (fun w' => Below wr.heap.size wr w' ∧ w'.cell? ⟨b, 0, none⟩ = some (.int .i64 c.n) ∧ w'.cell? ⟨b, 1, none⟩ = some (.slice (some ⟨bF, oF, none⟩) c.fr.length kF) ∧ w'.cell? ⟨b, 2, none⟩ = some (.slice (some ⟨bT, oT, none⟩) c.to.length kT) ∧ w'.cell? ⟨b, 3, none⟩ = some (.slice (some ⟨bI, oI, none⟩) c.id.length kI) ∧ w'.cell? ⟨b, 4, none⟩ = some (.slice (some ⟨bC, oC, none⟩) c.cm.length kC) ∧ w'.cell? ⟨bb, oo + k, none⟩ = some (.int .i64 g))
          (first | exact ⟨(Drawn.one (Drawn.refl _)).bel0, c0, c1, c2, c3, c4, cx⟩ | (refine keep6 ?_ hb7; assumption) | (refine keep6 ?_ (bel_box _ _); assumption))
          (first | (go_at_call 73; (with_reducible refine (c_l11Splitting (VI.kept (And.left (by assumption))) SH.out hA).mono ?_); rintro e wq ⟨a, b', d, ok, hok, rfl, hb7⟩))
        obtain ⟨hbq, -⟩ := ‹Below wr.heap.size wr wq ∧ _›
        have hb4 := bel_next hb hbq
        clear hbq hb7 V4 cx c0 c1 c2 c3 c4 VI
        have HOK := Lib.hid hok
        clear hok
        cases ok with
        | true =>
          go_wp2_with fail
          go_roundw
          case rel => exact ⟨k + 1, by omega, by go_num, hb4, fun j h => by
            by_cases e : j = k
            · subst e; rw [HGE.out]; have := HOK.out; simpa using this
            · exact hp.out j (by omega)⟩
          case measure => simp [intOf]; omega
        | false =>
          have HG := Lib.hid (complR_f HC.out fun q => by have := HOK.out.2 (q g HM.out); cases this)
          go_wp2_with fail
          go_ret2
          exact ⟨ret_bi HG.out, bel_next B3 hb4⟩
      · have HG := Lib.hid (complR_t HC.out (all_gi fun j h => hp.out j (by omega)))
        have hkb : decide ((k : Int) < ((idemL c).length : Int)) = false := by simp; omega
        clear hp
        go_wp2_with fail
        go_ret2
        exact ⟨ret_bi HG.out, bel_next B3 hb⟩
  · have HG := Lib.hid (complR_n hc)
    have hn : catB c = false := by simpa using hc
    clear hc
    go_wp2_with fail
    go_ret2
    exact ⟨ret_bi HG.out, B2⟩
end Go.Proofs.Ytkmkbmhpdnddnaa
