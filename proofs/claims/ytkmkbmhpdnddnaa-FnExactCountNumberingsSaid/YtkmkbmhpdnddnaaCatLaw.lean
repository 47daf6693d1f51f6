/-
  The laws' helpers on categories: szCategory, toCategory, eqCategory, markCategory, heldCategory; a category that came in.
-/
import Derived.Test.YtkmkbmhpdnddnaaCat3
import Derived.Test.YtkmkbmhpdnddnaaFrame
import Derived.Lib.SmallJoins
import Derived.ChangeArms
namespace Go.Proofs.Ytkmkbmhpdnddnaa
open Go.Joins Go.ChangeShapes Go.WideShapes Go.ChangeAt Go.RowKit Go.Deep

/-- A category that came in. -/
def RawC (w : World) (v : Value) : Prop := ∃ (n : Int) (vf vt vi vc : Value), v = .agg #[.int .i64 n, vf, vt, vi, vc] ∧ I64 n ∧ RawI w vf ∧ RawI w vt ∧ RawI w vi ∧ RawISS w vc
section
variable {H : Type} {enc : TypeId × Value → H} {P : Program} {w : World} {base : Nat} {spare : Nat → Bool} {held : Bool}
theorem open_agg5 {r : Reach} {b0 : Nat} {t : TypeId} {f0 f1 f2 f3 f4 : Field} {v : Value} {d : DataW H} {p : List MemPlace} (hs : P.underlying t = some (.struct #[f0, f1, f2, f3, f4])) (hone : oneCellFields P #[f0, f1, f2, f3, f4] = true) (hC : P.cellsOf t = 5)
    (hv : Value.okWide P w r b0 t v) (h : DataW.Trod enc P w base spare held t v d p) :
    ∃ (v0 v1 v2 v3 v4 : Value) (y0 y1 y2 y3 y4 : DataW H × List MemPlace) (n : Nat), v = .agg #[v0, v1, v2, v3, v4] ∧
      DataW.trod enc P w base spare held n f0.type [v0] = some y0 ∧ DataW.trod enc P w base spare held n f1.type [v1] = some y1 ∧ DataW.trod enc P w base spare held n f2.type [v2] = some y2 ∧ DataW.trod enc P w base spare held n f3.type [v3] = some y3 ∧ DataW.trod enc P w base spare held n f4.type [v4] = some y4 := by
  obtain ⟨cs, rfl, hsz⟩ := okWide_struct hs hv
  obtain ⟨l⟩ := cs
  match l, hsz.trans hC with
  | [c0, c1, c2, c3, c4], _ =>
    obtain ⟨fuel, hf⟩ := h
    obtain ⟨xs, n, _, hx, _, hlen, hg⟩ := DataW.trod_struct hs hf
    obtain ⟨o0, k0⟩ := hone_of hone 0 f0 rfl
    obtain ⟨o1, k1⟩ := hone_of hone 1 f1 rfl
    obtain ⟨o2, k2⟩ := hone_of hone 2 f2 rfl
    obtain ⟨o3, k3⟩ := hone_of hone 3 f3 rfl
    obtain ⟨o4, k4⟩ := hone_of hone 4 f4 rfl
    match xs, hlen with
    | [y0, y1, y2, y3, y4], _ =>
      exact ⟨c0, c1, c2, c3, c4, y0, y1, y2, y3, y4, n, rfl, by simpa [Value.cells, o0, k0] using hg 0 f0 rfl, by simpa [Value.cells, o1, k1] using hg 1 f1 rfl, by simpa [Value.cells, o2, k2] using hg 2 f2 rfl, by simpa [Value.cells, o3, k3] using hg 3 f3 rfl, by simpa [Value.cells, o4, k4] using hg 4 f4 rfl⟩
end
section
variable {H : Type} {enc : TypeId × Value → H} {held : Bool}
theorem rawI_cs {W : World} {v : Value} {fuel : Nat} {x : DataW H × List MemPlace} (h : DataW.trod enc Try.prog W 0 (fun _ => true) held fuel 22 [v] = some x) : RawI W v := by
  rcases open_ints Try.underlying22 Try.underlying2 (by kernel_rfl) h with ⟨hcs, _⟩ | ⟨x, l, c, zs, hcs, _, hl, hm, hz, _, hcell, hwz⟩
  · simp only [List.cons.injEq, and_true] at hcs
    rw [hcs]; exact rawI_none
  · simp only [List.cons.injEq, and_true] at hcs
    rw [hcs]; exact rawI_some hl hm (by simpa using hz) hcell hwz
theorem rawISS_cs {W : World} {v : Value} {fuel : Nat} {x : DataW H × List MemPlace} (h : DataW.trod enc Try.prog W 0 (fun _ => true) held fuel 23 [v] = some x) : RawISS W v := by
  have h0 := h
  rcases open_int_rows Try.underlying23 Try.underlying22 Try.underlying2 (by kernel_rfl) (by kernel_rfl) h with ⟨hcs, _⟩ | ⟨x, l, c, A, L, C, Z, hcs, _, hl, hm, _, hr⟩
  · simp only [List.cons.injEq, and_true] at hcs
    subst hcs
    exact rawISS_trod (a := none) (len := 0) (cap := 0) h0
  · simp only [List.cons.injEq, and_true] at hcs
    subst hcs
    exact rawISS_trod h0
theorem rawC_of {b0 : Nat} {W : World} {v : Value} {d : DataW H} {p : List MemPlace} (hv : Value.okWide Try.prog W .any b0 25 v) (h : DataW.Trod enc Try.prog W 0 (fun _ => true) held 25 v d p) : RawC W v := by
  obtain ⟨v0, v1, v2, v3, v4, y0, y1, y2, y3, y4, n, rfl, h0, h1, h2, h3, h4⟩ := open_agg5 Try.underlying25 (by kernel_rfl) (by kernel_rfl) hv h
  obtain ⟨k, hk, -, wk⟩ := DataW.trod_int (k := .i64) Try.underlying2 h0
  simp only [List.cons.injEq, and_true] at hk
  subst hk
  exact ⟨k, v1, v2, v3, v4, rfl, wf_I64 wk, rawI_cs h1, rawI_cs h2, rawI_cs h3, rawISS_cs h4⟩
end
/-- How many numbers a category's tables hold. -/
def szc (c : Cat) : Nat := c.fr.length + c.to.length + c.id.length + pS (gr c.cm) c.cm.length
/-- A category by value that is not large. -/
structure BC (w : World) (v : Value) (c : Cat) : Prop where
  ex : ∃ vf vt vi vc : Value, v = .agg #[.int .i64 c.n, vf, vt, vi, vc] ∧ IS w vf c.fr ∧ IS w vt c.to ∧ IS w vi c.id ∧ BSS w vc c.cm
  n : I64 c.n
theorem BC.is {w : World} {v : Value} {c : Cat} (h : BC w v c) : IC w v c := by
  obtain ⟨⟨vf, vt, vi, vc, rfl, h1, h2, h3, h4⟩, hn⟩ := h
  exact ⟨⟨vf, vt, vi, vc, rfl, h1, h2, h3, h4.is⟩, hn⟩
theorem BC.kept {w w' : World} {v : Value} {c : Cat} (h : BC w v c) (hb : Below w.heap.size w w') : BC w' v c := by
  obtain ⟨⟨vf, vt, vi, vc, rfl, h1, h2, h3, h4⟩, hn⟩ := h
  exact ⟨⟨vf, vt, vi, vc, rfl, h1.kept hb, h2.kept hb, h3.kept hb, h4.kept hb⟩, hn⟩
theorem BC.size {w : World} {v : Value} {c : Cat} (h : BC w v c) : szc c ≤ 13000000000 := by
  obtain ⟨⟨vf, vt, vi, vc, rfl, h1, h2, h3, h4⟩, hn⟩ := h
  have := h1.len; have := h2.len; have := h3.len; have := h4.size
  unfold szc; omega
set_option maxHeartbeats 400000 in
theorem c_szCategory {w0 w : World} {v : Value} (h : RawC w0 v) (hd : Below w0.heap.size w0 w) (left : Int) (h0 : 0 ≤ left) (h1 : left ≤ 1048576) :
    Calls Try.prog 14 #[v, .int .i64 left] w (fun e w' => ∃ k, e = .returned (.int .i64 k) ∧ Below w.heap.size w w' ∧ (k < 0 ∨ (0 ≤ k ∧ k ≤ left ∧ ∃ c, BC w0 v c))) := by
  obtain ⟨n, vf, vt, vi, vc, rfl, hn, RF, RT, RI, RC⟩ := h
  have HN := Lib.hid hn
  have B : Bel w (w.alloc (.cells #[.int .i64 n, vf, vt, vi, vc] 25)) := bel_box w _
  have c1 : (w.alloc (.cells #[.int .i64 n, vf, vt, vi, vc] 25)).cell? ⟨w.heap.size, 1, none⟩ = some vf := by simp
  have c2 : (w.alloc (.cells #[.int .i64 n, vf, vt, vi, vc] 25)).cell? ⟨w.heap.size, 2, none⟩ = some vt := by simp
  have c3 : (w.alloc (.cells #[.int .i64 n, vf, vt, vi, vc] 25)).cell? ⟨w.heap.size, 3, none⟩ = some vi := by simp
  have c4 : (w.alloc (.cells #[.int .i64 n, vf, vt, vi, vc] 25)).cell? ⟨w.heap.size, 4, none⟩ = some vc := by simp
  have HD := Lib.hid hd
  clear hd hn
  go_enter Try.func14, Try.ntmps14
  go_wp2_with fail
  generalize w.alloc (.cells #[.int .i64 n, vf, vt, vi, vc] 25) = w1 at *
  generalize w.heap.size = b at *
  refine (c_szInt64S RF _ h0 h1).mono ?_
  rintro e w2 ⟨k1, rfl, d1, hk⟩
  rcases hk with hk | ⟨ka1, kb1, hx⟩
  · have hkb : decide (k1 < 0) = true := by simp [hk]
    go_wp2_with fail
    go_ret
    exact ⟨-1, rfl, B.drawn d1, .inl (by omega)⟩
  have hkb1 : decide (k1 < 0) = false := by simp; omega
  have X1 := Lib.hid hx
  have c2' := up_cell d1.bel0 c2
  have c3' := up_cell d1.bel0 c3
  have c4' := up_cell d1.bel0 c4
  have B2 := B.drawn d1
  clear hx c1 c2 c3 c4 d1
  go_wp2_with fail
  refine (c_szInt64S RT _ ka1 (by omega)).mono ?_
  rintro e w3 ⟨k2, rfl, d1, hk⟩
  rcases hk with hk | ⟨ka2, kb2, hx⟩
  · have hkb : decide (k2 < 0) = true := by simp [hk]
    go_wp2_with fail
    go_ret
    exact ⟨-1, rfl, bel_next B2 d1.bel0, .inl (by omega)⟩
  have hkb2 : decide (k2 < 0) = false := by simp; omega
  have X2 := Lib.hid hx
  have c3 := up_cell d1.bel0 c3'
  have c4 := up_cell d1.bel0 c4'
  have B3 := bel_next B2 d1.bel0
  clear hx c2' c3' c4' d1
  go_wp2_with fail
  refine (c_szInt64S RI _ ka2 (by omega)).mono ?_
  rintro e w4 ⟨k3, rfl, d1, hk⟩
  rcases hk with hk | ⟨ka3, kb3, hx⟩
  · have hkb : decide (k3 < 0) = true := by simp [hk]
    go_wp2_with fail
    go_ret
    exact ⟨-1, rfl, bel_next B3 d1.bel0, .inl (by omega)⟩
  have hkb3 : decide (k3 < 0) = false := by simp; omega
  have X3 := Lib.hid hx
  have c4' := up_cell d1.bel0 c4
  have B4 := bel_next B3 d1.bel0
  clear hx c3 c4 d1
  go_wp2_with fail
  refine (c_szInt64SS RC (HD.out.trans (B4.mono HD.out.size)) _ ka3 (by omega)).mono ?_
  rintro e w5 ⟨k4, rfl, d1, hk⟩
  rcases hk with hk | ⟨ka4, kb4, hx⟩
  · have hkb : decide (k4 < 0) = true := by simp [hk]
    go_wp2_with fail
    go_ret
    exact ⟨-1, rfl, bel_next B4 d1.bel0, .inl (by omega)⟩
  have hkb4 : decide (k4 < 0) = false := by simp; omega
  have X4 := Lib.hid hx
  clear hx c4'
  go_wp2_with fail
  go_ret
  obtain ⟨fr, i1, -⟩ := X1.out
  obtain ⟨to, i2, -⟩ := X2.out
  obtain ⟨id, i3, -⟩ := X3.out
  obtain ⟨cm, i4⟩ := X4.out
  exact ⟨k4, rfl, bel_next B4 d1.bel0, .inr ⟨ka4, by omega, ⟨n, fr, to, id, cm⟩, ⟨vf, vt, vi, vc, rfl, i1, i2, i3, i4⟩, HN.out⟩⟩
/-- A category of the call's own: its tables lie apart, from block B on, below T. -/
structure OwnC (B T : Nat) (w : World) (v : Value) (c : Cat) : Prop where
  ex : ∃ (vf vt vi vc : Value) (gf tf gt tt gi ti T1 : Nat), v = .agg #[.int .i64 c.n, vf, vt, vi, vc] ∧ OwnT 2 gf tf w vf c.fr ∧ OwnT 2 gt tt w vt c.to ∧ OwnT 2 gi ti w vi c.id ∧ OwnSS 2 22 T1 T w vc c.cm ∧
    (B ≤ gf ∧ tf ≤ T1 ∧ B ≤ gt ∧ tt ≤ T1 ∧ B ≤ gi ∧ ti ≤ T1 ∧ B ≤ T1 ∧ T1 ≤ T) ∧ ((tf ≤ gt ∨ tt ≤ gf) ∧ (tf ≤ gi ∨ ti ≤ gf) ∧ (tt ≤ gi ∨ ti ≤ gt))
  n : I64 c.n
  top : T ≤ w.heap.size
theorem OwnC.is {B T : Nat} {w : World} {v : Value} {c : Cat} (h : OwnC B T w v c) : IC w v c := by
  obtain ⟨⟨vf, vt, vi, vc, gf, tf, gt, tt, gi, ti, T1, rfl, h1, h2, h3, h4, -, -⟩, hn, htop⟩ := h
  exact ⟨⟨vf, vt, vi, vc, rfl, h1.is, h2.is, h3.is, h4.is⟩, hn⟩
theorem OwnC.size {B T : Nat} {w : World} {v : Value} {c : Cat} (h : OwnC B T w v c) : szc c ≤ 1200000000000 := by
  obtain ⟨⟨vf, vt, vi, vc, gf, tf, gt, tt, gi, ti, T1, rfl, h1, h2, h3, h4, -, -⟩, hn, htop⟩ := h
  have := h1.size; have := h2.size; have := h3.size; have := h4.size
  unfold szc; omega
theorem OwnC.kept {B T B' T' : Nat} {w w' : World} {v : Value} {c : Cat} (h : OwnC B T w v c) (hb : Within B' T' w w') (hd : T ≤ B' ∨ T' ≤ B) : OwnC B T w' v c := by
  obtain ⟨⟨vf, vt, vi, vc, gf, tf, gt, tt, gi, ti, T1, rfl, h1, h2, h3, h4, h5, h6⟩, hn, htop⟩ := h
  exact ⟨⟨vf, vt, vi, vc, gf, tf, gt, tt, gi, ti, T1, rfl, h1.kept hb (by omega), h2.kept hb (by omega), h3.kept hb (by omega), h4.kept hb (by omega), h5, h6⟩, hn, by have := hb.size; omega⟩
theorem c_eqCategory_refl {w : World} {u v : Value} {c : Cat} (hu : IC w u c) (hv : IC w v c) : Calls Try.prog 18 #[u, v] w (Ret w (.bool true)) := by
  obtain ⟨⟨vf, vt, vi, vc, rfl, h1, h2, h3, h4⟩, -⟩ := hu
  obtain ⟨⟨vf', vt', vi', vc', rfl, h1', h2', h3', h4'⟩, -⟩ := hv
  have hb : (c.n != c.n) = false := by simp
  have H1 := Lib.hid (fun W (hW : Below w.heap.size w W) => c_eqInt64S_refl (h1.kept hW) (h1'.kept hW))
  have H2 := Lib.hid (fun W (hW : Below w.heap.size w W) => c_eqInt64S_refl (h2.kept hW) (h2'.kept hW))
  have H3 := Lib.hid (fun W (hW : Below w.heap.size w W) => c_eqInt64S_refl (h3.kept hW) (h3'.kept hW))
  have H4 := Lib.hid (fun W (hW : Below w.heap.size w W) => c_eqInt64SS_refl (h4.kept hW) (h4'.kept hW))
  go_enter Try.func18, Try.ntmps18
  go_wp2_with fail
  refine (H1.out _ (bel_alloc (bel_alloc (Below.refl _ _) _) _)).mono ?_
  rintro e w1 ⟨rfl, n1, rfl⟩
  go_wp2_with fail
  refine (H2.out _ ((bel_alloc (bel_alloc (Below.refl _ _) _) _).trans (Drawn.below (by repeat (first | exact Drawn.refl _ | refine Drawn.step ?_ _ | refine Drawn.one ?_)) _))).mono ?_
  rintro e w1 ⟨rfl, n2, rfl⟩
  go_wp2_with fail
  refine (H3.out _ ((bel_alloc (bel_alloc (Below.refl _ _) _) _).trans (Drawn.below (by repeat (first | exact Drawn.refl _ | refine Drawn.step ?_ _ | refine Drawn.one ?_)) _))).mono ?_
  rintro e w1 ⟨rfl, n3, rfl⟩
  go_wp2_with fail
  refine (H4.out _ ((bel_alloc (bel_alloc (Below.refl _ _) _) _).trans (Drawn.below (by repeat (first | exact Drawn.refl _ | refine Drawn.step ?_ _ | refine Drawn.one ?_)) _))).mono ?_
  rintro e w1 ⟨rfl, n4, rfl⟩
  go_wp2_with fail
  go_ret
  exact ⟨rfl, (bel_alloc (bel_alloc (Below.refl _ _) _) _).trans (Drawn.below (by repeat (first | exact Drawn.refl _ | refine Drawn.step ?_ _ | refine Drawn.one ?_)) _)⟩
end Go.Proofs.Ytkmkbmhpdnddnaa
