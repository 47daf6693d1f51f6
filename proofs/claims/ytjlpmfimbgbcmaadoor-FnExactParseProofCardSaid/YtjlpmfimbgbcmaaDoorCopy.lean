/-
  Copies: the program's clone and clones, the reference's l01Own and l01Own2; append of a whole list.
-/
import Derived.Test.YtjlpmfimbgbcmaaDoorSz
namespace Go.Proofs.YtjlpmfimbgbcmaaDoor
open Go.RowKit

theorem upc {w w' : World} {p : Addr} {v : Value} (hb : Below w.heap.size w w') (h : w.cell? p = some v) : w'.cell? p = some v := (hb.cell (World.block_lt_of_cell? _ _ h)).trans h
theorem run_make0 {P : Program} (t e : TypeId) (z : Value) (bytes : Nat) (ht : P.underlying t = some (.slice e)) (hinfo : (P.info? e).map (fun i => (i.zero, i.size, i.bytes)) = some (some z, 1, bytes)) (hz1 : z.cells = #[z])
    (kl kc : IntKind) (n : Nat) (hbytes : bytes * n ≤ 281474976710656) (h63 : n ≤ 9223372036854775807) (w : World) :
    (Instr.makeSlice t (.int kl 0) (.int kc (n : Int))).run P w = .ok (.slice (some ⟨w.heap.size, 0, none⟩) 0 n) (w.alloc (.cells (madeCells #[z] n) e)) := by
  obtain ⟨i, hi, hzz⟩ := Option.map_eq_some_iff.1 hinfo
  simp only [Prod.mk.injEq] at hzz
  obtain ⟨hz, hs, hb⟩ := hzz
  have hb' : (i.bytes : Int) * (n : Int) ≤ 281474976710656 := by
    have h : ((i.bytes * n : Nat) : Int) ≤ 281474976710656 := by rw [hb]; omega
    rwa [Int.natCast_mul] at h
  have hr := run_make (P := P) w t e i z ht hi hz kl kc 0 n (Int.le_refl _) (by omega) hb' (by omega)
  simp only [Int.toNat_natCast, Int.toNat_zero, hs, Nat.mul_one, hz1] at hr
  exact hr
theorem OF.made {E E' : TypeId} {B m cap : Nat} {w : World} {z : Value} {D : Nat → List Int} (hB : B ≤ w.heap.size) (hm : w.heap.size = m) (hc : cap ≤ 4294967296) : OF E E' B (m + 1) (w.alloc (.cells (madeCells #[z] cap) E')) (.slice (some ⟨m, 0, none⟩) 0 cap) 0 D := by
  subst hm
  exact ⟨fun _ => undef, World.ownsRow_made w _ cap hB (by unfold maxLen; omega) (by rw [size_madeCells]; simp), (fun k hk => by simp [Value.ownBlock] at hk; omega), (fun i hi => by omega), (fun i j hi => by omega), fun i hi => by omega⟩
section
variable {P : Program} {w : World}
theorem run_append_none (t ty e : TypeId) (i : TypeInfo) (size : Nat) (ht : P.underlying t = some (.slice e)) (hi : P.info? e = some i) {base : Nat}
    (v : Value) (n : Nat) (xs : List Value) (hown : w.ownsRow base e size v n xs) (c : Nat) : (Builtin.append_ #[t, t] ty #[v, .slice none 0 c]).run P w = .ok v w := by
  rcases hown.2 with ⟨rfl, rfl⟩ | ⟨g, cap, cur, rfl, _, _, hnc, _⟩
  · simp [Builtin.append_, run_underlying ht, sizeOf, typeInfo, hi, Builtin.lenOf, Builtin.firstCells]
  · simp [Builtin.append_, run_underlying ht, sizeOf, typeInfo, hi, Builtin.lenOf, Builtin.firstCells, hnc, storeCells]
theorem Grew.refl (w : World) (v : Value) : Grew w w v v := ⟨⟨rfl, rfl, rfl, Nat.le_refl _, fun _ _ _ => rfl⟩, .inl rfl⟩
/-- append(out, list...). -/
theorem run_appL {B : Nat} {v u : Value} {xs ys : List Int} {e t ty : TypeId} (hown : Own e w B v xs) (hy : IS w u ys) (hl : xs.length + ys.length ≤ 4294967296) (hB : B ≤ w.heap.size)
    (ht : P.underlying t = some (.slice e)) (hinfo : (P.info? e).map (fun i => (i.zero, i.size, i.bytes)) = some (some (.int .i64 0), 1, 8)) :
    ∃ v' w', (Builtin.append_ #[t, t] ty #[v, u]).run P w = .ok v' w' ∧ Own e w' B v' (xs ++ ys) ∧ Grew w w' v v' := by
  obtain ⟨i, hi, hz0, hz1, hz2⟩ := info_parts hinfo
  obtain ⟨ao, b, o, c, rfl, ha, hc⟩ := hy.ex
  have wf : AllI64 (xs ++ ys) := fun z hz => (List.mem_append.1 hz).elim (hown.wf z) (hy.wf z)
  by_cases h0 : 0 < ys.length
  · obtain rfl := ha h0
    obtain ⟨v', w', hr, h2, h3⟩ := run_append_own2 (P := P) (w := w) B t ty e i (.int .i64 0) 1 8 ht hi hz0 hz1 hz2 rfl (by decide) v xs.length _ hown.row ⟨b, o, none⟩ ys.length c (ys.map (Value.int .i64)) (by simp)
      (by
        intro j z hj
        rw [List.getElem?_map] at hj
        have hlt : j < ys.length := by
          rcases Nat.lt_or_ge j ys.length with h | h
          · exact h
          · rw [List.getElem?_eq_none h] at hj; cases hj
        rw [List.getElem?_eq_getElem hlt] at hj
        simp at hj
        subst hj
        have := hc j hlt
        rw [gi_lt hlt] at this
        by_cases e : j = 0
        · subst e; simpa [Addr.add] using this
        · simpa [Addr.add, e] using this)
      (by
        intro z hz
        obtain ⟨y, _, rfl⟩ := List.mem_map.1 hz
        rfl) (by unfold maxLen; omega) (by omega) hB
    refine ⟨v', w', hr, ⟨?_, wf, by simp; omega⟩, h3⟩
    rw [List.length_append, List.map_append]; exact h2
  · have hys : ys = [] := by cases ys with | nil => rfl | cons _ _ => simp at h0
    subst hys
    cases ao with
    | none =>
      exact ⟨v, w, run_append_none t ty e i 1 ht hi v xs.length _ hown.row c, by simpa using hown, Grew.refl w v⟩
    | some a =>
      obtain ⟨v', w', hr, h2, h3⟩ := run_append_own2 (P := P) (w := w) B t ty e i (.int .i64 0) 1 8 ht hi hz0 hz1 hz2 rfl (by decide) v xs.length _ hown.row a 0 c [] (by simp)
        (by intro j z hj; simp at hj) (by intro z hz; cases hz) (by unfold maxLen; simp at hl; omega) (by simp at hl; omega) hB
      exact ⟨v', w', hr, ⟨by simpa using h2, wf, by simpa using hl⟩, h3⟩
theorem appL {B : Nat} {v u : Value} {xs ys : List Int} {e t : TypeId} (hown : Own e w B v xs) (hyl : IS w u ys) (hl : xs.length + ys.length ≤ 4294967296) (hB : B ≤ w.heap.size)
    (ht : P.underlying t = some (.slice e)) (hinfo : (P.info? e).map (fun i => (i.zero, i.size, i.bytes)) = some (some (.int .i64 0), 1, 8))
    {ops : Array Oper} {rest : List Oper} {o : Oper} {a : Act} {Q : Exit → Act → World → Prop} (hgd : o.guard = none) (s y : Operand)
    (ho : o.op = .call { callee := .builtin .append, args := #[s, y], argTypes := #[t, t] })
    (hs : a.eval s = v) (hy : a.eval y = u)
    (h : ∀ v' w', Own e w' B v' (xs ++ ys) → Grew w w' v v' → wpList P ops Q rest (a.put o.dst v') w') : Hold (wpList P ops Q (o :: rest) a w) := by
  show wpList P ops Q (o :: rest) a w
  exact wpList_plain hgd fun K hK => by
    obtain ⟨v', w', hr, h2, h3⟩ := run_appL (P := P) (w := w) (ty := o.type) hown hyl hl hB ht hinfo
    unfold Oper.wp execOp
    simp only [ho, resolve, invoke, builtin, Sem.run_bind, Sem.run_pure, Result.andThen_ok, List.map_toArray, List.map_cons, List.map_nil, hs, hy, hr]
    exact hK _ _ (h v' w' h2 h3)
end
theorem Own.ownT {E : TypeId} {w : World} {B : Nat} {v : Value} {xs : List Int} (h : Own E w B v xs) : OwnT E B w.heap.size w v xs := ⟨h, fun k hk => (h.lt k hk).2⟩
theorem OF.opened' {E E' : TypeId} {B T : Nat} {w : World} {v : Value} {n : Nat} {D : Nat → List Int} (h : OF E E' B T w v n D) : ∃ ao c, v = .slice ao n c := by
  obtain ⟨ao, g, c, V, hv, -⟩ := h.opened
  exact ⟨ao, c, hv⟩
theorem OF.lt {E E' : TypeId} {B T : Nat} {w : World} {v : Value} {n : Nat} {D : Nat → List Int} (h : OF E E' B T w v n D) : ∀ k, v.ownBlock = some k → B ≤ k ∧ k < T := by
  obtain ⟨V, h1, h2, -⟩ := h
  exact fun k hk => ⟨(h1.lt k hk).1, h2 k hk⟩
end Go.Proofs.YtjlpmfimbgbcmaaDoor
