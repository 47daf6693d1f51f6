/-
  Small numbers in decimal, program and reference.
-/
import Derived.Test.YtjlpmfimbgbcmaaDoorFt
import Derived.Test.YtjlpmfimbgbcmaaDoorNode2
import Derived.Lib.AppendStr
import Derived.Laws.IdiomStrings
namespace Go.Proofs.YtjlpmfimbgbcmaaDoor
open Go.RowKit

theorem four {x : Int} (h : 0 ≤ x ∧ x ≤ 3) : x = 0 ∨ x = 1 ∨ x = 2 ∨ x = 3 := by omega
theorem c_small {x : Int} (h : 0 ≤ x ∧ x ≤ 3) (w : World) : Calls Tryd.prog 96 #[.int .i64 x] w (fun e w' => e = .returned (.string (dg x)) ∧ w = w') := by
  rcases four h with rfl | rfl | rfl | rfl
  all_goals
    go_enter Tryd.func96, Tryd.ntmps96
    go_wp2
    go_ret
    exact ⟨rfl, rfl⟩
theorem c_FormatIntI {x : Int} (h : 0 ≤ x ∧ x ≤ 3) (w : World) : Calls Tryd.prog 84 #[.int .i64 x, .int .i64 10] w (fun e w' => e = .returned (.string (dg x)) ∧ w = w') := by
  have HS := Lib.hid (fun W => c_small h W)
  rcases four h with rfl | rfl | rfl | rfl
  all_goals
    go_enter Tryd.func84, Tryd.ntmps84
    go_wp2_with fail
    refine (HS.out _).mono ?_
    rintro e w' ⟨rfl, rfl⟩
    go_wp2_with fail
    go_ret
    exact ⟨rfl, rfl⟩
theorem c_FormatInt {x : Int} (h : 0 ≤ x ∧ x ≤ 3) (w : World) : Calls Tryd.prog 71 #[.int .i64 x, .int .i64 10] w (fun e w' => e = .returned (.string (dg x)) ∧ w = w') := by
  go_enter Tryd.func71, Tryd.ntmps71
  go_wp2_with fail
  refine (c_FormatIntI h _).mono ?_
  rintro e w' ⟨rfl, rfl⟩
  go_wp2_with fail
  go_ret
  exact ⟨rfl, rfl⟩
theorem c_variable {x : Int} (h : 0 ≤ x ∧ x ≤ 3) (w : World) : Calls Tryd.prog 72 #[.int .i64 x] w (fun e w' => e = .returned (.string (bt 118 ++ dg x)) ∧ w = w') := by
  go_enter Tryd.func72, Tryd.ntmps72
  go_wp2_with fail
  refine (c_FormatInt h _).mono ?_
  rintro e w' ⟨rfl, rfl⟩
  go_wp2_with fail
  go_ret
  exact ⟨rfl, rfl⟩
theorem conv1 (w : World) (c : UInt8) : (convert 81 9 (.slice (some ⟨w.heap.size, 0, none⟩) 1 1)).run Tryd.prog (w.alloc (.cells #[.int .u8 (c.toNat : Int)] 5)) = .ok (.string (bt c)) (w.alloc (.cells #[.int .u8 (c.toNat : Int)] 5)) := by
  refine run_convert_bytes_back (P := Tryd.prog) (w.alloc (.cells #[.int .u8 (c.toNat : Int)] 5)) 81 9 5 ⟨w.heap.size, 0, none⟩ 1 [c] Tryd.underlying81 Tryd.underlying5 Tryd.underlying9 ?_
  intro j hj
  have e : j = 0 := by simp at hj; omega
  subst e
  simp [Addr.add]
set_option maxRecDepth 100000 in
theorem c_l01Dec {x : Int} (h : 0 ≤ x ∧ x ≤ 3) (w : World) : Calls Tryd.prog 46 #[.int .i64 x] w (Ret w (.string (dg x))) := by
  rcases four h with rfl | rfl | rfl | rfl
  · have hcv : (convert 81 9 (.slice (some ⟨w.heap.size, 0, none⟩) 1 1)).run Tryd.prog (w.alloc (.cells #[.int .u8 48] 5)) = .ok (.string (dg 0)) (w.alloc (.cells #[.int .u8 48] 5)) := conv1 w 48
    go_enter Tryd.func46, Tryd.ntmps46
    go_wp2
    go_ret
    exact ⟨rfl, bel_alloc (Below.refl _ _) _⟩
  · have hcv : (convert 81 9 (.slice (some ⟨w.heap.size, 0, none⟩) 1 1)).run Tryd.prog (w.alloc (.cells #[.int .u8 49] 5)) = .ok (.string (dg 1)) (w.alloc (.cells #[.int .u8 49] 5)) := conv1 w 49
    go_enter Tryd.func46, Tryd.ntmps46
    go_wp2
    go_ret
    exact ⟨rfl, bel_alloc (Below.refl _ _) _⟩
  · have hcv : (convert 81 9 (.slice (some ⟨w.heap.size, 0, none⟩) 1 1)).run Tryd.prog (w.alloc (.cells #[.int .u8 50] 5)) = .ok (.string (dg 2)) (w.alloc (.cells #[.int .u8 50] 5)) := conv1 w 50
    go_enter Tryd.func46, Tryd.ntmps46
    go_wp2
    go_ret
    exact ⟨rfl, bel_alloc (Below.refl _ _) _⟩
  · have hcv : (convert 81 9 (.slice (some ⟨w.heap.size, 0, none⟩) 1 1)).run Tryd.prog (w.alloc (.cells #[.int .u8 51] 5)) = .ok (.string (dg 3)) (w.alloc (.cells #[.int .u8 51] 5)) := conv1 w 51
    go_enter Tryd.func46, Tryd.ntmps46
    go_wp2
    go_ret
    exact ⟨rfl, bel_alloc (Below.refl _ _) _⟩
/-- v is a slice of bytes of the call's own that holds s. -/
def OwB (w : World) (B : Nat) (v : Value) (s : ByteArray) : Prop := w.ownsRow B 5 1 v s.size (Go.Lib.strCells s)
theorem infoU8 : (Tryd.prog.info? 5).map (fun i => (i.zero, i.size, i.bytes)) = some (some (.int .u8 0), 1, 1) := by kernel_rfl
theorem strCells_app (a b : ByteArray) : Go.Lib.strCells (a ++ b) = Go.Lib.strCells a ++ Go.Lib.strCells b := by
  simp [Go.Lib.strCells, ByteArray.data_append]
theorem OwB.nil (w : World) (B : Nat) : OwB w B (.slice none 0 0) ⟨#[]⟩ := World.ownsRow_nil _ _ _ _
theorem OwB.lt {w : World} {B : Nat} {v : Value} {s : ByteArray} (h : OwB w B v s) : ∀ k, v.ownBlock = some k → B ≤ k ∧ k < w.heap.size := World.ownsRow.lt h
theorem OwB.shape {w : World} {B : Nat} {v : Value} {s : ByteArray} (h : OwB w B v s) : ∃ ao c, v = .slice ao s.size c := by
  rcases h.2 with ⟨rfl, hn⟩ | ⟨g, cap, cur, rfl, -⟩
  · exact ⟨none, 0, by rw [hn]⟩
  · exact ⟨_, _, rfl⟩
theorem OwB.bel {w w1 : World} {B : Nat} {v : Value} {s : ByteArray} (h : OwB w B v s) (hb : Below w.heap.size w w1) : OwB w1 B v s :=
  h.kept (row := none) ⟨hb.os, hb.tape, hb.output, hb.size, fun k hk _ => hb.block k hk⟩ (by cases v.ownBlock with
    | none => exact .inl rfl
    | some k => exact .inr (fun e => by cases e))
section
variable {w : World}
/-- append(out, c), c a byte: behind the one-cell block that holds c. -/
theorem appB {B : Nat} {v : Value} {s : ByteArray} {c : UInt8} (hown : OwB w B v s) (hl : s.size < 1000000) (hB : B ≤ w.heap.size)
    {ops : Array Oper} {rest : List Oper} {o : Oper} {a : Act} {Q : Exit → Act → World → Prop} (hgd : o.guard = none) (sl y : Operand)
    (ho : o.op = .call { callee := .builtin .append, args := #[sl, y], argTypes := #[81, 81] })
    (hs : a.eval sl = v) (hy : a.eval y = .slice (some ⟨w.heap.size, 0, none⟩) 1 1)
    (h : ∀ v' w', OwB w' B v' (s ++ bt c) → w.grownBy w' v.ownBlock → wpList Tryd.prog ops Q rest (a.put o.dst v') w') : Hold (wpList Tryd.prog ops Q (o :: rest) a (w.alloc (.cells #[.int .u8 (c.toNat : Int)] 5))) := by
  show wpList Tryd.prog ops Q (o :: rest) a (w.alloc (.cells #[.int .u8 (c.toNat : Int)] 5))
  obtain ⟨i, hi, hz0, hz1, hz2⟩ := info_parts infoU8
  refine wpList_append_own2 hgd sl y 81 ho B 5 i (.int .u8 0) 1 1 Tryd.underlying81 hi hz0 hz1 hz2 rfl (by decide) v s.size _ hs (World.ownsRow.alloc hown _) ⟨w.heap.size, 0, none⟩ 1 1 [.int .u8 (c.toNat : Int)] hy rfl ?_ ?_ ?_ ?_ ?_ ?_
  · intro j u hj
    match j, hj with
    | 0, hj => simp at hj; subst hj; simp [Addr.add]
  · intro u hu; simp at hu; subst hu; rfl
  · unfold maxLen; omega
  · omega
  · simp; omega
  · intro v' w' h2 h3
    refine h v' w' ?_ h3.of_alloc.grown
    unfold OwB
    rw [strCells_app, ByteArray.size_append]
    exact h2
/-- append(out, t...), t a string. -/
theorem appT {B : Nat} {v : Value} {s : ByteArray} {t : ByteArray} (hown : OwB w B v s) (hl : s.size + t.size < 1000000) (hB : B ≤ w.heap.size)
    {ops : Array Oper} {rest : List Oper} {o : Oper} {a : Act} {Q : Exit → Act → World → Prop} (hgd : o.guard = none) (sl y : Operand)
    (ho : o.op = .call { callee := .builtin .append, args := #[sl, y], argTypes := #[81, 9] })
    (hs : a.eval sl = v) (hy : a.eval y = .string t)
    (h : ∀ v' w', OwB w' B v' (s ++ t) → w.grownBy w' v.ownBlock → wpList Tryd.prog ops Q rest (a.put o.dst v') w') : Hold (wpList Tryd.prog ops Q (o :: rest) a w) := by
  show wpList Tryd.prog ops Q (o :: rest) a w
  obtain ⟨i, hi, hz0, hz1, hz2⟩ := info_parts infoU8
  refine Go.Lib.wpList_append_own_string w hgd sl y 81 9 ho B 5 i Tryd.underlying81 Tryd.underlying9 hi hz0 hz1 hz2 v s.size _ hs hown t hy (by unfold maxLen; omega) (by omega) hB ?_
  intro v' w' h2 h3 _
  refine h v' w' ?_ h3
  unfold OwB
  rw [strCells_app, ByteArray.size_append]
  exact h2
/-- append(out, t...) as one step of a region that draws. -/
theorem stepAppT {B : Nat} {v : Value} {s : ByteArray} {t : ByteArray} (hown : OwB w B v s) (hl : s.size + t.size < 1000000) (hB : B ≤ w.heap.size)
    {ops : Array Oper} {o : Oper} {a : Act} {K : Act → World → Prop} {Q : Exit → Act → World → Prop} {E : Prop} (hgd : o.guard = none) (sl y : Operand)
    (ho : o.op = .call { callee := .builtin .append, args := #[sl, y], argTypes := #[81, 9] })
    (hs : a.eval sl = v) (hy : a.eval y = .string t)
    (h : ∀ v' w', OwB w' B v' (s ++ t) → w.grownBy w' v.ownBlock → K (a.put o.dst v') w') : if Region.wanted o (yielded ops a.tmps) = true then Oper.wp Tryd.prog o a w K Q else E := by
  have hw : Region.wanted o (yielded ops a.tmps) = true := by simp [Region.wanted, hgd]
  rw [if_pos hw]
  obtain ⟨i, hi, hz0, hz1, hz2⟩ := info_parts infoU8
  obtain ⟨v', w', hr, h2, h3, -⟩ := Go.Lib.run_append_own_string (P := Tryd.prog) w B 81 9 o.type 5 i Tryd.underlying81 Tryd.underlying9 hi hz0 hz1 hz2 v s.size _ hown t (by unfold maxLen; omega) (by omega) hB
  unfold Oper.wp execOp
  simp only [ho, resolve, invoke, builtin, Sem.run_bind, Sem.run_pure, Result.andThen_ok, List.map_toArray, List.map_cons, List.map_nil, hs, hy, hr]
  refine h v' w' ?_ h3
  unfold OwB
  rw [strCells_app, ByteArray.size_append]
  exact h2
end
/-- string(out). -/
theorem conv_own {w : World} {B : Nat} {v : Value} {s : ByteArray} (h : OwB w B v s) : (convert 81 9 v).run Tryd.prog w = .ok (.string s) w := by
  rcases h.2 with ⟨rfl, hn⟩ | ⟨g, cap, cur, rfl, hB, hg, hn, hc, hs, ht⟩
  · have e : s = ByteArray.empty := by
      apply ByteArray.ext
      apply Array.eq_empty_of_size_eq_zero
      exact hn
    rw [e]
    exact run_convert_bytes_nil w 81 5 Tryd.underlying81 Tryd.underlying5 0 0 9 Tryd.underlying9
  · have hr := run_convert_bytes_back (P := Tryd.prog) w 81 9 5 ⟨g, 0, none⟩ cap s.data.toList Tryd.underlying81 Tryd.underlying5 Tryd.underlying9 (fun j hj => by
      have hj2 : j < s.size := by rw [Array.length_toList] at hj; exact hj
      have h1 := World.ownsRow.cellAt h j (by omega)
      have e : (⟨g, 0, none⟩ : Addr).add j = ⟨g, j, none⟩ := by
        have h2 : (⟨g, 0, none⟩ : Addr).add j = ⟨g, 0 + j, none⟩ := by unfold Addr.add; split <;> simp_all
        rw [h2, Nat.zero_add]
      rw [e, h1]
      simp [Go.Lib.strCells, List.getElem?_eq_getElem hj])
    have e1 : s.data.toList.length = s.size := by rw [Array.length_toList]; rfl
    rw [e1] at hr
    exact hr
end Go.Proofs.YtjlpmfimbgbcmaaDoor
