/-
  strings.Split at a byte.
-/
import Derived.Test.YtjlpmfimbgbcmaaDoorShl
namespace Go.Proofs.YtjlpmfimbgbcmaaDoor
open Go.RowKit Go.Shelf
shelf_lay Lays.n221 Nm 221 at Tryd as lays221
shelf_lay Lays.n138 Nm 138 at Tryd as lays138
theorem info9 : (Tryd.prog.info? 9).map (fun i => (i.zero, i.size, i.bytes)) = some (some (.string ByteArray.empty), 1, 16) := by kernel_rfl

theorem c_Count (s : ByteArray) (c : UInt8) (w : World) : Calls Tryd.prog 75 #[.string s, .string ⟨#[c]⟩] w (fun e w' => e = .returned (.int .i64 (Lib.countB s ⟨#[c]⟩)) ∧ w' = w) := by
  refine (Any.strings_Count_one lays138 s c w).mono fun e w' ⟨he, hw⟩ => ⟨?_, hw⟩
  rw [he]
  show _ = Ending.returned (Value.int .i64 ((Lib.count s.data.toList [c] : Nat) : Int))
  rw [Lib.count_one]
  rfl

theorem c_genSplit {s : ByteArray} (hs : s.size < 4294967281) (c : UInt8) (w : World) : Calls Tryd.prog 56 #[.string s, .string ⟨#[c]⟩, .int .i64 0, .int .i64 (-1)] w (fun e w' =>
    e = .returned (.slice (some ⟨w.heap.size, 0, none⟩) (pcs c s).length (pcs c s).length) ∧ w' = w.alloc (.cells ((pcs c s).map Value.string).toArray 9)) := by
  have hle := Lib.countB_le ⟨#[c]⟩ (Nat.le_refl _) s.size s (Nat.le_refl _)
  have h := Any.strings_genSplit_core lays221 info9 s ⟨#[c]⟩ 0 (-1) (Lib.countB s ⟨#[c]⟩ + 1) w hs (Nat.le_refl _) (Nat.zero_le _)
    (fun x d hx => c_Index x c _) (c_Count s c w) (by decide) (by decide) (by rw [if_pos (by decide)]; omega)
  rw [Nat.add_sub_cancel] at h
  have e2 : Lib.cellsOf (Lib.splitB ⟨#[c]⟩ 0 (Lib.countB s ⟨#[c]⟩) s) (Lib.countB s ⟨#[c]⟩ + 1) = ((pcs c s).map Value.string).toArray := by rw [← pcs_len c s]; exact Lib.cellsOf_full _
  refine h.mono fun e w' ⟨he, hw⟩ => ⟨?_, ?_⟩
  · rw [he, pcs_len]
    show _ = Ending.returned (Value.slice _ _ _)
    congr 2
    exact pcs_len c s
  · rw [hw, e2]; rfl

theorem c_Split {s : ByteArray} (hs : s.size < 4294967281) (c : UInt8) (w : World) : Calls Tryd.prog 30 #[.string s, .string ⟨#[c]⟩] w (fun e w' =>
    e = .returned (.slice (some ⟨w.heap.size, 0, none⟩) (pcs c s).length (pcs c s).length) ∧ w' = w.alloc (.cells ((pcs c s).map Value.string).toArray 9)) := by
  go_enter Tryd.func30, Tryd.ntmps30
  go_wp2_with fail
  refine (c_genSplit hs c _).mono ?_
  rintro e w' ⟨rfl, rfl⟩
  go_wp2_with fail
  go_ret
  exact ⟨rfl, rfl⟩
end Go.Proofs.YtjlpmfimbgbcmaaDoor
