/- FnExactDiscreteMonoidal returns true for every input and leaves its arguments as they were. No condition. -/
import Derived.Test.YtmigbcadldkmfaaDisc
namespace Go.Proofs.Ytmigbcadldkmfaa
open Go.ChangeShapes Go.WideShapes Go.ChangeAt Go.RowKit
theorem walk_FnExactDiscreteMonoidal (aTable : Value) (w : World) (haTable : RawISS w aTable) :
    Calls Try.prog 5 #[aTable] w (fun e w' => e = .returned (.bool true) ∧ Below w.heap.size w w') := by
  go_enter Try.func5, Try.ntmps5
  go_wp2_with fail
  have B := Below.refl w.heap.size w
  obtain ⟨q0, hq0⟩ : ∃ q : Int, q = 1048576 := ⟨_, rfl⟩
  refine (c_szInt64SS haTable B 1048576 (by omega) (by omega)).mono ?_
  rintro e w1 ⟨q1, rfl, d, hq⟩
  replace B := bel_next B d.bel0
  clear d
  rcases hq with hq | ⟨hqa1, hqb1, hqx⟩
  · have hqn : decide (q1 < 0) = true := by simp [hq]
    go_wp2_with fail
    go_ret
    exact ⟨rfl, B⟩
  have hqn1 : decide (q1 < 0) = false := by simp; omega
  obtain ⟨xsaTable, IaTable⟩ := hqx
  have SaTable := IaTable.size
  go_wp2_with fail
  have z0 := B.size
  have JaTable := IaTable.kept B
  refine (c_toInt64SS JaTable).mono ?_
  rintro e w2 ⟨u1, rfl, o1, b⟩
  have n := below_within b w1.heap.size
  have z2 := n.size
  replace B := n.below B (by omega) (Nat.le_refl _)
  replace JaTable := IaTable.kept B
  clear n b
  go_wp2_with fail
  refine (s_DiscreteMonoidal o1.is).mono ?_
  rintro e w3 ⟨u2, rfl, o2, b⟩
  obtain ⟨nu2, au2, lau2, kau2, bu2, lbu2, kbu2, cu2, lcu2, kcu2, du2, ldu2, kdu2, mu2, eu2, leu2, keu2, fu2, lfu2, kfu2, rfl⟩ := o2.shape5
  have n := below_within b w2.heap.size
  have z3 := n.size
  replace B := n.below B (by omega) (Nat.le_refl _)
  replace JaTable := IaTable.kept B
  replace o1 := o1.kept n (by omega)
  clear n b
  have lo2 := o2.size
  go_wp2_with fail
  have b : Below w3.heap.size w3 (w3.alloc (.cells #[.int .i64 nu2, .slice au2 lau2 kau2, .slice bu2 lbu2 kbu2, .slice cu2 lcu2 kcu2, .slice du2 ldu2 kdu2, .int .i64 mu2, .slice eu2 leu2 keu2, .slice fu2 lfu2 kfu2] 37)) := bel_box w3 _
  have Xu20 : (w3.alloc (.cells #[.int .i64 nu2, .slice au2 lau2 kau2, .slice bu2 lbu2 kbu2, .slice cu2 lcu2 kcu2, .slice du2 ldu2 kdu2, .int .i64 mu2, .slice eu2 leu2 keu2, .slice fu2 lfu2 kfu2] 37)).cell? ⟨w3.heap.size, 0, none⟩ = some (.int .i64 nu2) := by simp
  have Xu21 : (w3.alloc (.cells #[.int .i64 nu2, .slice au2 lau2 kau2, .slice bu2 lbu2 kbu2, .slice cu2 lcu2 kcu2, .slice du2 ldu2 kdu2, .int .i64 mu2, .slice eu2 leu2 keu2, .slice fu2 lfu2 kfu2] 37)).cell? ⟨w3.heap.size, 1, none⟩ = some (.slice au2 lau2 kau2) := by simp
  have Xu22 : (w3.alloc (.cells #[.int .i64 nu2, .slice au2 lau2 kau2, .slice bu2 lbu2 kbu2, .slice cu2 lcu2 kcu2, .slice du2 ldu2 kdu2, .int .i64 mu2, .slice eu2 leu2 keu2, .slice fu2 lfu2 kfu2] 37)).cell? ⟨w3.heap.size, 2, none⟩ = some (.slice bu2 lbu2 kbu2) := by simp
  have Xu23 : (w3.alloc (.cells #[.int .i64 nu2, .slice au2 lau2 kau2, .slice bu2 lbu2 kbu2, .slice cu2 lcu2 kcu2, .slice du2 ldu2 kdu2, .int .i64 mu2, .slice eu2 leu2 keu2, .slice fu2 lfu2 kfu2] 37)).cell? ⟨w3.heap.size, 3, none⟩ = some (.slice cu2 lcu2 kcu2) := by simp
  have Xu24 : (w3.alloc (.cells #[.int .i64 nu2, .slice au2 lau2 kau2, .slice bu2 lbu2 kbu2, .slice cu2 lcu2 kcu2, .slice du2 ldu2 kdu2, .int .i64 mu2, .slice eu2 leu2 keu2, .slice fu2 lfu2 kfu2] 37)).cell? ⟨w3.heap.size, 4, none⟩ = some (.slice du2 ldu2 kdu2) := by simp
  have Xu25 : (w3.alloc (.cells #[.int .i64 nu2, .slice au2 lau2 kau2, .slice bu2 lbu2 kbu2, .slice cu2 lcu2 kcu2, .slice du2 ldu2 kdu2, .int .i64 mu2, .slice eu2 leu2 keu2, .slice fu2 lfu2 kfu2] 37)).cell? ⟨w3.heap.size, 5, none⟩ = some (.int .i64 mu2) := by simp
  have Xu26 : (w3.alloc (.cells #[.int .i64 nu2, .slice au2 lau2 kau2, .slice bu2 lbu2 kbu2, .slice cu2 lcu2 kcu2, .slice du2 ldu2 kdu2, .int .i64 mu2, .slice eu2 leu2 keu2, .slice fu2 lfu2 kfu2] 37)).cell? ⟨w3.heap.size, 6, none⟩ = some (.slice eu2 leu2 keu2) := by simp
  have Xu27 : (w3.alloc (.cells #[.int .i64 nu2, .slice au2 lau2 kau2, .slice bu2 lbu2 kbu2, .slice cu2 lcu2 kcu2, .slice du2 ldu2 kdu2, .int .i64 mu2, .slice eu2 leu2 keu2, .slice fu2 lfu2 kfu2] 37)).cell? ⟨w3.heap.size, 7, none⟩ = some (.slice fu2 lfu2 kfu2) := by simp
  have hzu2 : w3.heap.size < (w3.alloc (.cells #[.int .i64 nu2, .slice au2 lau2 kau2, .slice bu2 lbu2 kbu2, .slice cu2 lcu2 kcu2, .slice du2 ldu2 kdu2, .int .i64 mu2, .slice eu2 leu2 keu2, .slice fu2 lfu2 kfu2] 37)).heap.size := by simp
  generalize (w3.alloc (.cells #[.int .i64 nu2, .slice au2 lau2 kau2, .slice bu2 lbu2 kbu2, .slice cu2 lcu2 kcu2, .slice du2 ldu2 kdu2, .int .i64 mu2, .slice eu2 leu2 keu2, .slice fu2 lfu2 kfu2] 37)) = w4 at *
  have n := below_within b w3.heap.size
  have z4 := n.size
  replace B := n.below B (by omega) (Nat.le_refl _)
  replace JaTable := IaTable.kept B
  replace o1 := o1.kept n (by omega)
  replace o2 := o2.kept n (by omega)
  clear n b
  refine (c_toInt64SS JaTable).mono ?_
  rintro e w5 ⟨u3, rfl, o3, b⟩
  have n := below_within b w4.heap.size
  have z5 := n.size
  replace B := n.below B (by omega) (Nat.le_refl _)
  replace Xu20 := within_cell n Xu20 (by omega)
  replace Xu21 := within_cell n Xu21 (by omega)
  replace Xu22 := within_cell n Xu22 (by omega)
  replace Xu23 := within_cell n Xu23 (by omega)
  replace Xu24 := within_cell n Xu24 (by omega)
  replace Xu25 := within_cell n Xu25 (by omega)
  replace Xu26 := within_cell n Xu26 (by omega)
  replace Xu27 := within_cell n Xu27 (by omega)
  replace JaTable := IaTable.kept B
  replace o1 := o1.kept n (by omega)
  replace o2 := o2.kept n (by omega)
  clear n b
  go_wp2_with fail
  refine (i_DiscreteMonoidal o3.is).mono ?_
  rintro e w6 ⟨u4, rfl, o4, b⟩
  obtain ⟨nu4, au4, lau4, kau4, bu4, lbu4, kbu4, cu4, lcu4, kcu4, du4, ldu4, kdu4, mu4, eu4, leu4, keu4, fu4, lfu4, kfu4, rfl⟩ := o4.shape5
  have n := below_within b w5.heap.size
  have z6 := n.size
  replace B := n.below B (by omega) (Nat.le_refl _)
  replace Xu20 := within_cell n Xu20 (by omega)
  replace Xu21 := within_cell n Xu21 (by omega)
  replace Xu22 := within_cell n Xu22 (by omega)
  replace Xu23 := within_cell n Xu23 (by omega)
  replace Xu24 := within_cell n Xu24 (by omega)
  replace Xu25 := within_cell n Xu25 (by omega)
  replace Xu26 := within_cell n Xu26 (by omega)
  replace Xu27 := within_cell n Xu27 (by omega)
  replace JaTable := IaTable.kept B
  replace o1 := o1.kept n (by omega)
  replace o2 := o2.kept n (by omega)
  replace o3 := o3.kept n (by omega)
  clear n b
  have lo4 := o4.size
  replace Xu20 := up_cell (bel_box w6 (.cells #[.int .i64 nu4, .slice au4 lau4 kau4, .slice bu4 lbu4 kbu4, .slice cu4 lcu4 kcu4, .slice du4 ldu4 kdu4, .int .i64 mu4, .slice eu4 leu4 keu4, .slice fu4 lfu4 kfu4] 37)) Xu20
  replace Xu21 := up_cell (bel_box w6 (.cells #[.int .i64 nu4, .slice au4 lau4 kau4, .slice bu4 lbu4 kbu4, .slice cu4 lcu4 kcu4, .slice du4 ldu4 kdu4, .int .i64 mu4, .slice eu4 leu4 keu4, .slice fu4 lfu4 kfu4] 37)) Xu21
  replace Xu22 := up_cell (bel_box w6 (.cells #[.int .i64 nu4, .slice au4 lau4 kau4, .slice bu4 lbu4 kbu4, .slice cu4 lcu4 kcu4, .slice du4 ldu4 kdu4, .int .i64 mu4, .slice eu4 leu4 keu4, .slice fu4 lfu4 kfu4] 37)) Xu22
  replace Xu23 := up_cell (bel_box w6 (.cells #[.int .i64 nu4, .slice au4 lau4 kau4, .slice bu4 lbu4 kbu4, .slice cu4 lcu4 kcu4, .slice du4 ldu4 kdu4, .int .i64 mu4, .slice eu4 leu4 keu4, .slice fu4 lfu4 kfu4] 37)) Xu23
  replace Xu24 := up_cell (bel_box w6 (.cells #[.int .i64 nu4, .slice au4 lau4 kau4, .slice bu4 lbu4 kbu4, .slice cu4 lcu4 kcu4, .slice du4 ldu4 kdu4, .int .i64 mu4, .slice eu4 leu4 keu4, .slice fu4 lfu4 kfu4] 37)) Xu24
  replace Xu25 := up_cell (bel_box w6 (.cells #[.int .i64 nu4, .slice au4 lau4 kau4, .slice bu4 lbu4 kbu4, .slice cu4 lcu4 kcu4, .slice du4 ldu4 kdu4, .int .i64 mu4, .slice eu4 leu4 keu4, .slice fu4 lfu4 kfu4] 37)) Xu25
  replace Xu26 := up_cell (bel_box w6 (.cells #[.int .i64 nu4, .slice au4 lau4 kau4, .slice bu4 lbu4 kbu4, .slice cu4 lcu4 kcu4, .slice du4 ldu4 kdu4, .int .i64 mu4, .slice eu4 leu4 keu4, .slice fu4 lfu4 kfu4] 37)) Xu26
  replace Xu27 := up_cell (bel_box w6 (.cells #[.int .i64 nu4, .slice au4 lau4 kau4, .slice bu4 lbu4 kbu4, .slice cu4 lcu4 kcu4, .slice du4 ldu4 kdu4, .int .i64 mu4, .slice eu4 leu4 keu4, .slice fu4 lfu4 kfu4] 37)) Xu27
  go_wp2_with fail
  have b : Below w6.heap.size w6 (w6.alloc (.cells #[.int .i64 nu4, .slice au4 lau4 kau4, .slice bu4 lbu4 kbu4, .slice cu4 lcu4 kcu4, .slice du4 ldu4 kdu4, .int .i64 mu4, .slice eu4 leu4 keu4, .slice fu4 lfu4 kfu4] 37)) := bel_box w6 _
  have Xu40 : (w6.alloc (.cells #[.int .i64 nu4, .slice au4 lau4 kau4, .slice bu4 lbu4 kbu4, .slice cu4 lcu4 kcu4, .slice du4 ldu4 kdu4, .int .i64 mu4, .slice eu4 leu4 keu4, .slice fu4 lfu4 kfu4] 37)).cell? ⟨w6.heap.size, 0, none⟩ = some (.int .i64 nu4) := by simp
  have Xu41 : (w6.alloc (.cells #[.int .i64 nu4, .slice au4 lau4 kau4, .slice bu4 lbu4 kbu4, .slice cu4 lcu4 kcu4, .slice du4 ldu4 kdu4, .int .i64 mu4, .slice eu4 leu4 keu4, .slice fu4 lfu4 kfu4] 37)).cell? ⟨w6.heap.size, 1, none⟩ = some (.slice au4 lau4 kau4) := by simp
  have Xu42 : (w6.alloc (.cells #[.int .i64 nu4, .slice au4 lau4 kau4, .slice bu4 lbu4 kbu4, .slice cu4 lcu4 kcu4, .slice du4 ldu4 kdu4, .int .i64 mu4, .slice eu4 leu4 keu4, .slice fu4 lfu4 kfu4] 37)).cell? ⟨w6.heap.size, 2, none⟩ = some (.slice bu4 lbu4 kbu4) := by simp
  have Xu43 : (w6.alloc (.cells #[.int .i64 nu4, .slice au4 lau4 kau4, .slice bu4 lbu4 kbu4, .slice cu4 lcu4 kcu4, .slice du4 ldu4 kdu4, .int .i64 mu4, .slice eu4 leu4 keu4, .slice fu4 lfu4 kfu4] 37)).cell? ⟨w6.heap.size, 3, none⟩ = some (.slice cu4 lcu4 kcu4) := by simp
  have Xu44 : (w6.alloc (.cells #[.int .i64 nu4, .slice au4 lau4 kau4, .slice bu4 lbu4 kbu4, .slice cu4 lcu4 kcu4, .slice du4 ldu4 kdu4, .int .i64 mu4, .slice eu4 leu4 keu4, .slice fu4 lfu4 kfu4] 37)).cell? ⟨w6.heap.size, 4, none⟩ = some (.slice du4 ldu4 kdu4) := by simp
  have Xu45 : (w6.alloc (.cells #[.int .i64 nu4, .slice au4 lau4 kau4, .slice bu4 lbu4 kbu4, .slice cu4 lcu4 kcu4, .slice du4 ldu4 kdu4, .int .i64 mu4, .slice eu4 leu4 keu4, .slice fu4 lfu4 kfu4] 37)).cell? ⟨w6.heap.size, 5, none⟩ = some (.int .i64 mu4) := by simp
  have Xu46 : (w6.alloc (.cells #[.int .i64 nu4, .slice au4 lau4 kau4, .slice bu4 lbu4 kbu4, .slice cu4 lcu4 kcu4, .slice du4 ldu4 kdu4, .int .i64 mu4, .slice eu4 leu4 keu4, .slice fu4 lfu4 kfu4] 37)).cell? ⟨w6.heap.size, 6, none⟩ = some (.slice eu4 leu4 keu4) := by simp
  have Xu47 : (w6.alloc (.cells #[.int .i64 nu4, .slice au4 lau4 kau4, .slice bu4 lbu4 kbu4, .slice cu4 lcu4 kcu4, .slice du4 ldu4 kdu4, .int .i64 mu4, .slice eu4 leu4 keu4, .slice fu4 lfu4 kfu4] 37)).cell? ⟨w6.heap.size, 7, none⟩ = some (.slice fu4 lfu4 kfu4) := by simp
  have hzu4 : w6.heap.size < (w6.alloc (.cells #[.int .i64 nu4, .slice au4 lau4 kau4, .slice bu4 lbu4 kbu4, .slice cu4 lcu4 kcu4, .slice du4 ldu4 kdu4, .int .i64 mu4, .slice eu4 leu4 keu4, .slice fu4 lfu4 kfu4] 37)).heap.size := by simp
  generalize (w6.alloc (.cells #[.int .i64 nu4, .slice au4 lau4 kau4, .slice bu4 lbu4 kbu4, .slice cu4 lcu4 kcu4, .slice du4 ldu4 kdu4, .int .i64 mu4, .slice eu4 leu4 keu4, .slice fu4 lfu4 kfu4] 37)) = w7 at *
  have n := below_within b w6.heap.size
  have z7 := n.size
  replace B := n.below B (by omega) (Nat.le_refl _)
  replace JaTable := IaTable.kept B
  replace o1 := o1.kept n (by omega)
  replace o2 := o2.kept n (by omega)
  replace o3 := o3.kept n (by omega)
  replace o4 := o4.kept n (by omega)
  clear n b
  refine (c_eqMonoidal_refl o4.is o2.is).mono ?_
  rintro e w8 ⟨rfl, b⟩
  have n := below_within b w7.heap.size
  have z8 := n.size
  replace B := n.below B (by omega) (Nat.le_refl _)
  replace Xu20 := within_cell n Xu20 (by omega)
  replace Xu21 := within_cell n Xu21 (by omega)
  replace Xu22 := within_cell n Xu22 (by omega)
  replace Xu23 := within_cell n Xu23 (by omega)
  replace Xu24 := within_cell n Xu24 (by omega)
  replace Xu25 := within_cell n Xu25 (by omega)
  replace Xu26 := within_cell n Xu26 (by omega)
  replace Xu27 := within_cell n Xu27 (by omega)
  replace Xu40 := within_cell n Xu40 (by omega)
  replace Xu41 := within_cell n Xu41 (by omega)
  replace Xu42 := within_cell n Xu42 (by omega)
  replace Xu43 := within_cell n Xu43 (by omega)
  replace Xu44 := within_cell n Xu44 (by omega)
  replace Xu45 := within_cell n Xu45 (by omega)
  replace Xu46 := within_cell n Xu46 (by omega)
  replace Xu47 := within_cell n Xu47 (by omega)
  replace JaTable := IaTable.kept B
  replace o1 := o1.kept n (by omega)
  replace o2 := o2.kept n (by omega)
  replace o3 := o3.kept n (by omega)
  replace o4 := o4.kept n (by omega)
  clear n b
  go_wp2_with fail
  refine (c_toInt64SS JaTable).mono ?_
  rintro e w9 ⟨u5, rfl, o5, b⟩
  have n := below_within b w8.heap.size
  have z9 := n.size
  replace B := n.below B (by omega) (Nat.le_refl _)
  replace Xu20 := within_cell n Xu20 (by omega)
  replace Xu21 := within_cell n Xu21 (by omega)
  replace Xu22 := within_cell n Xu22 (by omega)
  replace Xu23 := within_cell n Xu23 (by omega)
  replace Xu24 := within_cell n Xu24 (by omega)
  replace Xu25 := within_cell n Xu25 (by omega)
  replace Xu26 := within_cell n Xu26 (by omega)
  replace Xu27 := within_cell n Xu27 (by omega)
  replace Xu40 := within_cell n Xu40 (by omega)
  replace Xu41 := within_cell n Xu41 (by omega)
  replace Xu42 := within_cell n Xu42 (by omega)
  replace Xu43 := within_cell n Xu43 (by omega)
  replace Xu44 := within_cell n Xu44 (by omega)
  replace Xu45 := within_cell n Xu45 (by omega)
  replace Xu46 := within_cell n Xu46 (by omega)
  replace Xu47 := within_cell n Xu47 (by omega)
  replace JaTable := IaTable.kept B
  replace o1 := o1.kept n (by omega)
  replace o2 := o2.kept n (by omega)
  replace o3 := o3.kept n (by omega)
  replace o4 := o4.kept n (by omega)
  clear n b
  go_wp2_with fail
  refine (c_eqInt64SS_refl o3.is o5.is).mono ?_
  rintro e w10 ⟨rfl, d⟩
  have b := d.below w9.heap.size
  clear d
  have n := below_within b w9.heap.size
  have z10 := n.size
  replace B := n.below B (by omega) (Nat.le_refl _)
  replace Xu20 := within_cell n Xu20 (by omega)
  replace Xu21 := within_cell n Xu21 (by omega)
  replace Xu22 := within_cell n Xu22 (by omega)
  replace Xu23 := within_cell n Xu23 (by omega)
  replace Xu24 := within_cell n Xu24 (by omega)
  replace Xu25 := within_cell n Xu25 (by omega)
  replace Xu26 := within_cell n Xu26 (by omega)
  replace Xu27 := within_cell n Xu27 (by omega)
  replace Xu40 := within_cell n Xu40 (by omega)
  replace Xu41 := within_cell n Xu41 (by omega)
  replace Xu42 := within_cell n Xu42 (by omega)
  replace Xu43 := within_cell n Xu43 (by omega)
  replace Xu44 := within_cell n Xu44 (by omega)
  replace Xu45 := within_cell n Xu45 (by omega)
  replace Xu46 := within_cell n Xu46 (by omega)
  replace Xu47 := within_cell n Xu47 (by omega)
  replace JaTable := IaTable.kept B
  replace o1 := o1.kept n (by omega)
  replace o2 := o2.kept n (by omega)
  replace o3 := o3.kept n (by omega)
  replace o4 := o4.kept n (by omega)
  replace o5 := o5.kept n (by omega)
  clear n b
  go_wp2_with fail
  refine (c_markInt64SS o3 _ (by omega) (by omega)).mono ?_
  rintro e w11 ⟨rfl, o3, n⟩
  have z11 := n.size
  replace B := n.below B (by omega) (Nat.le_refl _)
  replace Xu20 := within_cell n Xu20 (by omega)
  replace Xu21 := within_cell n Xu21 (by omega)
  replace Xu22 := within_cell n Xu22 (by omega)
  replace Xu23 := within_cell n Xu23 (by omega)
  replace Xu24 := within_cell n Xu24 (by omega)
  replace Xu25 := within_cell n Xu25 (by omega)
  replace Xu26 := within_cell n Xu26 (by omega)
  replace Xu27 := within_cell n Xu27 (by omega)
  replace Xu40 := within_cell n Xu40 (by omega)
  replace Xu41 := within_cell n Xu41 (by omega)
  replace Xu42 := within_cell n Xu42 (by omega)
  replace Xu43 := within_cell n Xu43 (by omega)
  replace Xu44 := within_cell n Xu44 (by omega)
  replace Xu45 := within_cell n Xu45 (by omega)
  replace Xu46 := within_cell n Xu46 (by omega)
  replace Xu47 := within_cell n Xu47 (by omega)
  replace JaTable := IaTable.kept B
  replace o1 := o1.kept n (by omega)
  replace o2 := o2.kept n (by omega)
  replace o4 := o4.kept n (by omega)
  replace o5 := o5.kept n (by omega)
  clear n
  go_wp2_with fail
  refine (c_eqMonoidal_refl o4.is o2.is).mono ?_
  rintro e w12 ⟨rfl, b⟩
  have n := below_within b w11.heap.size
  have z12 := n.size
  replace B := n.below B (by omega) (Nat.le_refl _)
  replace Xu20 := within_cell n Xu20 (by omega)
  replace Xu21 := within_cell n Xu21 (by omega)
  replace Xu22 := within_cell n Xu22 (by omega)
  replace Xu23 := within_cell n Xu23 (by omega)
  replace Xu24 := within_cell n Xu24 (by omega)
  replace Xu25 := within_cell n Xu25 (by omega)
  replace Xu26 := within_cell n Xu26 (by omega)
  replace Xu27 := within_cell n Xu27 (by omega)
  replace Xu40 := within_cell n Xu40 (by omega)
  replace Xu41 := within_cell n Xu41 (by omega)
  replace Xu42 := within_cell n Xu42 (by omega)
  replace Xu43 := within_cell n Xu43 (by omega)
  replace Xu44 := within_cell n Xu44 (by omega)
  replace Xu45 := within_cell n Xu45 (by omega)
  replace Xu46 := within_cell n Xu46 (by omega)
  replace Xu47 := within_cell n Xu47 (by omega)
  replace JaTable := IaTable.kept B
  replace o1 := o1.kept n (by omega)
  replace o2 := o2.kept n (by omega)
  replace o3 := o3.kept n (by omega)
  replace o4 := o4.kept n (by omega)
  replace o5 := o5.kept n (by omega)
  clear n b
  go_wp2_with fail
  refine (c_markMonoidal o4 _ (by omega) (by omega)).mono ?_
  rintro e w13 ⟨rfl, o4, n⟩
  have z13 := n.size
  replace B := n.below B (by omega) (Nat.le_refl _)
  replace Xu20 := within_cell n Xu20 (by omega)
  replace Xu21 := within_cell n Xu21 (by omega)
  replace Xu22 := within_cell n Xu22 (by omega)
  replace Xu23 := within_cell n Xu23 (by omega)
  replace Xu24 := within_cell n Xu24 (by omega)
  replace Xu25 := within_cell n Xu25 (by omega)
  replace Xu26 := within_cell n Xu26 (by omega)
  replace Xu27 := within_cell n Xu27 (by omega)
  replace Xu40 := within_cell n Xu40 (by omega)
  replace Xu41 := within_cell n Xu41 (by omega)
  replace Xu42 := within_cell n Xu42 (by omega)
  replace Xu43 := within_cell n Xu43 (by omega)
  replace Xu44 := within_cell n Xu44 (by omega)
  replace Xu45 := within_cell n Xu45 (by omega)
  replace Xu46 := within_cell n Xu46 (by omega)
  replace Xu47 := within_cell n Xu47 (by omega)
  replace JaTable := IaTable.kept B
  replace o1 := o1.kept n (by omega)
  replace o2 := o2.kept n (by omega)
  replace o3 := o3.kept n (by omega)
  replace o5 := o5.kept n (by omega)
  clear n
  go_wp2_with fail
  refine (c_heldMonoidal o4.is (by omega) (by omega)).mono ?_
  rintro e w14 ⟨rfl, b⟩
  have n := below_within b w13.heap.size
  have z14 := n.size
  replace B := n.below B (by omega) (Nat.le_refl _)
  replace Xu20 := within_cell n Xu20 (by omega)
  replace Xu21 := within_cell n Xu21 (by omega)
  replace Xu22 := within_cell n Xu22 (by omega)
  replace Xu23 := within_cell n Xu23 (by omega)
  replace Xu24 := within_cell n Xu24 (by omega)
  replace Xu25 := within_cell n Xu25 (by omega)
  replace Xu26 := within_cell n Xu26 (by omega)
  replace Xu27 := within_cell n Xu27 (by omega)
  replace Xu40 := within_cell n Xu40 (by omega)
  replace Xu41 := within_cell n Xu41 (by omega)
  replace Xu42 := within_cell n Xu42 (by omega)
  replace Xu43 := within_cell n Xu43 (by omega)
  replace Xu44 := within_cell n Xu44 (by omega)
  replace Xu45 := within_cell n Xu45 (by omega)
  replace Xu46 := within_cell n Xu46 (by omega)
  replace Xu47 := within_cell n Xu47 (by omega)
  replace JaTable := IaTable.kept B
  replace o1 := o1.kept n (by omega)
  replace o2 := o2.kept n (by omega)
  replace o3 := o3.kept n (by omega)
  replace o4 := o4.kept n (by omega)
  replace o5 := o5.kept n (by omega)
  clear n b
  go_wp2_with fail
  refine (c_toInt64SS JaTable).mono ?_
  rintro e w15 ⟨u6, rfl, o6, b⟩
  have n := below_within b w14.heap.size
  have z15 := n.size
  replace B := n.below B (by omega) (Nat.le_refl _)
  replace Xu20 := within_cell n Xu20 (by omega)
  replace Xu21 := within_cell n Xu21 (by omega)
  replace Xu22 := within_cell n Xu22 (by omega)
  replace Xu23 := within_cell n Xu23 (by omega)
  replace Xu24 := within_cell n Xu24 (by omega)
  replace Xu25 := within_cell n Xu25 (by omega)
  replace Xu26 := within_cell n Xu26 (by omega)
  replace Xu27 := within_cell n Xu27 (by omega)
  replace Xu40 := within_cell n Xu40 (by omega)
  replace Xu41 := within_cell n Xu41 (by omega)
  replace Xu42 := within_cell n Xu42 (by omega)
  replace Xu43 := within_cell n Xu43 (by omega)
  replace Xu44 := within_cell n Xu44 (by omega)
  replace Xu45 := within_cell n Xu45 (by omega)
  replace Xu46 := within_cell n Xu46 (by omega)
  replace Xu47 := within_cell n Xu47 (by omega)
  replace JaTable := IaTable.kept B
  replace o1 := o1.kept n (by omega)
  replace o2 := o2.kept n (by omega)
  replace o3 := o3.kept n (by omega)
  replace o4 := o4.kept n (by omega)
  replace o5 := o5.kept n (by omega)
  clear n b
  go_wp2_with fail
  refine (i_DiscreteMonoidal o6.is).mono ?_
  rintro e w16 ⟨u7, rfl, o7, b⟩
  obtain ⟨nu7, au7, lau7, kau7, bu7, lbu7, kbu7, cu7, lcu7, kcu7, du7, ldu7, kdu7, mu7, eu7, leu7, keu7, fu7, lfu7, kfu7, rfl⟩ := o7.shape5
  have n := below_within b w15.heap.size
  have z16 := n.size
  replace B := n.below B (by omega) (Nat.le_refl _)
  replace Xu20 := within_cell n Xu20 (by omega)
  replace Xu21 := within_cell n Xu21 (by omega)
  replace Xu22 := within_cell n Xu22 (by omega)
  replace Xu23 := within_cell n Xu23 (by omega)
  replace Xu24 := within_cell n Xu24 (by omega)
  replace Xu25 := within_cell n Xu25 (by omega)
  replace Xu26 := within_cell n Xu26 (by omega)
  replace Xu27 := within_cell n Xu27 (by omega)
  replace Xu40 := within_cell n Xu40 (by omega)
  replace Xu41 := within_cell n Xu41 (by omega)
  replace Xu42 := within_cell n Xu42 (by omega)
  replace Xu43 := within_cell n Xu43 (by omega)
  replace Xu44 := within_cell n Xu44 (by omega)
  replace Xu45 := within_cell n Xu45 (by omega)
  replace Xu46 := within_cell n Xu46 (by omega)
  replace Xu47 := within_cell n Xu47 (by omega)
  replace JaTable := IaTable.kept B
  replace o1 := o1.kept n (by omega)
  replace o2 := o2.kept n (by omega)
  replace o3 := o3.kept n (by omega)
  replace o4 := o4.kept n (by omega)
  replace o5 := o5.kept n (by omega)
  replace o6 := o6.kept n (by omega)
  clear n b
  have lo7 := o7.size
  replace Xu20 := up_cell (bel_box w16 (.cells #[.int .i64 nu7, .slice au7 lau7 kau7, .slice bu7 lbu7 kbu7, .slice cu7 lcu7 kcu7, .slice du7 ldu7 kdu7, .int .i64 mu7, .slice eu7 leu7 keu7, .slice fu7 lfu7 kfu7] 37)) Xu20
  replace Xu21 := up_cell (bel_box w16 (.cells #[.int .i64 nu7, .slice au7 lau7 kau7, .slice bu7 lbu7 kbu7, .slice cu7 lcu7 kcu7, .slice du7 ldu7 kdu7, .int .i64 mu7, .slice eu7 leu7 keu7, .slice fu7 lfu7 kfu7] 37)) Xu21
  replace Xu22 := up_cell (bel_box w16 (.cells #[.int .i64 nu7, .slice au7 lau7 kau7, .slice bu7 lbu7 kbu7, .slice cu7 lcu7 kcu7, .slice du7 ldu7 kdu7, .int .i64 mu7, .slice eu7 leu7 keu7, .slice fu7 lfu7 kfu7] 37)) Xu22
  replace Xu23 := up_cell (bel_box w16 (.cells #[.int .i64 nu7, .slice au7 lau7 kau7, .slice bu7 lbu7 kbu7, .slice cu7 lcu7 kcu7, .slice du7 ldu7 kdu7, .int .i64 mu7, .slice eu7 leu7 keu7, .slice fu7 lfu7 kfu7] 37)) Xu23
  replace Xu24 := up_cell (bel_box w16 (.cells #[.int .i64 nu7, .slice au7 lau7 kau7, .slice bu7 lbu7 kbu7, .slice cu7 lcu7 kcu7, .slice du7 ldu7 kdu7, .int .i64 mu7, .slice eu7 leu7 keu7, .slice fu7 lfu7 kfu7] 37)) Xu24
  replace Xu25 := up_cell (bel_box w16 (.cells #[.int .i64 nu7, .slice au7 lau7 kau7, .slice bu7 lbu7 kbu7, .slice cu7 lcu7 kcu7, .slice du7 ldu7 kdu7, .int .i64 mu7, .slice eu7 leu7 keu7, .slice fu7 lfu7 kfu7] 37)) Xu25
  replace Xu26 := up_cell (bel_box w16 (.cells #[.int .i64 nu7, .slice au7 lau7 kau7, .slice bu7 lbu7 kbu7, .slice cu7 lcu7 kcu7, .slice du7 ldu7 kdu7, .int .i64 mu7, .slice eu7 leu7 keu7, .slice fu7 lfu7 kfu7] 37)) Xu26
  replace Xu27 := up_cell (bel_box w16 (.cells #[.int .i64 nu7, .slice au7 lau7 kau7, .slice bu7 lbu7 kbu7, .slice cu7 lcu7 kcu7, .slice du7 ldu7 kdu7, .int .i64 mu7, .slice eu7 leu7 keu7, .slice fu7 lfu7 kfu7] 37)) Xu27
  replace Xu40 := up_cell (bel_box w16 (.cells #[.int .i64 nu7, .slice au7 lau7 kau7, .slice bu7 lbu7 kbu7, .slice cu7 lcu7 kcu7, .slice du7 ldu7 kdu7, .int .i64 mu7, .slice eu7 leu7 keu7, .slice fu7 lfu7 kfu7] 37)) Xu40
  replace Xu41 := up_cell (bel_box w16 (.cells #[.int .i64 nu7, .slice au7 lau7 kau7, .slice bu7 lbu7 kbu7, .slice cu7 lcu7 kcu7, .slice du7 ldu7 kdu7, .int .i64 mu7, .slice eu7 leu7 keu7, .slice fu7 lfu7 kfu7] 37)) Xu41
  replace Xu42 := up_cell (bel_box w16 (.cells #[.int .i64 nu7, .slice au7 lau7 kau7, .slice bu7 lbu7 kbu7, .slice cu7 lcu7 kcu7, .slice du7 ldu7 kdu7, .int .i64 mu7, .slice eu7 leu7 keu7, .slice fu7 lfu7 kfu7] 37)) Xu42
  replace Xu43 := up_cell (bel_box w16 (.cells #[.int .i64 nu7, .slice au7 lau7 kau7, .slice bu7 lbu7 kbu7, .slice cu7 lcu7 kcu7, .slice du7 ldu7 kdu7, .int .i64 mu7, .slice eu7 leu7 keu7, .slice fu7 lfu7 kfu7] 37)) Xu43
  replace Xu44 := up_cell (bel_box w16 (.cells #[.int .i64 nu7, .slice au7 lau7 kau7, .slice bu7 lbu7 kbu7, .slice cu7 lcu7 kcu7, .slice du7 ldu7 kdu7, .int .i64 mu7, .slice eu7 leu7 keu7, .slice fu7 lfu7 kfu7] 37)) Xu44
  replace Xu45 := up_cell (bel_box w16 (.cells #[.int .i64 nu7, .slice au7 lau7 kau7, .slice bu7 lbu7 kbu7, .slice cu7 lcu7 kcu7, .slice du7 ldu7 kdu7, .int .i64 mu7, .slice eu7 leu7 keu7, .slice fu7 lfu7 kfu7] 37)) Xu45
  replace Xu46 := up_cell (bel_box w16 (.cells #[.int .i64 nu7, .slice au7 lau7 kau7, .slice bu7 lbu7 kbu7, .slice cu7 lcu7 kcu7, .slice du7 ldu7 kdu7, .int .i64 mu7, .slice eu7 leu7 keu7, .slice fu7 lfu7 kfu7] 37)) Xu46
  replace Xu47 := up_cell (bel_box w16 (.cells #[.int .i64 nu7, .slice au7 lau7 kau7, .slice bu7 lbu7 kbu7, .slice cu7 lcu7 kcu7, .slice du7 ldu7 kdu7, .int .i64 mu7, .slice eu7 leu7 keu7, .slice fu7 lfu7 kfu7] 37)) Xu47
  go_wp2_with fail
  have b : Below w16.heap.size w16 (w16.alloc (.cells #[.int .i64 nu7, .slice au7 lau7 kau7, .slice bu7 lbu7 kbu7, .slice cu7 lcu7 kcu7, .slice du7 ldu7 kdu7, .int .i64 mu7, .slice eu7 leu7 keu7, .slice fu7 lfu7 kfu7] 37)) := bel_box w16 _
  have Xu70 : (w16.alloc (.cells #[.int .i64 nu7, .slice au7 lau7 kau7, .slice bu7 lbu7 kbu7, .slice cu7 lcu7 kcu7, .slice du7 ldu7 kdu7, .int .i64 mu7, .slice eu7 leu7 keu7, .slice fu7 lfu7 kfu7] 37)).cell? ⟨w16.heap.size, 0, none⟩ = some (.int .i64 nu7) := by simp
  have Xu71 : (w16.alloc (.cells #[.int .i64 nu7, .slice au7 lau7 kau7, .slice bu7 lbu7 kbu7, .slice cu7 lcu7 kcu7, .slice du7 ldu7 kdu7, .int .i64 mu7, .slice eu7 leu7 keu7, .slice fu7 lfu7 kfu7] 37)).cell? ⟨w16.heap.size, 1, none⟩ = some (.slice au7 lau7 kau7) := by simp
  have Xu72 : (w16.alloc (.cells #[.int .i64 nu7, .slice au7 lau7 kau7, .slice bu7 lbu7 kbu7, .slice cu7 lcu7 kcu7, .slice du7 ldu7 kdu7, .int .i64 mu7, .slice eu7 leu7 keu7, .slice fu7 lfu7 kfu7] 37)).cell? ⟨w16.heap.size, 2, none⟩ = some (.slice bu7 lbu7 kbu7) := by simp
  have Xu73 : (w16.alloc (.cells #[.int .i64 nu7, .slice au7 lau7 kau7, .slice bu7 lbu7 kbu7, .slice cu7 lcu7 kcu7, .slice du7 ldu7 kdu7, .int .i64 mu7, .slice eu7 leu7 keu7, .slice fu7 lfu7 kfu7] 37)).cell? ⟨w16.heap.size, 3, none⟩ = some (.slice cu7 lcu7 kcu7) := by simp
  have Xu74 : (w16.alloc (.cells #[.int .i64 nu7, .slice au7 lau7 kau7, .slice bu7 lbu7 kbu7, .slice cu7 lcu7 kcu7, .slice du7 ldu7 kdu7, .int .i64 mu7, .slice eu7 leu7 keu7, .slice fu7 lfu7 kfu7] 37)).cell? ⟨w16.heap.size, 4, none⟩ = some (.slice du7 ldu7 kdu7) := by simp
  have Xu75 : (w16.alloc (.cells #[.int .i64 nu7, .slice au7 lau7 kau7, .slice bu7 lbu7 kbu7, .slice cu7 lcu7 kcu7, .slice du7 ldu7 kdu7, .int .i64 mu7, .slice eu7 leu7 keu7, .slice fu7 lfu7 kfu7] 37)).cell? ⟨w16.heap.size, 5, none⟩ = some (.int .i64 mu7) := by simp
  have Xu76 : (w16.alloc (.cells #[.int .i64 nu7, .slice au7 lau7 kau7, .slice bu7 lbu7 kbu7, .slice cu7 lcu7 kcu7, .slice du7 ldu7 kdu7, .int .i64 mu7, .slice eu7 leu7 keu7, .slice fu7 lfu7 kfu7] 37)).cell? ⟨w16.heap.size, 6, none⟩ = some (.slice eu7 leu7 keu7) := by simp
  have Xu77 : (w16.alloc (.cells #[.int .i64 nu7, .slice au7 lau7 kau7, .slice bu7 lbu7 kbu7, .slice cu7 lcu7 kcu7, .slice du7 ldu7 kdu7, .int .i64 mu7, .slice eu7 leu7 keu7, .slice fu7 lfu7 kfu7] 37)).cell? ⟨w16.heap.size, 7, none⟩ = some (.slice fu7 lfu7 kfu7) := by simp
  have hzu7 : w16.heap.size < (w16.alloc (.cells #[.int .i64 nu7, .slice au7 lau7 kau7, .slice bu7 lbu7 kbu7, .slice cu7 lcu7 kcu7, .slice du7 ldu7 kdu7, .int .i64 mu7, .slice eu7 leu7 keu7, .slice fu7 lfu7 kfu7] 37)).heap.size := by simp
  generalize (w16.alloc (.cells #[.int .i64 nu7, .slice au7 lau7 kau7, .slice bu7 lbu7 kbu7, .slice cu7 lcu7 kcu7, .slice du7 ldu7 kdu7, .int .i64 mu7, .slice eu7 leu7 keu7, .slice fu7 lfu7 kfu7] 37)) = w17 at *
  have n := below_within b w16.heap.size
  have z17 := n.size
  replace B := n.below B (by omega) (Nat.le_refl _)
  replace JaTable := IaTable.kept B
  replace o1 := o1.kept n (by omega)
  replace o2 := o2.kept n (by omega)
  replace o3 := o3.kept n (by omega)
  replace o4 := o4.kept n (by omega)
  replace o5 := o5.kept n (by omega)
  replace o6 := o6.kept n (by omega)
  replace o7 := o7.kept n (by omega)
  clear n b
  refine (c_eqMonoidal_refl o7.is o2.is).mono ?_
  rintro e w18 ⟨rfl, b⟩
  have n := below_within b w17.heap.size
  have z18 := n.size
  replace B := n.below B (by omega) (Nat.le_refl _)
  replace Xu20 := within_cell n Xu20 (by omega)
  replace Xu21 := within_cell n Xu21 (by omega)
  replace Xu22 := within_cell n Xu22 (by omega)
  replace Xu23 := within_cell n Xu23 (by omega)
  replace Xu24 := within_cell n Xu24 (by omega)
  replace Xu25 := within_cell n Xu25 (by omega)
  replace Xu26 := within_cell n Xu26 (by omega)
  replace Xu27 := within_cell n Xu27 (by omega)
  replace Xu40 := within_cell n Xu40 (by omega)
  replace Xu41 := within_cell n Xu41 (by omega)
  replace Xu42 := within_cell n Xu42 (by omega)
  replace Xu43 := within_cell n Xu43 (by omega)
  replace Xu44 := within_cell n Xu44 (by omega)
  replace Xu45 := within_cell n Xu45 (by omega)
  replace Xu46 := within_cell n Xu46 (by omega)
  replace Xu47 := within_cell n Xu47 (by omega)
  replace Xu70 := within_cell n Xu70 (by omega)
  replace Xu71 := within_cell n Xu71 (by omega)
  replace Xu72 := within_cell n Xu72 (by omega)
  replace Xu73 := within_cell n Xu73 (by omega)
  replace Xu74 := within_cell n Xu74 (by omega)
  replace Xu75 := within_cell n Xu75 (by omega)
  replace Xu76 := within_cell n Xu76 (by omega)
  replace Xu77 := within_cell n Xu77 (by omega)
  replace JaTable := IaTable.kept B
  replace o1 := o1.kept n (by omega)
  replace o2 := o2.kept n (by omega)
  replace o3 := o3.kept n (by omega)
  replace o4 := o4.kept n (by omega)
  replace o5 := o5.kept n (by omega)
  replace o6 := o6.kept n (by omega)
  replace o7 := o7.kept n (by omega)
  clear n b
  go_wp2_with fail
  refine (c_heldMonoidal o4.is (by omega) (by omega)).mono ?_
  rintro e w19 ⟨rfl, b⟩
  have n := below_within b w18.heap.size
  have z19 := n.size
  replace B := n.below B (by omega) (Nat.le_refl _)
  replace Xu20 := within_cell n Xu20 (by omega)
  replace Xu21 := within_cell n Xu21 (by omega)
  replace Xu22 := within_cell n Xu22 (by omega)
  replace Xu23 := within_cell n Xu23 (by omega)
  replace Xu24 := within_cell n Xu24 (by omega)
  replace Xu25 := within_cell n Xu25 (by omega)
  replace Xu26 := within_cell n Xu26 (by omega)
  replace Xu27 := within_cell n Xu27 (by omega)
  replace Xu40 := within_cell n Xu40 (by omega)
  replace Xu41 := within_cell n Xu41 (by omega)
  replace Xu42 := within_cell n Xu42 (by omega)
  replace Xu43 := within_cell n Xu43 (by omega)
  replace Xu44 := within_cell n Xu44 (by omega)
  replace Xu45 := within_cell n Xu45 (by omega)
  replace Xu46 := within_cell n Xu46 (by omega)
  replace Xu47 := within_cell n Xu47 (by omega)
  replace Xu70 := within_cell n Xu70 (by omega)
  replace Xu71 := within_cell n Xu71 (by omega)
  replace Xu72 := within_cell n Xu72 (by omega)
  replace Xu73 := within_cell n Xu73 (by omega)
  replace Xu74 := within_cell n Xu74 (by omega)
  replace Xu75 := within_cell n Xu75 (by omega)
  replace Xu76 := within_cell n Xu76 (by omega)
  replace Xu77 := within_cell n Xu77 (by omega)
  replace JaTable := IaTable.kept B
  replace o1 := o1.kept n (by omega)
  replace o2 := o2.kept n (by omega)
  replace o3 := o3.kept n (by omega)
  replace o4 := o4.kept n (by omega)
  replace o5 := o5.kept n (by omega)
  replace o6 := o6.kept n (by omega)
  replace o7 := o7.kept n (by omega)
  clear n b
  go_wp2_with fail
  go_ret
  exact ⟨rfl, B⟩
section
set_option maxRecDepth 100000 in
theorem lifted_FnExactDiscreteMonoidal (os : Os) (started : os.Started) (H : Type) (enc : TypeId × Value → H) :
    ReturnsInHanded {} Try.checked os 5 .any (Rows.fnExactDiscreteMonoidalSpec.pre6 enc Try.prog Try.f5 Rows.fnExactDiscreteMonoidalRow.domain false) (Rows.fnExactDiscreteMonoidalSpec.post enc Try.prog Try.f5 false true false false) := by
  refine returnsInHanded_of_change (C := Try.checked) ownKnobNone started (by kernel_rfl) Try.func5
    (ChangeSpec.witness6 (enc := enc) (C := Try.checked) false ⟨#[], #[.slice none 0 0], []⟩ 8 (by kernel_rfl) (by kernel_rfl) (by kernel_rfl) (by kernel_rfl)) ?_
  intro W base args ds gs before hval0 hW hcnd _
  have hval : ∀ (j : Nat) t v, Try.f5.params[j]? = some t → args[j]? = some v → Value.okWide Try.prog W .any base t v := hval0
  have hW' := hW
  obtain ⟨p, q, hA0, hV, rfl, hfz, hnd⟩ := hW
  have hA : DataW.TrodAll enc Try.prog W 0 (fun _ => true) true Try.f5.params.toList args.toList ds p := hA0
  rw [Try.params5] at hA hval
  obtain ⟨v0, vs0, d0, ds0, p0, q0, hargs, rfl, rfl, h0, r0⟩ := trodAll_cons hA
  obtain ⟨rfl, rfl, rfl⟩ := trodAll_nil r0
  obtain rfl : args = #[v0] := by cases args; simp_all
  obtain ⟨rfl, rfl⟩ := trodVars_none hV
  have k0 := h0
  have lt0 : ∀ x ∈ p0, x.block < W.heap.size := by obtain ⟨m, hm⟩ := k0; exact DataW.trod_lt m _ _ _ hm
  obtain ⟨a0, len0, cap0, rfl⟩ := okWide_slice Try.underlying23 (hval 0 23 v0 rfl rfl)
  have w0 : RawISS W (.slice a0 len0 cap0) := by obtain ⟨fuel, hf⟩ := h0; exact rawISS_trod hf
  clear hA0 hval0
  refine (walk_FnExactDiscreteMonoidal (.slice a0 len0 cap0) W w0).mono fun e W' ⟨he, bel⟩ => ?_
  subst he
  exact ⟨_, rfl, _, _, _, [], _, [], hW', trodAll_mk1 (shut_bool Try.underlying4 _), (trodAll_cons_mk (Below.trod laidOutB_prog (by kernel_rfl) (of_decide_eq_true (by kernel_rfl)) k0 bel lt0) (trodAll_mk0)), rfl, bel.frame _, fun h => by cases h⟩
end
/-- THE STATEMENT. -/
theorem proved_FnExactDiscreteMonoidal : Rows.FnExactDiscreteMonoidalSaid :=
  OpenClaim.holds_of_wide 5 Try.f5 rfl rfl rfl rfl rfl rfl rfl ⟨rfl, rfl, rfl, rfl, rfl⟩ rfl rfl rfl rfl rfl (by kernel_rfl) Try.func5 (by kernel_rfl)
    (of_decide_eq_true (by kernel_rfl)) (by unfold Func.isWrapper; first | (rw [if_pos (by decide +kernel)]; kernel_rfl) | (rw [if_neg (by decide +kernel)]; exact ⟨rfl, rfl⟩))
    (fun os started H enc _ => lifted_FnExactDiscreteMonoidal os started H enc)
end Go.Proofs.Ytmigbcadldkmfaa
