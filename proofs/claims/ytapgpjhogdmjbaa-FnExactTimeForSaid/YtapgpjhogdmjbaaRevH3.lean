/-
  Reversible pebbling: part 3 of the check of all graphs of six nodes with ascending masks, reckoned by the kernel. No condition.
-/
import Derived.Test.YtapgpjhogdmjbaaRevG
namespace Go.Proofs.Ytapgpjhogdmjbaa
namespace Peb
namespace Tt
set_option maxRecDepth 100000
theorem g_0_0_7_1 : gs 0 0 7 [7, 8, 9, 10, 11] = true := by decide +kernel
theorem g_0_1_1_1 : gs 0 1 1 [1, 2, 3, 4, 5, 6, 7] = true := by decide +kernel
theorem g_0_1_1_2 : gs 0 1 1 [8, 9, 10, 11, 12, 13, 14, 15] = true := by decide +kernel
theorem g_0_1_2_3 : gs 0 1 2 [4] = true := by decide +kernel
theorem g_0_1_3_1 : gs 0 1 3 [3] = true := by decide +kernel
theorem g_0_1_3_10 : gs 0 1 3 [12] = true := by decide +kernel
theorem g_0_1_3_8 : gs 0 1 3 [10] = true := by decide +kernel
theorem g_0_1_4_2 : gs 0 1 4 [10, 11, 12, 13, 14, 15] = true := by decide +kernel
theorem g_0_1_5_1 : gs 0 1 5 [5, 6, 7, 8, 9] = true := by decide +kernel
theorem g_0_1_6_4 : gs 0 1 6 [9] = true := by decide +kernel
theorem g_0_2_3_6 : gs 0 2 3 [8] = true := by decide +kernel
theorem g_0_2_5_10 : gs 0 2 5 [14] = true := by decide +kernel
theorem g_0_2_5_11 : gs 0 2 5 [15] = true := by decide +kernel
theorem g_0_2_5_2 : gs 0 2 5 [6] = true := by decide +kernel
theorem g_0_2_5_3 : gs 0 2 5 [7] = true := by decide +kernel
theorem g_0_2_7_2 : gs 0 2 7 [12, 13, 14, 15] = true := by decide +kernel
theorem g_1_2_3_2 : gs 1 2 3 [9, 10, 11, 12, 13, 14, 15] = true := by decide +kernel
theorem g_1_2_6_7 : gs 1 2 6 [12] = true := by decide +kernel
theorem g_1_3_4_1 : gs 1 3 4 [4, 5, 6, 7, 8, 9] = true := by decide +kernel
theorem g_1_3_4_2 : gs 1 3 4 [10, 11, 12, 13, 14, 15] = true := by decide +kernel
end Tt
end Peb
end Go.Proofs.Ytapgpjhogdmjbaa
