/-
  Reversible pebbling: part 6 of the check of all graphs of six nodes with ascending masks, reckoned by the kernel. No condition.
-/
import Derived.Test.YtapgpjhogdmjbaaRevG
namespace Go.Proofs.Ytapgpjhogdmjbaa
namespace Peb
namespace Tt
set_option maxRecDepth 100000
theorem g_0_0_2_1 : gs 0 0 2 [2, 3, 4, 5, 6, 7] = true := by decide +kernel
theorem g_0_0_4_1 : gs 0 0 4 [4, 5, 6, 7, 8, 9] = true := by decide +kernel
theorem g_0_0_6_1 : gs 0 0 6 [6, 7, 8, 9, 10] = true := by decide +kernel
theorem g_0_0_7_2 : gs 0 0 7 [12, 13, 14, 15] = true := by decide +kernel
theorem g_0_1_2_6 : gs 0 1 2 [7] = true := by decide +kernel
theorem g_0_1_3_13 : gs 0 1 3 [15] = true := by decide +kernel
theorem g_0_1_3_4 : gs 0 1 3 [6] = true := by decide +kernel
theorem g_0_1_6_9 : gs 0 1 6 [14] = true := by decide +kernel
theorem g_0_2_3_11 : gs 0 2 3 [13] = true := by decide +kernel
theorem g_0_2_4_2 : gs 0 2 4 [10, 11, 12, 13, 14, 15] = true := by decide +kernel
theorem g_0_2_5_8 : gs 0 2 5 [12] = true := by decide +kernel
theorem g_0_3_7_1 : gs 0 3 7 [7, 8, 9, 10, 11] = true := by decide +kernel
theorem g_1_1_3_1 : gs 1 1 3 [3, 4, 5, 6, 7, 8] = true := by decide +kernel
theorem g_1_1_5_1 : gs 1 1 5 [5, 6, 7, 8, 9] = true := by decide +kernel
theorem g_1_2_2_1 : gs 1 2 2 [2, 3, 4, 5, 6, 7] = true := by decide +kernel
theorem g_1_2_4_8 : gs 1 2 4 [11] = true := by decide +kernel
theorem g_1_2_6_4 : gs 1 2 6 [9] = true := by decide +kernel
theorem g_1_2_6_5 : gs 1 2 6 [10] = true := by decide +kernel
theorem g_1_2_7_2 : gs 1 2 7 [12, 13, 14, 15] = true := by decide +kernel
end Tt
end Peb
end Go.Proofs.Ytapgpjhogdmjbaa
