/-
  Reversible pebbling: part 7 of the check of all graphs of six nodes with ascending masks, reckoned by the kernel. No condition.
-/
import Derived.Test.YtapgpjhogdmjbaaRevG
namespace Go.Proofs.Ytapgpjhogdmjbaa
namespace Peb
namespace Tt
set_option maxRecDepth 100000
theorem g_0_0_6_2 : gs 0 0 6 [11, 12, 13, 14, 15] = true := by decide +kernel
theorem g_0_1_2_14 : gs 0 1 2 [15] = true := by decide +kernel
theorem g_0_1_2_5 : gs 0 1 2 [6] = true := by decide +kernel
theorem g_0_1_3_12 : gs 0 1 3 [14] = true := by decide +kernel
theorem g_0_1_3_3 : gs 0 1 3 [5] = true := by decide +kernel
theorem g_0_1_6_8 : gs 0 1 6 [13] = true := by decide +kernel
theorem g_0_2_3_10 : gs 0 2 3 [12] = true := by decide +kernel
theorem g_0_2_3_2 : gs 0 2 3 [4] = true := by decide +kernel
theorem g_0_2_4_1 : gs 0 2 4 [4, 5, 6, 7, 8, 9] = true := by decide +kernel
theorem g_0_2_5_7 : gs 0 2 5 [11] = true := by decide +kernel
theorem g_0_3_5_2 : gs 0 3 5 [10, 11, 12, 13, 14, 15] = true := by decide +kernel
theorem g_0_3_6_1 : gs 0 3 6 [6, 7, 8, 9, 10] = true := by decide +kernel
theorem g_1_1_2_1 : gs 1 1 2 [2, 3, 4, 5, 6, 7] = true := by decide +kernel
theorem g_1_2_2_2 : gs 1 2 2 [8, 9, 10, 11, 12, 13, 14, 15] = true := by decide +kernel
theorem g_1_2_4_6 : gs 1 2 4 [9] = true := by decide +kernel
theorem g_1_2_4_7 : gs 1 2 4 [10] = true := by decide +kernel
theorem g_1_2_6_3 : gs 1 2 6 [8] = true := by decide +kernel
theorem g_1_2_7_1 : gs 1 2 7 [7, 8, 9, 10, 11] = true := by decide +kernel
theorem g_1_3_3_1 : gs 1 3 3 [3, 4, 5, 6, 7, 8] = true := by decide +kernel
theorem g_1_3_5_1 : gs 1 3 5 [5, 6, 7, 8, 9] = true := by decide +kernel
end Tt
end Peb
end Go.Proofs.Ytapgpjhogdmjbaa
