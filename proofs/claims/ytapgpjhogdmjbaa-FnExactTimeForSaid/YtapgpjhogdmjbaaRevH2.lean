/-
  Reversible pebbling: part 2 of the check of all graphs of six nodes with ascending masks, reckoned by the kernel. No condition.
-/
import Derived.Test.YtapgpjhogdmjbaaRevG
namespace Go.Proofs.Ytapgpjhogdmjbaa
namespace Peb
namespace Tt
set_option maxRecDepth 100000
theorem g_0_0_3_1 : gs 0 0 3 [3, 4, 5, 6, 7, 8] = true := by decide +kernel
theorem g_0_0_4_2 : gs 0 0 4 [10, 11, 12, 13, 14, 15] = true := by decide +kernel
theorem g_0_1_2_10 : gs 0 1 2 [11] = true := by decide +kernel
theorem g_0_1_6_5 : gs 0 1 6 [10] = true := by decide +kernel
theorem g_0_2_2_2 : gs 0 2 2 [8, 9, 10, 11, 12, 13, 14, 15] = true := by decide +kernel
theorem g_0_2_3_7 : gs 0 2 3 [9] = true := by decide +kernel
theorem g_0_2_5_1 : gs 0 2 5 [5] = true := by decide +kernel
theorem g_0_2_5_4 : gs 0 2 5 [8] = true := by decide +kernel
theorem g_0_2_5_9 : gs 0 2 5 [13] = true := by decide +kernel
theorem g_0_2_6_2 : gs 0 2 6 [11, 12, 13, 14, 15] = true := by decide +kernel
theorem g_0_3_3_2 : gs 0 3 3 [9, 10, 11, 12, 13, 14, 15] = true := by decide +kernel
theorem g_1_1_1_1 : gs 1 1 1 [1, 2, 3, 4, 5, 6, 7] = true := by decide +kernel
theorem g_1_1_5_2 : gs 1 1 5 [10, 11, 12, 13, 14, 15] = true := by decide +kernel
theorem g_1_1_6_2 : gs 1 1 6 [11, 12, 13, 14, 15] = true := by decide +kernel
theorem g_1_2_4_1 : gs 1 2 4 [4] = true := by decide +kernel
theorem g_1_2_4_11 : gs 1 2 4 [14] = true := by decide +kernel
theorem g_1_2_4_12 : gs 1 2 4 [15] = true := by decide +kernel
theorem g_1_2_4_3 : gs 1 2 4 [6] = true := by decide +kernel
theorem g_1_2_4_4 : gs 1 2 4 [7] = true := by decide +kernel
theorem g_1_3_6_1 : gs 1 3 6 [6, 7, 8, 9, 10] = true := by decide +kernel
end Tt
end Peb
end Go.Proofs.Ytapgpjhogdmjbaa
