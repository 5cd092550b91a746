/-
  Reversible pebbling: part 8 of the check of all graphs of six nodes with ascending masks, reckoned by the kernel. No condition.
-/
import Derived.Test.YtapgpjhogdmjbaaRevG
namespace Go.Proofs.Ytapgpjhogdmjbaa
namespace Peb
namespace Tt
set_option maxRecDepth 100000
theorem g_0_1_2_13 : gs 0 1 2 [14] = true := by decide +kernel
theorem g_0_1_2_7 : gs 0 1 2 [8] = true := by decide +kernel
theorem g_0_1_3_11 : gs 0 1 3 [13] = true := by decide +kernel
theorem g_0_1_3_5 : gs 0 1 3 [7] = true := by decide +kernel
theorem g_0_1_4_1 : gs 0 1 4 [4, 5, 6, 7, 8, 9] = true := by decide +kernel
theorem g_0_1_6_1 : gs 0 1 6 [6] = true := by decide +kernel
theorem g_0_1_6_7 : gs 0 1 6 [12] = true := by decide +kernel
theorem g_0_1_7_2 : gs 0 1 7 [12, 13, 14, 15] = true := by decide +kernel
theorem g_0_2_2_1 : gs 0 2 2 [2, 3, 4, 5, 6, 7] = true := by decide +kernel
theorem g_0_2_3_9 : gs 0 2 3 [11] = true := by decide +kernel
theorem g_0_2_5_6 : gs 0 2 5 [10] = true := by decide +kernel
theorem g_0_2_6_1 : gs 0 2 6 [6, 7, 8, 9, 10] = true := by decide +kernel
theorem g_0_3_4_2 : gs 0 3 4 [10, 11, 12, 13, 14, 15] = true := by decide +kernel
theorem g_1_1_2_2 : gs 1 1 2 [8, 9, 10, 11, 12, 13, 14, 15] = true := by decide +kernel
theorem g_1_1_7_1 : gs 1 1 7 [7, 8, 9, 10, 11] = true := by decide +kernel
theorem g_1_2_3_1 : gs 1 2 3 [3, 4, 5, 6, 7, 8] = true := by decide +kernel
theorem g_1_2_5_1 : gs 1 2 5 [5, 6, 7, 8, 9] = true := by decide +kernel
theorem g_1_3_7_2 : gs 1 3 7 [12, 13, 14, 15] = true := by decide +kernel
end Tt
end Peb
end Go.Proofs.Ytapgpjhogdmjbaa
