/-
  Reversible pebbling: part 4 of the check of all graphs of six nodes with ascending masks, reckoned by the kernel. No condition.
-/
import Derived.Test.YtapgpjhogdmjbaaRevG
namespace Go.Proofs.Ytapgpjhogdmjbaa
namespace Peb
namespace Tt
set_option maxRecDepth 100000
theorem g_0_0_1_1 : gs 0 0 1 [1, 2, 3, 4, 5, 6, 7] = true := by decide +kernel
theorem g_0_0_2_2 : gs 0 0 2 [8, 9, 10, 11, 12, 13, 14, 15] = true := by decide +kernel
theorem g_0_0_5_1 : gs 0 0 5 [5, 6, 7, 8, 9] = true := by decide +kernel
theorem g_0_0_5_2 : gs 0 0 5 [10, 11, 12, 13, 14, 15] = true := by decide +kernel
theorem g_0_1_2_11 : gs 0 1 2 [12] = true := by decide +kernel
theorem g_0_1_2_2 : gs 0 1 2 [3] = true := by decide +kernel
theorem g_0_1_2_9 : gs 0 1 2 [10] = true := by decide +kernel
theorem g_0_1_3_7 : gs 0 1 3 [9] = true := by decide +kernel
theorem g_0_1_6_3 : gs 0 1 6 [8] = true := by decide +kernel
theorem g_0_2_3_12 : gs 0 2 3 [14] = true := by decide +kernel
theorem g_0_2_3_13 : gs 0 2 3 [15] = true := by decide +kernel
theorem g_0_2_3_3 : gs 0 2 3 [5] = true := by decide +kernel
theorem g_0_2_3_4 : gs 0 2 3 [6] = true := by decide +kernel
theorem g_0_2_3_5 : gs 0 2 3 [7] = true := by decide +kernel
theorem g_0_3_6_2 : gs 0 3 6 [11, 12, 13, 14, 15] = true := by decide +kernel
theorem g_1_1_3_2 : gs 1 1 3 [9, 10, 11, 12, 13, 14, 15] = true := by decide +kernel
theorem g_1_1_4_1 : gs 1 1 4 [4, 5, 6, 7, 8, 9] = true := by decide +kernel
theorem g_1_2_4_9 : gs 1 2 4 [12] = true := by decide +kernel
theorem g_1_2_5_2 : gs 1 2 5 [10, 11, 12, 13, 14, 15] = true := by decide +kernel
theorem g_1_3_6_2 : gs 1 3 6 [11, 12, 13, 14, 15] = true := by decide +kernel
end Tt
end Peb
end Go.Proofs.Ytapgpjhogdmjbaa
