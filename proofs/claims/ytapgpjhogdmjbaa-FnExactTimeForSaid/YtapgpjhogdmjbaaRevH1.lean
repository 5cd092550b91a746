/-
  Reversible pebbling: part 1 of the check of all graphs of six nodes with ascending masks, reckoned by the kernel. No condition.
-/
import Derived.Test.YtapgpjhogdmjbaaRevG
namespace Go.Proofs.Ytapgpjhogdmjbaa
namespace Peb
namespace Tt
set_option maxRecDepth 100000
theorem g_0_0_0_1 : gs 0 0 0 [0, 1, 2, 3, 4, 5, 6] = true := by decide +kernel
theorem g_0_0_1_2 : gs 0 0 1 [8, 9, 10, 11, 12, 13, 14, 15] = true := by decide +kernel
theorem g_0_0_3_2 : gs 0 0 3 [9, 10, 11, 12, 13, 14, 15] = true := by decide +kernel
theorem g_0_1_3_2 : gs 0 1 3 [4] = true := by decide +kernel
theorem g_0_1_3_9 : gs 0 1 3 [11] = true := by decide +kernel
theorem g_0_1_7_1 : gs 0 1 7 [7, 8, 9, 10, 11] = true := by decide +kernel
theorem g_0_2_3_1 : gs 0 2 3 [3] = true := by decide +kernel
theorem g_0_2_3_8 : gs 0 2 3 [10] = true := by decide +kernel
theorem g_0_2_5_5 : gs 0 2 5 [9] = true := by decide +kernel
theorem g_0_3_4_1 : gs 0 3 4 [4, 5, 6, 7, 8, 9] = true := by decide +kernel
theorem g_0_3_7_2 : gs 0 3 7 [12, 13, 14, 15] = true := by decide +kernel
theorem g_1_1_4_2 : gs 1 1 4 [10, 11, 12, 13, 14, 15] = true := by decide +kernel
theorem g_1_1_6_1 : gs 1 1 6 [6, 7, 8, 9, 10] = true := by decide +kernel
theorem g_1_2_4_10 : gs 1 2 4 [13] = true := by decide +kernel
theorem g_1_2_4_5 : gs 1 2 4 [8] = true := by decide +kernel
theorem g_1_2_6_1 : gs 1 2 6 [6] = true := by decide +kernel
theorem g_1_2_6_10 : gs 1 2 6 [15] = true := by decide +kernel
theorem g_1_2_6_2 : gs 1 2 6 [7] = true := by decide +kernel
theorem g_1_2_6_9 : gs 1 2 6 [14] = true := by decide +kernel
theorem g_1_3_7_1 : gs 1 3 7 [7, 8, 9, 10, 11] = true := by decide +kernel
end Tt
end Peb
end Go.Proofs.Ytapgpjhogdmjbaa
