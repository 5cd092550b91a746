/-
  Reversible pebbling: part 5 of the check of all graphs of six nodes with ascending masks, reckoned by the kernel. No condition.
-/
import Derived.Test.YtapgpjhogdmjbaaRevG
namespace Go.Proofs.Ytapgpjhogdmjbaa
namespace Peb
namespace Tt
set_option maxRecDepth 100000
theorem g_0_0_0_2 : gs 0 0 0 [7, 8, 9, 10, 11, 12, 13, 14, 15] = true := by decide +kernel
theorem g_0_1_2_1 : gs 0 1 2 [2] = true := by decide +kernel
theorem g_0_1_2_12 : gs 0 1 2 [13] = true := by decide +kernel
theorem g_0_1_2_4 : gs 0 1 2 [5] = true := by decide +kernel
theorem g_0_1_2_8 : gs 0 1 2 [9] = true := by decide +kernel
theorem g_0_1_3_6 : gs 0 1 3 [8] = true := by decide +kernel
theorem g_0_1_5_2 : gs 0 1 5 [10, 11, 12, 13, 14, 15] = true := by decide +kernel
theorem g_0_1_6_10 : gs 0 1 6 [15] = true := by decide +kernel
theorem g_0_1_6_2 : gs 0 1 6 [7] = true := by decide +kernel
theorem g_0_1_6_6 : gs 0 1 6 [11] = true := by decide +kernel
theorem g_0_2_7_1 : gs 0 2 7 [7, 8, 9, 10, 11] = true := by decide +kernel
theorem g_0_3_3_1 : gs 0 3 3 [3, 4, 5, 6, 7, 8] = true := by decide +kernel
theorem g_0_3_5_1 : gs 0 3 5 [5, 6, 7, 8, 9] = true := by decide +kernel
theorem g_1_1_1_2 : gs 1 1 1 [8, 9, 10, 11, 12, 13, 14, 15] = true := by decide +kernel
theorem g_1_1_7_2 : gs 1 1 7 [12, 13, 14, 15] = true := by decide +kernel
theorem g_1_2_4_2 : gs 1 2 4 [5] = true := by decide +kernel
theorem g_1_2_6_6 : gs 1 2 6 [11] = true := by decide +kernel
theorem g_1_2_6_8 : gs 1 2 6 [13] = true := by decide +kernel
theorem g_1_3_3_2 : gs 1 3 3 [9, 10, 11, 12, 13, 14, 15] = true := by decide +kernel
theorem g_1_3_5_2 : gs 1 3 5 [10, 11, 12, 13, 14, 15] = true := by decide +kernel
end Tt
end Peb
end Go.Proofs.Ytapgpjhogdmjbaa
