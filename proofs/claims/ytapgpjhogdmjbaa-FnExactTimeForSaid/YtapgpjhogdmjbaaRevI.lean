/-
  Reversible pebbling: nine nodes, any number of pebbles: every reachable position is reached in 149 moves. Condition: forerunners are smaller.
-/
import Derived.Test.YtapgpjhogdmjbaaRevH1
import Derived.Test.YtapgpjhogdmjbaaRevH2
import Derived.Test.YtapgpjhogdmjbaaRevH3
import Derived.Test.YtapgpjhogdmjbaaRevH4
import Derived.Test.YtapgpjhogdmjbaaRevH5
import Derived.Test.YtapgpjhogdmjbaaRevH6
import Derived.Test.YtapgpjhogdmjbaaRevH7
import Derived.Test.YtapgpjhogdmjbaaRevH8
namespace Go.Proofs.Ytapgpjhogdmjbaa
namespace Peb
namespace Tt
theorem gg_0_0_0 {d e : Nat} (hc : 0 ≤ d) (hd : d < 16) (he : d ≤ e) (h32 : e < 32) : chk [0, 0, 0, 0, d, e] e = true := by
  have hm : ∀ d : Fin 16, 0 ≤ d.1 → d.1 ∈ [0, 1, 2, 3, 4, 5, 6] ∨ d.1 ∈ [7, 8, 9, 10, 11, 12, 13, 14, 15] := by decide
  rcases hm ⟨d, hd⟩ hc with h | h
  · exact gs_ok g_0_0_0_1 h hc he h32
  · exact gs_ok g_0_0_0_2 h hc he h32
theorem gg_0_0_1 {d e : Nat} (hc : 1 ≤ d) (hd : d < 16) (he : d ≤ e) (h32 : e < 32) : chk [0, 0, 0, 1, d, e] e = true := by
  have hm : ∀ d : Fin 16, 1 ≤ d.1 → d.1 ∈ [1, 2, 3, 4, 5, 6, 7] ∨ d.1 ∈ [8, 9, 10, 11, 12, 13, 14, 15] := by decide
  rcases hm ⟨d, hd⟩ hc with h | h
  · exact gs_ok g_0_0_1_1 h hc he h32
  · exact gs_ok g_0_0_1_2 h hc he h32
theorem gg_0_0_2 {d e : Nat} (hc : 2 ≤ d) (hd : d < 16) (he : d ≤ e) (h32 : e < 32) : chk [0, 0, 0, 2, d, e] e = true := by
  have hm : ∀ d : Fin 16, 2 ≤ d.1 → d.1 ∈ [2, 3, 4, 5, 6, 7] ∨ d.1 ∈ [8, 9, 10, 11, 12, 13, 14, 15] := by decide
  rcases hm ⟨d, hd⟩ hc with h | h
  · exact gs_ok g_0_0_2_1 h hc he h32
  · exact gs_ok g_0_0_2_2 h hc he h32
theorem gg_0_0_3 {d e : Nat} (hc : 3 ≤ d) (hd : d < 16) (he : d ≤ e) (h32 : e < 32) : chk [0, 0, 0, 3, d, e] e = true := by
  have hm : ∀ d : Fin 16, 3 ≤ d.1 → d.1 ∈ [3, 4, 5, 6, 7, 8] ∨ d.1 ∈ [9, 10, 11, 12, 13, 14, 15] := by decide
  rcases hm ⟨d, hd⟩ hc with h | h
  · exact gs_ok g_0_0_3_1 h hc he h32
  · exact gs_ok g_0_0_3_2 h hc he h32
theorem gg_0_0_4 {d e : Nat} (hc : 4 ≤ d) (hd : d < 16) (he : d ≤ e) (h32 : e < 32) : chk [0, 0, 0, 4, d, e] e = true := by
  have hm : ∀ d : Fin 16, 4 ≤ d.1 → d.1 ∈ [4, 5, 6, 7, 8, 9] ∨ d.1 ∈ [10, 11, 12, 13, 14, 15] := by decide
  rcases hm ⟨d, hd⟩ hc with h | h
  · exact gs_ok g_0_0_4_1 h hc he h32
  · exact gs_ok g_0_0_4_2 h hc he h32
theorem gg_0_0_5 {d e : Nat} (hc : 5 ≤ d) (hd : d < 16) (he : d ≤ e) (h32 : e < 32) : chk [0, 0, 0, 5, d, e] e = true := by
  have hm : ∀ d : Fin 16, 5 ≤ d.1 → d.1 ∈ [5, 6, 7, 8, 9] ∨ d.1 ∈ [10, 11, 12, 13, 14, 15] := by decide
  rcases hm ⟨d, hd⟩ hc with h | h
  · exact gs_ok g_0_0_5_1 h hc he h32
  · exact gs_ok g_0_0_5_2 h hc he h32
theorem gg_0_0_6 {d e : Nat} (hc : 6 ≤ d) (hd : d < 16) (he : d ≤ e) (h32 : e < 32) : chk [0, 0, 0, 6, d, e] e = true := by
  have hm : ∀ d : Fin 16, 6 ≤ d.1 → d.1 ∈ [6, 7, 8, 9, 10] ∨ d.1 ∈ [11, 12, 13, 14, 15] := by decide
  rcases hm ⟨d, hd⟩ hc with h | h
  · exact gs_ok g_0_0_6_1 h hc he h32
  · exact gs_ok g_0_0_6_2 h hc he h32
theorem gg_0_0_7 {d e : Nat} (hc : 7 ≤ d) (hd : d < 16) (he : d ≤ e) (h32 : e < 32) : chk [0, 0, 0, 7, d, e] e = true := by
  have hm : ∀ d : Fin 16, 7 ≤ d.1 → d.1 ∈ [7, 8, 9, 10, 11] ∨ d.1 ∈ [12, 13, 14, 15] := by decide
  rcases hm ⟨d, hd⟩ hc with h | h
  · exact gs_ok g_0_0_7_1 h hc he h32
  · exact gs_ok g_0_0_7_2 h hc he h32
theorem gg_0_1_1 {d e : Nat} (hc : 1 ≤ d) (hd : d < 16) (he : d ≤ e) (h32 : e < 32) : chk [0, 0, 1, 1, d, e] e = true := by
  have hm : ∀ d : Fin 16, 1 ≤ d.1 → d.1 ∈ [1, 2, 3, 4, 5, 6, 7] ∨ d.1 ∈ [8, 9, 10, 11, 12, 13, 14, 15] := by decide
  rcases hm ⟨d, hd⟩ hc with h | h
  · exact gs_ok g_0_1_1_1 h hc he h32
  · exact gs_ok g_0_1_1_2 h hc he h32
theorem gg_0_1_2 {d e : Nat} (hc : 2 ≤ d) (hd : d < 16) (he : d ≤ e) (h32 : e < 32) : chk [0, 0, 1, 2, d, e] e = true := by
  have hm : ∀ d : Fin 16, 2 ≤ d.1 → d.1 ∈ [2] ∨ d.1 ∈ [3] ∨ d.1 ∈ [4] ∨ d.1 ∈ [5] ∨ d.1 ∈ [6] ∨ d.1 ∈ [7] ∨ d.1 ∈ [8] ∨ d.1 ∈ [9] ∨ d.1 ∈ [10] ∨ d.1 ∈ [11] ∨ d.1 ∈ [12] ∨ d.1 ∈ [13] ∨ d.1 ∈ [14] ∨ d.1 ∈ [15] := by decide
  rcases hm ⟨d, hd⟩ hc with h | h | h | h | h | h | h | h | h | h | h | h | h | h
  · exact gs_ok g_0_1_2_1 h hc he h32
  · exact gs_ok g_0_1_2_2 h hc he h32
  · exact gs_ok g_0_1_2_3 h hc he h32
  · exact gs_ok g_0_1_2_4 h hc he h32
  · exact gs_ok g_0_1_2_5 h hc he h32
  · exact gs_ok g_0_1_2_6 h hc he h32
  · exact gs_ok g_0_1_2_7 h hc he h32
  · exact gs_ok g_0_1_2_8 h hc he h32
  · exact gs_ok g_0_1_2_9 h hc he h32
  · exact gs_ok g_0_1_2_10 h hc he h32
  · exact gs_ok g_0_1_2_11 h hc he h32
  · exact gs_ok g_0_1_2_12 h hc he h32
  · exact gs_ok g_0_1_2_13 h hc he h32
  · exact gs_ok g_0_1_2_14 h hc he h32
theorem gg_0_1_3 {d e : Nat} (hc : 3 ≤ d) (hd : d < 16) (he : d ≤ e) (h32 : e < 32) : chk [0, 0, 1, 3, d, e] e = true := by
  have hm : ∀ d : Fin 16, 3 ≤ d.1 → d.1 ∈ [3] ∨ d.1 ∈ [4] ∨ d.1 ∈ [5] ∨ d.1 ∈ [6] ∨ d.1 ∈ [7] ∨ d.1 ∈ [8] ∨ d.1 ∈ [9] ∨ d.1 ∈ [10] ∨ d.1 ∈ [11] ∨ d.1 ∈ [12] ∨ d.1 ∈ [13] ∨ d.1 ∈ [14] ∨ d.1 ∈ [15] := by decide
  rcases hm ⟨d, hd⟩ hc with h | h | h | h | h | h | h | h | h | h | h | h | h
  · exact gs_ok g_0_1_3_1 h hc he h32
  · exact gs_ok g_0_1_3_2 h hc he h32
  · exact gs_ok g_0_1_3_3 h hc he h32
  · exact gs_ok g_0_1_3_4 h hc he h32
  · exact gs_ok g_0_1_3_5 h hc he h32
  · exact gs_ok g_0_1_3_6 h hc he h32
  · exact gs_ok g_0_1_3_7 h hc he h32
  · exact gs_ok g_0_1_3_8 h hc he h32
  · exact gs_ok g_0_1_3_9 h hc he h32
  · exact gs_ok g_0_1_3_10 h hc he h32
  · exact gs_ok g_0_1_3_11 h hc he h32
  · exact gs_ok g_0_1_3_12 h hc he h32
  · exact gs_ok g_0_1_3_13 h hc he h32
theorem gg_0_1_4 {d e : Nat} (hc : 4 ≤ d) (hd : d < 16) (he : d ≤ e) (h32 : e < 32) : chk [0, 0, 1, 4, d, e] e = true := by
  have hm : ∀ d : Fin 16, 4 ≤ d.1 → d.1 ∈ [4, 5, 6, 7, 8, 9] ∨ d.1 ∈ [10, 11, 12, 13, 14, 15] := by decide
  rcases hm ⟨d, hd⟩ hc with h | h
  · exact gs_ok g_0_1_4_1 h hc he h32
  · exact gs_ok g_0_1_4_2 h hc he h32
theorem gg_0_1_5 {d e : Nat} (hc : 5 ≤ d) (hd : d < 16) (he : d ≤ e) (h32 : e < 32) : chk [0, 0, 1, 5, d, e] e = true := by
  have hm : ∀ d : Fin 16, 5 ≤ d.1 → d.1 ∈ [5, 6, 7, 8, 9] ∨ d.1 ∈ [10, 11, 12, 13, 14, 15] := by decide
  rcases hm ⟨d, hd⟩ hc with h | h
  · exact gs_ok g_0_1_5_1 h hc he h32
  · exact gs_ok g_0_1_5_2 h hc he h32
theorem gg_0_1_6 {d e : Nat} (hc : 6 ≤ d) (hd : d < 16) (he : d ≤ e) (h32 : e < 32) : chk [0, 0, 1, 6, d, e] e = true := by
  have hm : ∀ d : Fin 16, 6 ≤ d.1 → d.1 ∈ [6] ∨ d.1 ∈ [7] ∨ d.1 ∈ [8] ∨ d.1 ∈ [9] ∨ d.1 ∈ [10] ∨ d.1 ∈ [11] ∨ d.1 ∈ [12] ∨ d.1 ∈ [13] ∨ d.1 ∈ [14] ∨ d.1 ∈ [15] := by decide
  rcases hm ⟨d, hd⟩ hc with h | h | h | h | h | h | h | h | h | h
  · exact gs_ok g_0_1_6_1 h hc he h32
  · exact gs_ok g_0_1_6_2 h hc he h32
  · exact gs_ok g_0_1_6_3 h hc he h32
  · exact gs_ok g_0_1_6_4 h hc he h32
  · exact gs_ok g_0_1_6_5 h hc he h32
  · exact gs_ok g_0_1_6_6 h hc he h32
  · exact gs_ok g_0_1_6_7 h hc he h32
  · exact gs_ok g_0_1_6_8 h hc he h32
  · exact gs_ok g_0_1_6_9 h hc he h32
  · exact gs_ok g_0_1_6_10 h hc he h32
theorem gg_0_1_7 {d e : Nat} (hc : 7 ≤ d) (hd : d < 16) (he : d ≤ e) (h32 : e < 32) : chk [0, 0, 1, 7, d, e] e = true := by
  have hm : ∀ d : Fin 16, 7 ≤ d.1 → d.1 ∈ [7, 8, 9, 10, 11] ∨ d.1 ∈ [12, 13, 14, 15] := by decide
  rcases hm ⟨d, hd⟩ hc with h | h
  · exact gs_ok g_0_1_7_1 h hc he h32
  · exact gs_ok g_0_1_7_2 h hc he h32
theorem gg_0_2_2 {d e : Nat} (hc : 2 ≤ d) (hd : d < 16) (he : d ≤ e) (h32 : e < 32) : chk [0, 0, 2, 2, d, e] e = true := by
  have hm : ∀ d : Fin 16, 2 ≤ d.1 → d.1 ∈ [2, 3, 4, 5, 6, 7] ∨ d.1 ∈ [8, 9, 10, 11, 12, 13, 14, 15] := by decide
  rcases hm ⟨d, hd⟩ hc with h | h
  · exact gs_ok g_0_2_2_1 h hc he h32
  · exact gs_ok g_0_2_2_2 h hc he h32
theorem gg_0_2_3 {d e : Nat} (hc : 3 ≤ d) (hd : d < 16) (he : d ≤ e) (h32 : e < 32) : chk [0, 0, 2, 3, d, e] e = true := by
  have hm : ∀ d : Fin 16, 3 ≤ d.1 → d.1 ∈ [3] ∨ d.1 ∈ [4] ∨ d.1 ∈ [5] ∨ d.1 ∈ [6] ∨ d.1 ∈ [7] ∨ d.1 ∈ [8] ∨ d.1 ∈ [9] ∨ d.1 ∈ [10] ∨ d.1 ∈ [11] ∨ d.1 ∈ [12] ∨ d.1 ∈ [13] ∨ d.1 ∈ [14] ∨ d.1 ∈ [15] := by decide
  rcases hm ⟨d, hd⟩ hc with h | h | h | h | h | h | h | h | h | h | h | h | h
  · exact gs_ok g_0_2_3_1 h hc he h32
  · exact gs_ok g_0_2_3_2 h hc he h32
  · exact gs_ok g_0_2_3_3 h hc he h32
  · exact gs_ok g_0_2_3_4 h hc he h32
  · exact gs_ok g_0_2_3_5 h hc he h32
  · exact gs_ok g_0_2_3_6 h hc he h32
  · exact gs_ok g_0_2_3_7 h hc he h32
  · exact gs_ok g_0_2_3_8 h hc he h32
  · exact gs_ok g_0_2_3_9 h hc he h32
  · exact gs_ok g_0_2_3_10 h hc he h32
  · exact gs_ok g_0_2_3_11 h hc he h32
  · exact gs_ok g_0_2_3_12 h hc he h32
  · exact gs_ok g_0_2_3_13 h hc he h32
theorem gg_0_2_4 {d e : Nat} (hc : 4 ≤ d) (hd : d < 16) (he : d ≤ e) (h32 : e < 32) : chk [0, 0, 2, 4, d, e] e = true := by
  have hm : ∀ d : Fin 16, 4 ≤ d.1 → d.1 ∈ [4, 5, 6, 7, 8, 9] ∨ d.1 ∈ [10, 11, 12, 13, 14, 15] := by decide
  rcases hm ⟨d, hd⟩ hc with h | h
  · exact gs_ok g_0_2_4_1 h hc he h32
  · exact gs_ok g_0_2_4_2 h hc he h32
theorem gg_0_2_5 {d e : Nat} (hc : 5 ≤ d) (hd : d < 16) (he : d ≤ e) (h32 : e < 32) : chk [0, 0, 2, 5, d, e] e = true := by
  have hm : ∀ d : Fin 16, 5 ≤ d.1 → d.1 ∈ [5] ∨ d.1 ∈ [6] ∨ d.1 ∈ [7] ∨ d.1 ∈ [8] ∨ d.1 ∈ [9] ∨ d.1 ∈ [10] ∨ d.1 ∈ [11] ∨ d.1 ∈ [12] ∨ d.1 ∈ [13] ∨ d.1 ∈ [14] ∨ d.1 ∈ [15] := by decide
  rcases hm ⟨d, hd⟩ hc with h | h | h | h | h | h | h | h | h | h | h
  · exact gs_ok g_0_2_5_1 h hc he h32
  · exact gs_ok g_0_2_5_2 h hc he h32
  · exact gs_ok g_0_2_5_3 h hc he h32
  · exact gs_ok g_0_2_5_4 h hc he h32
  · exact gs_ok g_0_2_5_5 h hc he h32
  · exact gs_ok g_0_2_5_6 h hc he h32
  · exact gs_ok g_0_2_5_7 h hc he h32
  · exact gs_ok g_0_2_5_8 h hc he h32
  · exact gs_ok g_0_2_5_9 h hc he h32
  · exact gs_ok g_0_2_5_10 h hc he h32
  · exact gs_ok g_0_2_5_11 h hc he h32
theorem gg_0_2_6 {d e : Nat} (hc : 6 ≤ d) (hd : d < 16) (he : d ≤ e) (h32 : e < 32) : chk [0, 0, 2, 6, d, e] e = true := by
  have hm : ∀ d : Fin 16, 6 ≤ d.1 → d.1 ∈ [6, 7, 8, 9, 10] ∨ d.1 ∈ [11, 12, 13, 14, 15] := by decide
  rcases hm ⟨d, hd⟩ hc with h | h
  · exact gs_ok g_0_2_6_1 h hc he h32
  · exact gs_ok g_0_2_6_2 h hc he h32
theorem gg_0_2_7 {d e : Nat} (hc : 7 ≤ d) (hd : d < 16) (he : d ≤ e) (h32 : e < 32) : chk [0, 0, 2, 7, d, e] e = true := by
  have hm : ∀ d : Fin 16, 7 ≤ d.1 → d.1 ∈ [7, 8, 9, 10, 11] ∨ d.1 ∈ [12, 13, 14, 15] := by decide
  rcases hm ⟨d, hd⟩ hc with h | h
  · exact gs_ok g_0_2_7_1 h hc he h32
  · exact gs_ok g_0_2_7_2 h hc he h32
theorem gg_0_3_3 {d e : Nat} (hc : 3 ≤ d) (hd : d < 16) (he : d ≤ e) (h32 : e < 32) : chk [0, 0, 3, 3, d, e] e = true := by
  have hm : ∀ d : Fin 16, 3 ≤ d.1 → d.1 ∈ [3, 4, 5, 6, 7, 8] ∨ d.1 ∈ [9, 10, 11, 12, 13, 14, 15] := by decide
  rcases hm ⟨d, hd⟩ hc with h | h
  · exact gs_ok g_0_3_3_1 h hc he h32
  · exact gs_ok g_0_3_3_2 h hc he h32
theorem gg_0_3_4 {d e : Nat} (hc : 4 ≤ d) (hd : d < 16) (he : d ≤ e) (h32 : e < 32) : chk [0, 0, 3, 4, d, e] e = true := by
  have hm : ∀ d : Fin 16, 4 ≤ d.1 → d.1 ∈ [4, 5, 6, 7, 8, 9] ∨ d.1 ∈ [10, 11, 12, 13, 14, 15] := by decide
  rcases hm ⟨d, hd⟩ hc with h | h
  · exact gs_ok g_0_3_4_1 h hc he h32
  · exact gs_ok g_0_3_4_2 h hc he h32
theorem gg_0_3_5 {d e : Nat} (hc : 5 ≤ d) (hd : d < 16) (he : d ≤ e) (h32 : e < 32) : chk [0, 0, 3, 5, d, e] e = true := by
  have hm : ∀ d : Fin 16, 5 ≤ d.1 → d.1 ∈ [5, 6, 7, 8, 9] ∨ d.1 ∈ [10, 11, 12, 13, 14, 15] := by decide
  rcases hm ⟨d, hd⟩ hc with h | h
  · exact gs_ok g_0_3_5_1 h hc he h32
  · exact gs_ok g_0_3_5_2 h hc he h32
theorem gg_0_3_6 {d e : Nat} (hc : 6 ≤ d) (hd : d < 16) (he : d ≤ e) (h32 : e < 32) : chk [0, 0, 3, 6, d, e] e = true := by
  have hm : ∀ d : Fin 16, 6 ≤ d.1 → d.1 ∈ [6, 7, 8, 9, 10] ∨ d.1 ∈ [11, 12, 13, 14, 15] := by decide
  rcases hm ⟨d, hd⟩ hc with h | h
  · exact gs_ok g_0_3_6_1 h hc he h32
  · exact gs_ok g_0_3_6_2 h hc he h32
theorem gg_0_3_7 {d e : Nat} (hc : 7 ≤ d) (hd : d < 16) (he : d ≤ e) (h32 : e < 32) : chk [0, 0, 3, 7, d, e] e = true := by
  have hm : ∀ d : Fin 16, 7 ≤ d.1 → d.1 ∈ [7, 8, 9, 10, 11] ∨ d.1 ∈ [12, 13, 14, 15] := by decide
  rcases hm ⟨d, hd⟩ hc with h | h
  · exact gs_ok g_0_3_7_1 h hc he h32
  · exact gs_ok g_0_3_7_2 h hc he h32
theorem gg_1_1_1 {d e : Nat} (hc : 1 ≤ d) (hd : d < 16) (he : d ≤ e) (h32 : e < 32) : chk [0, 1, 1, 1, d, e] e = true := by
  have hm : ∀ d : Fin 16, 1 ≤ d.1 → d.1 ∈ [1, 2, 3, 4, 5, 6, 7] ∨ d.1 ∈ [8, 9, 10, 11, 12, 13, 14, 15] := by decide
  rcases hm ⟨d, hd⟩ hc with h | h
  · exact gs_ok g_1_1_1_1 h hc he h32
  · exact gs_ok g_1_1_1_2 h hc he h32
theorem gg_1_1_2 {d e : Nat} (hc : 2 ≤ d) (hd : d < 16) (he : d ≤ e) (h32 : e < 32) : chk [0, 1, 1, 2, d, e] e = true := by
  have hm : ∀ d : Fin 16, 2 ≤ d.1 → d.1 ∈ [2, 3, 4, 5, 6, 7] ∨ d.1 ∈ [8, 9, 10, 11, 12, 13, 14, 15] := by decide
  rcases hm ⟨d, hd⟩ hc with h | h
  · exact gs_ok g_1_1_2_1 h hc he h32
  · exact gs_ok g_1_1_2_2 h hc he h32
theorem gg_1_1_3 {d e : Nat} (hc : 3 ≤ d) (hd : d < 16) (he : d ≤ e) (h32 : e < 32) : chk [0, 1, 1, 3, d, e] e = true := by
  have hm : ∀ d : Fin 16, 3 ≤ d.1 → d.1 ∈ [3, 4, 5, 6, 7, 8] ∨ d.1 ∈ [9, 10, 11, 12, 13, 14, 15] := by decide
  rcases hm ⟨d, hd⟩ hc with h | h
  · exact gs_ok g_1_1_3_1 h hc he h32
  · exact gs_ok g_1_1_3_2 h hc he h32
theorem gg_1_1_4 {d e : Nat} (hc : 4 ≤ d) (hd : d < 16) (he : d ≤ e) (h32 : e < 32) : chk [0, 1, 1, 4, d, e] e = true := by
  have hm : ∀ d : Fin 16, 4 ≤ d.1 → d.1 ∈ [4, 5, 6, 7, 8, 9] ∨ d.1 ∈ [10, 11, 12, 13, 14, 15] := by decide
  rcases hm ⟨d, hd⟩ hc with h | h
  · exact gs_ok g_1_1_4_1 h hc he h32
  · exact gs_ok g_1_1_4_2 h hc he h32
theorem gg_1_1_5 {d e : Nat} (hc : 5 ≤ d) (hd : d < 16) (he : d ≤ e) (h32 : e < 32) : chk [0, 1, 1, 5, d, e] e = true := by
  have hm : ∀ d : Fin 16, 5 ≤ d.1 → d.1 ∈ [5, 6, 7, 8, 9] ∨ d.1 ∈ [10, 11, 12, 13, 14, 15] := by decide
  rcases hm ⟨d, hd⟩ hc with h | h
  · exact gs_ok g_1_1_5_1 h hc he h32
  · exact gs_ok g_1_1_5_2 h hc he h32
theorem gg_1_1_6 {d e : Nat} (hc : 6 ≤ d) (hd : d < 16) (he : d ≤ e) (h32 : e < 32) : chk [0, 1, 1, 6, d, e] e = true := by
  have hm : ∀ d : Fin 16, 6 ≤ d.1 → d.1 ∈ [6, 7, 8, 9, 10] ∨ d.1 ∈ [11, 12, 13, 14, 15] := by decide
  rcases hm ⟨d, hd⟩ hc with h | h
  · exact gs_ok g_1_1_6_1 h hc he h32
  · exact gs_ok g_1_1_6_2 h hc he h32
theorem gg_1_1_7 {d e : Nat} (hc : 7 ≤ d) (hd : d < 16) (he : d ≤ e) (h32 : e < 32) : chk [0, 1, 1, 7, d, e] e = true := by
  have hm : ∀ d : Fin 16, 7 ≤ d.1 → d.1 ∈ [7, 8, 9, 10, 11] ∨ d.1 ∈ [12, 13, 14, 15] := by decide
  rcases hm ⟨d, hd⟩ hc with h | h
  · exact gs_ok g_1_1_7_1 h hc he h32
  · exact gs_ok g_1_1_7_2 h hc he h32
theorem gg_1_2_2 {d e : Nat} (hc : 2 ≤ d) (hd : d < 16) (he : d ≤ e) (h32 : e < 32) : chk [0, 1, 2, 2, d, e] e = true := by
  have hm : ∀ d : Fin 16, 2 ≤ d.1 → d.1 ∈ [2, 3, 4, 5, 6, 7] ∨ d.1 ∈ [8, 9, 10, 11, 12, 13, 14, 15] := by decide
  rcases hm ⟨d, hd⟩ hc with h | h
  · exact gs_ok g_1_2_2_1 h hc he h32
  · exact gs_ok g_1_2_2_2 h hc he h32
theorem gg_1_2_3 {d e : Nat} (hc : 3 ≤ d) (hd : d < 16) (he : d ≤ e) (h32 : e < 32) : chk [0, 1, 2, 3, d, e] e = true := by
  have hm : ∀ d : Fin 16, 3 ≤ d.1 → d.1 ∈ [3, 4, 5, 6, 7, 8] ∨ d.1 ∈ [9, 10, 11, 12, 13, 14, 15] := by decide
  rcases hm ⟨d, hd⟩ hc with h | h
  · exact gs_ok g_1_2_3_1 h hc he h32
  · exact gs_ok g_1_2_3_2 h hc he h32
theorem gg_1_2_4 {d e : Nat} (hc : 4 ≤ d) (hd : d < 16) (he : d ≤ e) (h32 : e < 32) : chk [0, 1, 2, 4, d, e] e = true := by
  have hm : ∀ d : Fin 16, 4 ≤ d.1 → d.1 ∈ [4] ∨ d.1 ∈ [5] ∨ d.1 ∈ [6] ∨ d.1 ∈ [7] ∨ d.1 ∈ [8] ∨ d.1 ∈ [9] ∨ d.1 ∈ [10] ∨ d.1 ∈ [11] ∨ d.1 ∈ [12] ∨ d.1 ∈ [13] ∨ d.1 ∈ [14] ∨ d.1 ∈ [15] := by decide
  rcases hm ⟨d, hd⟩ hc with h | h | h | h | h | h | h | h | h | h | h | h
  · exact gs_ok g_1_2_4_1 h hc he h32
  · exact gs_ok g_1_2_4_2 h hc he h32
  · exact gs_ok g_1_2_4_3 h hc he h32
  · exact gs_ok g_1_2_4_4 h hc he h32
  · exact gs_ok g_1_2_4_5 h hc he h32
  · exact gs_ok g_1_2_4_6 h hc he h32
  · exact gs_ok g_1_2_4_7 h hc he h32
  · exact gs_ok g_1_2_4_8 h hc he h32
  · exact gs_ok g_1_2_4_9 h hc he h32
  · exact gs_ok g_1_2_4_10 h hc he h32
  · exact gs_ok g_1_2_4_11 h hc he h32
  · exact gs_ok g_1_2_4_12 h hc he h32
theorem gg_1_2_5 {d e : Nat} (hc : 5 ≤ d) (hd : d < 16) (he : d ≤ e) (h32 : e < 32) : chk [0, 1, 2, 5, d, e] e = true := by
  have hm : ∀ d : Fin 16, 5 ≤ d.1 → d.1 ∈ [5, 6, 7, 8, 9] ∨ d.1 ∈ [10, 11, 12, 13, 14, 15] := by decide
  rcases hm ⟨d, hd⟩ hc with h | h
  · exact gs_ok g_1_2_5_1 h hc he h32
  · exact gs_ok g_1_2_5_2 h hc he h32
theorem gg_1_2_6 {d e : Nat} (hc : 6 ≤ d) (hd : d < 16) (he : d ≤ e) (h32 : e < 32) : chk [0, 1, 2, 6, d, e] e = true := by
  have hm : ∀ d : Fin 16, 6 ≤ d.1 → d.1 ∈ [6] ∨ d.1 ∈ [7] ∨ d.1 ∈ [8] ∨ d.1 ∈ [9] ∨ d.1 ∈ [10] ∨ d.1 ∈ [11] ∨ d.1 ∈ [12] ∨ d.1 ∈ [13] ∨ d.1 ∈ [14] ∨ d.1 ∈ [15] := by decide
  rcases hm ⟨d, hd⟩ hc with h | h | h | h | h | h | h | h | h | h
  · exact gs_ok g_1_2_6_1 h hc he h32
  · exact gs_ok g_1_2_6_2 h hc he h32
  · exact gs_ok g_1_2_6_3 h hc he h32
  · exact gs_ok g_1_2_6_4 h hc he h32
  · exact gs_ok g_1_2_6_5 h hc he h32
  · exact gs_ok g_1_2_6_6 h hc he h32
  · exact gs_ok g_1_2_6_7 h hc he h32
  · exact gs_ok g_1_2_6_8 h hc he h32
  · exact gs_ok g_1_2_6_9 h hc he h32
  · exact gs_ok g_1_2_6_10 h hc he h32
theorem gg_1_2_7 {d e : Nat} (hc : 7 ≤ d) (hd : d < 16) (he : d ≤ e) (h32 : e < 32) : chk [0, 1, 2, 7, d, e] e = true := by
  have hm : ∀ d : Fin 16, 7 ≤ d.1 → d.1 ∈ [7, 8, 9, 10, 11] ∨ d.1 ∈ [12, 13, 14, 15] := by decide
  rcases hm ⟨d, hd⟩ hc with h | h
  · exact gs_ok g_1_2_7_1 h hc he h32
  · exact gs_ok g_1_2_7_2 h hc he h32
theorem gg_1_3_3 {d e : Nat} (hc : 3 ≤ d) (hd : d < 16) (he : d ≤ e) (h32 : e < 32) : chk [0, 1, 3, 3, d, e] e = true := by
  have hm : ∀ d : Fin 16, 3 ≤ d.1 → d.1 ∈ [3, 4, 5, 6, 7, 8] ∨ d.1 ∈ [9, 10, 11, 12, 13, 14, 15] := by decide
  rcases hm ⟨d, hd⟩ hc with h | h
  · exact gs_ok g_1_3_3_1 h hc he h32
  · exact gs_ok g_1_3_3_2 h hc he h32
theorem gg_1_3_4 {d e : Nat} (hc : 4 ≤ d) (hd : d < 16) (he : d ≤ e) (h32 : e < 32) : chk [0, 1, 3, 4, d, e] e = true := by
  have hm : ∀ d : Fin 16, 4 ≤ d.1 → d.1 ∈ [4, 5, 6, 7, 8, 9] ∨ d.1 ∈ [10, 11, 12, 13, 14, 15] := by decide
  rcases hm ⟨d, hd⟩ hc with h | h
  · exact gs_ok g_1_3_4_1 h hc he h32
  · exact gs_ok g_1_3_4_2 h hc he h32
theorem gg_1_3_5 {d e : Nat} (hc : 5 ≤ d) (hd : d < 16) (he : d ≤ e) (h32 : e < 32) : chk [0, 1, 3, 5, d, e] e = true := by
  have hm : ∀ d : Fin 16, 5 ≤ d.1 → d.1 ∈ [5, 6, 7, 8, 9] ∨ d.1 ∈ [10, 11, 12, 13, 14, 15] := by decide
  rcases hm ⟨d, hd⟩ hc with h | h
  · exact gs_ok g_1_3_5_1 h hc he h32
  · exact gs_ok g_1_3_5_2 h hc he h32
theorem gg_1_3_6 {d e : Nat} (hc : 6 ≤ d) (hd : d < 16) (he : d ≤ e) (h32 : e < 32) : chk [0, 1, 3, 6, d, e] e = true := by
  have hm : ∀ d : Fin 16, 6 ≤ d.1 → d.1 ∈ [6, 7, 8, 9, 10] ∨ d.1 ∈ [11, 12, 13, 14, 15] := by decide
  rcases hm ⟨d, hd⟩ hc with h | h
  · exact gs_ok g_1_3_6_1 h hc he h32
  · exact gs_ok g_1_3_6_2 h hc he h32
theorem gg_1_3_7 {d e : Nat} (hc : 7 ≤ d) (hd : d < 16) (he : d ≤ e) (h32 : e < 32) : chk [0, 1, 3, 7, d, e] e = true := by
  have hm : ∀ d : Fin 16, 7 ≤ d.1 → d.1 ∈ [7, 8, 9, 10, 11] ∨ d.1 ∈ [12, 13, 14, 15] := by decide
  rcases hm ⟨d, hd⟩ hc with h | h
  · exact gs_ok g_1_3_7_1 h hc he h32
  · exact gs_ok g_1_3_7_2 h hc he h32
theorem ab_0_0 {c d e : Nat} (h1 : 0 ≤ c) (h2 : c ≤ 7) (hc : c ≤ d) (hd : d < 16) (he : d ≤ e) (h32 : e < 32) : chk [0, 0, 0, c, d, e] e = true := by
  have h : c = 0 ∨ c = 1 ∨ c = 2 ∨ c = 3 ∨ c = 4 ∨ c = 5 ∨ c = 6 ∨ c = 7 := by omega
  rcases h with rfl | rfl | rfl | rfl | rfl | rfl | rfl | rfl
  · exact gg_0_0_0 hc hd he h32
  · exact gg_0_0_1 hc hd he h32
  · exact gg_0_0_2 hc hd he h32
  · exact gg_0_0_3 hc hd he h32
  · exact gg_0_0_4 hc hd he h32
  · exact gg_0_0_5 hc hd he h32
  · exact gg_0_0_6 hc hd he h32
  · exact gg_0_0_7 hc hd he h32
theorem ab_0_1 {c d e : Nat} (h1 : 1 ≤ c) (h2 : c ≤ 7) (hc : c ≤ d) (hd : d < 16) (he : d ≤ e) (h32 : e < 32) : chk [0, 0, 1, c, d, e] e = true := by
  have h : c = 1 ∨ c = 2 ∨ c = 3 ∨ c = 4 ∨ c = 5 ∨ c = 6 ∨ c = 7 := by omega
  rcases h with rfl | rfl | rfl | rfl | rfl | rfl | rfl
  · exact gg_0_1_1 hc hd he h32
  · exact gg_0_1_2 hc hd he h32
  · exact gg_0_1_3 hc hd he h32
  · exact gg_0_1_4 hc hd he h32
  · exact gg_0_1_5 hc hd he h32
  · exact gg_0_1_6 hc hd he h32
  · exact gg_0_1_7 hc hd he h32
theorem ab_0_2 {c d e : Nat} (h1 : 2 ≤ c) (h2 : c ≤ 7) (hc : c ≤ d) (hd : d < 16) (he : d ≤ e) (h32 : e < 32) : chk [0, 0, 2, c, d, e] e = true := by
  have h : c = 2 ∨ c = 3 ∨ c = 4 ∨ c = 5 ∨ c = 6 ∨ c = 7 := by omega
  rcases h with rfl | rfl | rfl | rfl | rfl | rfl
  · exact gg_0_2_2 hc hd he h32
  · exact gg_0_2_3 hc hd he h32
  · exact gg_0_2_4 hc hd he h32
  · exact gg_0_2_5 hc hd he h32
  · exact gg_0_2_6 hc hd he h32
  · exact gg_0_2_7 hc hd he h32
theorem ab_0_3 {c d e : Nat} (h1 : 3 ≤ c) (h2 : c ≤ 7) (hc : c ≤ d) (hd : d < 16) (he : d ≤ e) (h32 : e < 32) : chk [0, 0, 3, c, d, e] e = true := by
  have h : c = 3 ∨ c = 4 ∨ c = 5 ∨ c = 6 ∨ c = 7 := by omega
  rcases h with rfl | rfl | rfl | rfl | rfl
  · exact gg_0_3_3 hc hd he h32
  · exact gg_0_3_4 hc hd he h32
  · exact gg_0_3_5 hc hd he h32
  · exact gg_0_3_6 hc hd he h32
  · exact gg_0_3_7 hc hd he h32
theorem ab_1_1 {c d e : Nat} (h1 : 1 ≤ c) (h2 : c ≤ 7) (hc : c ≤ d) (hd : d < 16) (he : d ≤ e) (h32 : e < 32) : chk [0, 1, 1, c, d, e] e = true := by
  have h : c = 1 ∨ c = 2 ∨ c = 3 ∨ c = 4 ∨ c = 5 ∨ c = 6 ∨ c = 7 := by omega
  rcases h with rfl | rfl | rfl | rfl | rfl | rfl | rfl
  · exact gg_1_1_1 hc hd he h32
  · exact gg_1_1_2 hc hd he h32
  · exact gg_1_1_3 hc hd he h32
  · exact gg_1_1_4 hc hd he h32
  · exact gg_1_1_5 hc hd he h32
  · exact gg_1_1_6 hc hd he h32
  · exact gg_1_1_7 hc hd he h32
theorem ab_1_2 {c d e : Nat} (h1 : 2 ≤ c) (h2 : c ≤ 7) (hc : c ≤ d) (hd : d < 16) (he : d ≤ e) (h32 : e < 32) : chk [0, 1, 2, c, d, e] e = true := by
  have h : c = 2 ∨ c = 3 ∨ c = 4 ∨ c = 5 ∨ c = 6 ∨ c = 7 := by omega
  rcases h with rfl | rfl | rfl | rfl | rfl | rfl
  · exact gg_1_2_2 hc hd he h32
  · exact gg_1_2_3 hc hd he h32
  · exact gg_1_2_4 hc hd he h32
  · exact gg_1_2_5 hc hd he h32
  · exact gg_1_2_6 hc hd he h32
  · exact gg_1_2_7 hc hd he h32
theorem ab_1_3 {c d e : Nat} (h1 : 3 ≤ c) (h2 : c ≤ 7) (hc : c ≤ d) (hd : d < 16) (he : d ≤ e) (h32 : e < 32) : chk [0, 1, 3, c, d, e] e = true := by
  have h : c = 3 ∨ c = 4 ∨ c = 5 ∨ c = 6 ∨ c = 7 := by omega
  rcases h with rfl | rfl | rfl | rfl | rfl
  · exact gg_1_3_3 hc hd he h32
  · exact gg_1_3_4 hc hd he h32
  · exact gg_1_3_5 hc hd he h32
  · exact gg_1_3_6 hc hd he h32
  · exact gg_1_3_7 hc hd he h32
theorem all_ok {a b c d e : Nat} (h0 : a ≤ 1) (h1 : a ≤ b) (h2 : b ≤ 3) (h3 : b ≤ c) (h4 : c ≤ 7) (hc : c ≤ d) (hd : d < 16) (he : d ≤ e) (h32 : e < 32) : chk [0, a, b, c, d, e] e = true := by
  have h : (a = 0 ∧ (b = 0 ∨ b = 1 ∨ b = 2 ∨ b = 3)) ∨ (a = 1 ∧ (b = 1 ∨ b = 2 ∨ b = 3)) := by omega
  rcases h with ⟨rfl, rfl | rfl | rfl | rfl⟩ | ⟨rfl, rfl | rfl | rfl⟩
  · exact ab_0_0 h3 h4 hc hd he h32
  · exact ab_0_1 h3 h4 hc hd he h32
  · exact ab_0_2 h3 h4 hc hd he h32
  · exact ab_0_3 h3 h4 hc hd he h32
  · exact ab_1_1 h3 h4 hc hd he h32
  · exact ab_1_2 h3 h4 hc hd he h32
  · exact ab_1_3 h3 h4 hc hd he h32
theorem nine_ok : ∀ p, p ≤ 9 → ∀ m, Wf m → EB m 9 p 149 := fun p hp => sorted_enough fun m hW hS => by
  have w0 := hW 0
  have w1 := hW 1
  have w2 := hW 2
  have w3 := hW 3
  have w4 := hW 4
  have w5 := hW 5
  have s1 := hS 1 (by decide)
  have s2 := hS 2 (by decide)
  have s3 := hS 3 (by decide)
  have s4 := hS 4 (by decide)
  have s5 := hS 5 (by decide)
  have m0 : m 0 = 0 := by omega
  have hk := all_ok (a := m 1) (b := m 2) (c := m 3) (d := m 4) (e := m 5) (by omega) s1 (by omega) s2 (by omega) s3 (by omega) s4 (by omega)
  refine chk_ok (H := [0, m 1, m 2, m 3, m 4, m 5]) hW ⟨rfl, fun x h => ?_⟩ s5 hk hp
  have h6 : x < 6 := h
  have hx : x = 0 ∨ x = 1 ∨ x = 2 ∨ x = 3 ∨ x = 4 ∨ x = 5 := by omega
  rcases hx with rfl | rfl | rfl | rfl | rfl | rfl
  · exact m0.symm
  · rfl
  · rfl
  · rfl
  · rfl
  · rfl
end Tt
end Peb
end Go.Proofs.Ytapgpjhogdmjbaa
