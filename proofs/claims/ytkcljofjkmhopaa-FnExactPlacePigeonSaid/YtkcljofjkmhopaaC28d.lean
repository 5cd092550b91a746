/-
  Chapter 28: the program's left pigeon and the critical bits. Conditions: 1 to 3 holes, bits below 4096.
-/
import Derived.Test.YtkcljofjkmhopaaC28c
import Derived.Test.YtkcljofjkmhopaaApp
namespace Go.Proofs.Ytkcljofjkmhopaa
open Go.RowKit
