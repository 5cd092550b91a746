/-
  Chapter 28: the program's left pigeon and the critical bits. Conditions: 1 to 3 holes, bits below 4096.
-/
import Derived.Test.YtjeeffmpfdhppaaC28c
import Derived.Test.YtjeeffmpfdhppaaApp
namespace Go.Proofs.Ytjeeffmpfdhppaa
open Go.RowKit
