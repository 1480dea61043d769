/-
  The program's own fact that the engine wants.
-/
import Derived.Test.YtbcepafeiocobaaProg
import Derived.Test.YtbcepafeiocobaaXWord
namespace Go.Proofs.Ytbcepafeiocobaa
open Go.X
theorem Try.mixed : Try.prog.follows .mixedOrders = true := by kernel_rfl
end Go.Proofs.Ytbcepafeiocobaa
