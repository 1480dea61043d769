/-
  The program's own fact that the engine wants.
-/
import Derived.Test.YtbcepafeiocobaaGreatProg
import Derived.Test.YtbcepafeiocobaaGreatXWord
namespace Go.Proofs.YtbcepafeiocobaaGreat
open Go.X
theorem Tryz.mixed : Tryz.prog.follows .mixedOrders = true := by kernel_rfl
end Go.Proofs.YtbcepafeiocobaaGreat
