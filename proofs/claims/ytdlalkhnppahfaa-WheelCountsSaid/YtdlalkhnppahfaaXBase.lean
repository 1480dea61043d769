/-
  The program's own fact that the engine wants.
-/
import Derived.Test.YtdlalkhnppahfaaProg
import Derived.Test.YtdlalkhnppahfaaXWord
namespace Go.Proofs.Ytdlalkhnppahfaa
open Go.X
theorem Try.mixed : Try.prog.follows .mixedOrders = true := by kernel_rfl
end Go.Proofs.Ytdlalkhnppahfaa
