/-
  What the proofs of the rows share.
-/
import Derived.Test.YtdlalkhnppahfaaRows
import Derived.Test.YtdlalkhnppahfaaXReads
import Derived.ProofKit
namespace Go.Proofs.Ytdlalkhnppahfaa
open Go.ChangeShapes Go.WideShapes Go.ChangeAt Go.RowKit
open Go.X (Has Vw)

theorem Try.own : ownKnob Try.prog.godebug = none := by kernel_rfl
theorem Try.laidOut : laidOutB Try.prog = true := by kernel_rfl
theorem below_of {w w' : World} {l : List X.A} (H : Has w w' l) : Below w.heap.size w w' := ⟨H.base.os, H.base.tape, H.base.output, H.base.size, H.base.block⟩

end Go.Proofs.Ytdlalkhnppahfaa
