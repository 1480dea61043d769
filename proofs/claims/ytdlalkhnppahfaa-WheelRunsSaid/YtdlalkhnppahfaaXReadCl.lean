/-
  A wheel's call as an argument bears it.
-/
import Derived.Test.YtdlalkhnppahfaaXHold
import Derived.Test.YtdlalkhnppahfaaXWheelK
namespace Go.Proofs.Ytdlalkhnppahfaa
open Go.X

theorem reads_cl : Reads Try.prog 37 Cl.cells (fun _ _ => True) (fun _ => 1) := by
  have rf_cl := rf_cons (P := Try.prog) (t := 3) 0 1 (reads_int (k := .i64) (by kernel_rfl)) (by kernel_rfl) (fun _ => rfl) <| rf_cons (t := 3) 1 1 (reads_int (k := .i64) (by kernel_rfl)) (by kernel_rfl) (fun _ => rfl) <|
    rf_cons (t := 3) 2 1 (reads_int (k := .i64) (by kernel_rfl)) (by kernel_rfl) (fun _ => rfl) <| rf_nil _ 3
  exact Reads.imp (reads_struct Try.underlying37 rfl 3 (by kernel_rfl) rf_cl (fun _ => rfl)) fun w ⟨k, i, n, _⟩ _ => ⟨⟨k, i, n⟩, rfl, trivial, by omega⟩

end Go.Proofs.Ytdlalkhnppahfaa
