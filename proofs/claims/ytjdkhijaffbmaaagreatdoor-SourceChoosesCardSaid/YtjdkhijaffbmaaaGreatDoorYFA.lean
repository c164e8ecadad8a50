import Derived.Test.YtjdkhijaffbmaaaGreatDoorRows
import Derived.JoinedOf
/-
  The row: facts on the program, found out by the kernel.
-/
set_option linter.unusedVariables false
set_option maxRecDepth 1000000
namespace Go.Proofs.YtjdkhijaffbmaaaGreatDoor
open Go Go.Proofs
theorem fA : (Rows.sourceChoosesRow.inPlace == Tryz.prog.inPlace 3) = true := by kernel_rfl
end Go.Proofs.YtjdkhijaffbmaaaGreatDoor
