import Derived.Test.YtnmmefndcbnhcaaGreatDoorRows
import Derived.JoinedOf
/-
  The row: facts on the program, found out by the kernel.
-/
set_option linter.unusedVariables false
set_option maxRecDepth 1000000
namespace Go.Proofs.YtnmmefndcbnhcaaGreatDoor
open Go Go.Proofs
theorem fH0 : (List.range' 0 240).all (rowFine Tryz.prog) = true := by kernel_rfl
end Go.Proofs.YtnmmefndcbnhcaaGreatDoor
