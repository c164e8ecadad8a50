import Derived.Test.YtgaboagpnnoabaaGreatDoorRows
import Derived.Test.YtgaboagpnnoabaaGreatDoorCards
import Derived.SevenTiedAt
/-
  The card: facts on the program, found out by the kernel.
-/
set_option linter.unusedVariables false
set_option maxRecDepth 1000000
namespace Go.Proofs.YtgaboagpnnoabaaGreatDoor
open Go Go.Proofs
theorem cW : Rows.sourceSelectsRow.wfByText (OpenSpec.ofChange Rows.sourceSelectsSpec) = true := by kernel_rfl
theorem cM : Tryz.pinned.checked.prog.mainIs = some (true, "fb424fa1f670add8dd8a957284bfe6e10fcf5bc45ff517bf9a222a1f5b6e5744".toList) := by kernel_rfl
end Go.Proofs.YtgaboagpnnoabaaGreatDoor
