import Derived.Test.YtjdkhijaffbmaaaGreatDoorRows
import Derived.Test.YtjdkhijaffbmaaaGreatDoorCards
import Derived.SevenTiedAt
/-
  The card: facts on the program, found out by the kernel.
-/
set_option linter.unusedVariables false
set_option maxRecDepth 1000000
namespace Go.Proofs.YtjdkhijaffbmaaaGreatDoor
open Go Go.Proofs
theorem cW : Rows.sourceChoosesRow.wfByText (OpenSpec.ofChange Rows.sourceChoosesSpec) = true := by kernel_rfl
theorem cM : Tryz.pinned.checked.prog.mainIs = some (true, "e4b01995e0c3def722e75b27a922d125fbe5e4d34c5deb4868acf1f1f6efe270".toList) := by kernel_rfl
end Go.Proofs.YtjdkhijaffbmaaaGreatDoor
