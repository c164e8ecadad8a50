import Derived.Test.YtnmmefndcbnhcaaGreatDoorRows
import Derived.Test.YtnmmefndcbnhcaaGreatDoorCards
import Derived.SevenTiedAt
/-
  The card: facts on the program, found out by the kernel.
-/
set_option linter.unusedVariables false
set_option maxRecDepth 1000000
namespace Go.Proofs.YtnmmefndcbnhcaaGreatDoor
open Go Go.Proofs
theorem cW : Rows.stateTicksRow.wfByText (OpenSpec.ofChange Rows.stateTicksSpec) = true := by kernel_rfl
theorem cM : Tryz.pinned.checked.prog.mainIs = some (true, "eda034514157428358382274b97990de98a0b2fdf84be6e6714aa78b20ffe61b".toList) := by kernel_rfl
end Go.Proofs.YtnmmefndcbnhcaaGreatDoor
