import Derived.Test.YtnmmefndcbnhcaaGreatDoorRows
import Derived.JoinedOf
/-
  The row: facts on the program, found out by the kernel.
-/
set_option linter.unusedVariables false
set_option maxRecDepth 1000000
namespace Go.Proofs.YtnmmefndcbnhcaaGreatDoor
open Go Go.Proofs
theorem fE1 : (Rows.stateTicksRow.wf (OpenSpec.ofChange (OpenSpec.ofChange Rows.stateTicksSpec).bare)) = true := by kernel_rfl
theorem fE3 : mapsRowed Tryz.prog = true := by kernel_rfl
theorem fE4 : (Tryz.f4.params.all (Tryz.prog.readableRec ·)) = true := by kernel_rfl
theorem fE5 : namedTie Tryz.prog Rows.stateTicksRow.named (OpenSpec.ofChange Rows.stateTicksSpec).bare.vars = true := by kernel_rfl
theorem fE6 : (Rows.stateTicksRow.stops == []) = true := by kernel_rfl
theorem fE7 : (Tryz.prog.stops == []) = true := by kernel_rfl
theorem fE8 : (Rows.stateTicksRow.knobs == []) = true := by kernel_rfl
theorem fE9 : (Tryz.prog.stopKnobs == []) = true := by kernel_rfl
end Go.Proofs.YtnmmefndcbnhcaaGreatDoor
