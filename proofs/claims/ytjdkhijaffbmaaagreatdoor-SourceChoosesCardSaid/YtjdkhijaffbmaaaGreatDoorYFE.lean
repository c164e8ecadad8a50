import Derived.Test.YtjdkhijaffbmaaaGreatDoorRows
import Derived.JoinedOf
/-
  The row: facts on the program, found out by the kernel.
-/
set_option linter.unusedVariables false
set_option maxRecDepth 1000000
namespace Go.Proofs.YtjdkhijaffbmaaaGreatDoor
open Go Go.Proofs
theorem fE1 : (Rows.sourceChoosesRow.wf (OpenSpec.ofChange (OpenSpec.ofChange Rows.sourceChoosesSpec).bare)) = true := by kernel_rfl
theorem fE2 : laidOutB Tryz.prog = true := by kernel_rfl
theorem fE3 : mapsRowed Tryz.prog = true := by kernel_rfl
theorem fE4 : (Tryz.f3.params.all (Tryz.prog.readableRec ·)) = true := by kernel_rfl
theorem fE5 : namedTie Tryz.prog Rows.sourceChoosesRow.named (OpenSpec.ofChange Rows.sourceChoosesSpec).bare.vars = true := by kernel_rfl
theorem fE6 : (Rows.sourceChoosesRow.stops == []) = true := by kernel_rfl
theorem fE7 : (Tryz.prog.stops == []) = true := by kernel_rfl
theorem fE8 : (Rows.sourceChoosesRow.knobs == []) = true := by kernel_rfl
theorem fE9 : (Tryz.prog.stopKnobs == []) = true := by kernel_rfl
end Go.Proofs.YtjdkhijaffbmaaaGreatDoor
