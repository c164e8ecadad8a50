import Derived.Test.YtnmmefndcbnhcaaGreatDoorTD
/-
  StateTicks: rounds of the law's loop: found out by the kernel.
-/
set_option linter.unusedVariables false
set_option linter.unusedSimpArgs false
set_option maxRecDepth 1000000
namespace Go.U
open Go Go.RowKit Go.Proofs
theorem piece1 : chL q37 gs37 yB (chain lp 17 20 hd20) = chR q37 gs37 yB hd37 (chain lp 17 20 hd20) := by kernel_rfl
end Go.U
