import Derived.Test.YtnmmefndcbnhcaaGreatDoorTD
/-
  StateTicks: rounds of the law's loop: found out by the kernel.
-/
set_option linter.unusedVariables false
set_option linter.unusedSimpArgs false
set_option maxRecDepth 1000000
namespace Go.U
open Go Go.RowKit Go.Proofs
theorem piece3 : chL q71 gs71 yB (chain lp 17 54 hd54) = chR q71 gs71 yB hd71 (chain lp 17 54 hd54) := by kernel_rfl
end Go.U
