import Derived.Test.YtnmmefndcbnhcaaGreatDoorTD
/-
  StateTicks: rounds of the law's loop: found out by the kernel.
-/
set_option linter.unusedVariables false
set_option linter.unusedSimpArgs false
set_option maxRecDepth 1000000
namespace Go.U
open Go Go.RowKit Go.Proofs
theorem piece0 : chL q20 gs20 yB (chain lp 20 0 hd0) = chR q20 gs20 yB hd20 (chain lp 20 0 hd0) := by kernel_rfl
end Go.U
