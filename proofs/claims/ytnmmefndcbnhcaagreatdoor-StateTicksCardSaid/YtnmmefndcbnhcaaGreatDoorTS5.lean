import Derived.Test.YtnmmefndcbnhcaaGreatDoorTD
/-
  StateTicks: rounds of the law's loop: found out by the kernel.
-/
set_option linter.unusedVariables false
set_option linter.unusedSimpArgs false
set_option maxRecDepth 1000000
namespace Go.U
open Go Go.RowKit Go.Proofs
theorem piece5 : chL q100 gs100 yB (chain lp 12 88 hd88) = chR q100 gs100 yB hd100 (chain lp 12 88 hd88) := by kernel_rfl
end Go.U
