import Derived.Test.YtnmmefndcbnhcaaGreatDoorTD
/-
  StateTicks: rounds of the law's loop: found out by the kernel.
-/
set_option linter.unusedVariables false
set_option linter.unusedSimpArgs false
set_option maxRecDepth 1000000
namespace Go.U
open Go Go.RowKit Go.Proofs
theorem piece4 : chL q88 gs88 yB (chain lp 17 71 hd71) = chR q88 gs88 yB hd88 (chain lp 17 71 hd71) := by kernel_rfl
end Go.U
