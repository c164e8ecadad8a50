import Derived.Test.YtnmmefndcbnhcaaGreatDoorTD
/-
  StateTicks: rounds of the law's loop: found out by the kernel.
-/
set_option linter.unusedVariables false
set_option linter.unusedSimpArgs false
set_option maxRecDepth 1000000
namespace Go.U
open Go Go.RowKit Go.Proofs
theorem piece2 : chL q54 gs54 yB (chain lp 17 37 hd37) = chR q54 gs54 yB hd54 (chain lp 17 37 hd37) := by kernel_rfl
end Go.U
