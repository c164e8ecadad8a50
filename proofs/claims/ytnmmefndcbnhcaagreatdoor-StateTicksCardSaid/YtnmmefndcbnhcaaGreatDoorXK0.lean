import Derived.Test.YtnmmefndcbnhcaaGreatDoorXD
/-
  X: calls that were gone through once: found out by the kernel.
-/
set_option linter.unusedVariables false
set_option maxRecDepth 1000000
namespace Go.U
open Go Go.RowKit Go.Proofs
theorem c50 : chunkIs 17 ck50 (callU (cx kn0 18 (nt0 18)) 28423 458 ck50.args (canon 17 ck50)) = true := by kernel_rfl
end Go.U
