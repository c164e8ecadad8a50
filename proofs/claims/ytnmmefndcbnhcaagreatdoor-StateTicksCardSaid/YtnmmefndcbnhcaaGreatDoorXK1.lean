import Derived.Test.YtnmmefndcbnhcaaGreatDoorXD
/-
  X: calls that were gone through once: found out by the kernel.
-/
set_option linter.unusedVariables false
set_option maxRecDepth 1000000
namespace Go.U
open Go Go.RowKit Go.Proofs
theorem c10 : chunkIs 17 ck10 (callU (cx kn0 17 (nt3 17)) 20107 93 ck10.args (canon 17 ck10)) = true := by kernel_rfl
end Go.U
