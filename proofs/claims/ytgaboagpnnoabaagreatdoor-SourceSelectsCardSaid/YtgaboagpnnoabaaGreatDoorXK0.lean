import Derived.Test.YtgaboagpnnoabaaGreatDoorXD
/-
  X: calls that were gone through once: found out by the kernel.
-/
set_option linter.unusedVariables false
set_option maxRecDepth 1000000
namespace Go.U
open Go Go.RowKit Go.Proofs
theorem c15 : chunkIs 17 ck15 (callU (cx [] 17 (nt3 17)) 17303 55 ck15.args (canon 17 ck15)) = true := by kernel_rfl
theorem c65 : chunkIs 17 ck65 (callU (cx [] 27 (nt1 27)) 294 76 ck65.args (canon 17 ck65)) = true := by kernel_rfl
end Go.U
