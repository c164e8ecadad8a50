import Derived.Test.YtjdkhijaffbmaaaGreatDoorZD
/-
  X: calls that were gone through once: found out by the kernel.
-/
set_option linter.unusedVariables false
set_option maxRecDepth 1000000
namespace Go.U
open Go Go.RowKit Go.Proofs
theorem c11 : chunkIs 17 ck11 (callU (cx kn0 17 (nt3 17)) 21217 81 ck11.args (canon 17 ck11)) = true := by kernel_rfl
end Go.U
