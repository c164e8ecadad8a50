import Derived.Test.YtjdkhijaffbmaaaGreatDoorZD
/-
  X: calls that were gone through once: found out by the kernel.
-/
set_option linter.unusedVariables false
set_option maxRecDepth 1000000
namespace Go.U
open Go Go.RowKit Go.Proofs
theorem c20 : chunkIs 17 ck20 (callU (cx kn0 17 (nt4 17)) 13604 32 ck20.args (canon 17 ck20)) = true := by kernel_rfl
theorem c12 : chunkIs 17 ck12 (callU (cx kn0 17 (nt0 17)) 3913 374 ck12.args (canon 17 ck12)) = true := by kernel_rfl
theorem c3 : chunkIs 17 ck3 (callU (cx kn0 17 (nt1 17)) 81 370 ck3.args (canon 17 ck3)) = true := by kernel_rfl
end Go.U
