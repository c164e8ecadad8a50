import Derived.Test.YtjdkhijaffbmaaaGreatDoorZD
/-
  X: calls that were gone through once: found out by the kernel.
-/
set_option linter.unusedVariables false
set_option maxRecDepth 1000000
namespace Go.U
open Go Go.RowKit Go.Proofs
theorem c28 : chunkIs 17 ck28 (callU (cx kn0 33 (nt2 33)) 8806 34 ck28.args (canon 17 ck28)) = true := by kernel_rfl
theorem c53 : chunkIs 17 ck53 (callU (cx kn0 17 (nt4 17)) 8559 32 ck53.args (canon 17 ck53)) = true := by kernel_rfl
theorem c25 : chunkIs 17 ck25 (callU (cx kn0 17 (nt0 17)) 235 81 ck25.args (canon 17 ck25)) = true := by kernel_rfl
end Go.U
