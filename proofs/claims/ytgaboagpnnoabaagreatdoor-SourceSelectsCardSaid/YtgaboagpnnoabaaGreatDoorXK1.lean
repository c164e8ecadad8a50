import Derived.Test.YtgaboagpnnoabaaGreatDoorXD
/-
  X: calls that were gone through once: found out by the kernel.
-/
set_option linter.unusedVariables false
set_option maxRecDepth 1000000
namespace Go.U
open Go Go.RowKit Go.Proofs
theorem c53 : chunkIs 17 ck53 (callU (cx [] 17 (nt3 17)) 14443 55 ck53.args (canon 17 ck53)) = true := by kernel_rfl
theorem c0 : chunkIs 17 ck0 (callU (cx [] 17 (nt0 17)) 1159 321 ck0.args (canon 17 ck0)) = true := by kernel_rfl
theorem c76 : chunkIs 17 ck76 (callU (cx [] 17 (nt6 17)) 817 7 ck76.args (canon 17 ck76)) = true := by kernel_rfl
theorem c67 : chunkIs 17 ck67 (callU (cx [] 26 (nt3 26)) 649 24 ck67.args (canon 17 ck67)) = true := by kernel_rfl
theorem c42 : chunkIs 17 ck42 (callU (cx [] 18 (nt0 18)) 519 191 ck42.args (canon 17 ck42)) = true := by kernel_rfl
end Go.U
