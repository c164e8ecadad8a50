import Derived.Test.YtgaboagpnnoabaaGreatDoorXD
/-
  X: calls that were gone through once: found out by the kernel.
-/
set_option linter.unusedVariables false
set_option maxRecDepth 1000000
namespace Go.U
open Go Go.RowKit Go.Proofs
theorem c25 : chunkIs 17 ck25 (callU (cx [] 17 (nt4 17)) 9132 23 ck25.args (canon 17 ck25)) = true := by kernel_rfl
theorem c34 : chunkIs 17 ck34 (callU (cx [] 24 (nt2 24)) 7237 25 ck34.args (canon 17 ck34)) = true := by kernel_rfl
theorem c37 : chunkIs 17 ck37 (callU (cx [] 29 (nt0 29)) 608 173 ck37.args (canon 17 ck37)) = true := by kernel_rfl
theorem c39 : chunkIs 17 ck39 (callU (cx [] 24 (nt3 24)) 554 24 ck39.args (canon 17 ck39)) = true := by kernel_rfl
theorem c5 : chunkIs 17 ck5 (callU (cx [] 17 (nt1 17)) 69 266 ck5.args (canon 17 ck5)) = true := by kernel_rfl
end Go.U
