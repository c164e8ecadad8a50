import Derived.Test.YtjdkhijaffbmaaaGreatDoorZD
/-
  X: calls that were gone through once: found out by the kernel.
-/
set_option linter.unusedVariables false
set_option maxRecDepth 1000000
namespace Go.U
open Go Go.RowKit Go.Proofs
theorem c51 : chunkIs 17 ck51 (callU (cx kn0 17 (nt3 17)) 14443 81 ck51.args (canon 17 ck51)) = true := by kernel_rfl
theorem c0 : chunkIs 17 ck0 (callU (cx kn0 17 (nt0 17)) 1159 374 ck0.args (canon 17 ck0)) = true := by kernel_rfl
theorem c38 : chunkIs 17 ck38 (callU (cx kn0 33 (nt3 33)) 880 33 ck38.args (canon 17 ck38)) = true := by kernel_rfl
theorem c32 : chunkIs 17 ck32 (callU (cx kn0 34 (nt1 34)) 864 102 ck32.args (canon 17 ck32)) = true := by kernel_rfl
theorem c26 : chunkIs 17 ck26 (callU (cx kn0 17 (nt0 17)) 254 81 ck26.args (canon 17 ck26)) = true := by kernel_rfl
end Go.U
