import Derived.Test.YtnmmefndcbnhcaaGreatDoorXD
/-
  X: calls that were gone through once: found out by the kernel.
-/
set_option linter.unusedVariables false
set_option maxRecDepth 1000000
namespace Go.U
open Go Go.RowKit Go.Proofs
theorem c25 : chunkIs 17 ck25 (callU (cx kn0 17 (nt4 17)) 11137 46 ck25.args (canon 17 ck25)) = true := by kernel_rfl
theorem c11 : chunkIs 17 ck11 (callU (cx kn0 17 (nt0 17)) 3913 402 ck11.args (canon 17 ck11)) = true := by kernel_rfl
theorem c111 : chunkIs 17 ck111 (callU (cx kn0 17 (nt7 17)) 2057 13 ck111.args (canon 17 ck111)) = true := by kernel_rfl
theorem c24 : chunkIs 17 ck24 (callU (cx kn0 29 (nt0 29)) 484 97 ck24.args (canon 17 ck24)) = true := by kernel_rfl
end Go.U
