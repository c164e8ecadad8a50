import Derived.Test.YtnmmefndcbnhcaaGreatDoorXD
/-
  X: calls that were gone through once: found out by the kernel.
-/
set_option linter.unusedVariables false
set_option maxRecDepth 1000000
namespace Go.U
open Go Go.RowKit Go.Proofs
theorem c35 : chunkIs 17 ck35 (callU (cx kn0 29 (nt2 29)) 8106 48 ck35.args (canon 17 ck35)) = true := by kernel_rfl
theorem c51 : chunkIs 17 ck51 (callU (cx kn0 18 (nt1 18)) 1203 353 ck51.args (canon 17 ck51)) = true := by kernel_rfl
theorem c86 : chunkIs 17 ck86 (callU (cx kn0 18 (nt1 18)) 1203 353 ck86.args (canon 17 ck86)) = true := by kernel_rfl
theorem c99 : chunkIs 17 ck99 (callU (cx kn0 18 (nt1 18)) 1203 353 ck99.args (canon 17 ck99)) = true := by kernel_rfl
theorem c0 : chunkIs 17 ck0 (callU (cx kn0 17 (nt0 17)) 1159 402 ck0.args (canon 17 ck0)) = true := by kernel_rfl
theorem c45 : chunkIs 17 ck45 (callU (cx kn0 29 (nt3 29)) 1023 47 ck45.args (canon 17 ck45)) = true := by kernel_rfl
theorem c54 : chunkIs 17 ck54 (callU (cx kn0 17 (nt1 17)) 784 436 ck54.args (canon 17 ck54)) = true := by kernel_rfl
theorem c93 : chunkIs 17 ck93 (callU (cx kn0 18 (nt1 18)) 580 84 ck93.args (canon 17 ck93)) = true := by kernel_rfl
theorem c106 : chunkIs 17 ck106 (callU (cx kn0 18 (nt1 18)) 524 84 ck106.args (canon 17 ck106)) = true := by kernel_rfl
theorem c57 : chunkIs 17 ck57 (callU (cx kn0 18 (nt0 18)) 519 247 ck57.args (canon 17 ck57)) = true := by kernel_rfl
theorem c42 : chunkIs 17 ck42 (callU (cx kn0 30 (nt1 30)) 512 114 ck42.args (canon 17 ck42)) = true := by kernel_rfl
theorem c79 : chunkIs 17 ck79 (callU (cx kn0 23 (nt0 23)) 434 26 ck79.args (canon 17 ck79)) = true := by kernel_rfl
theorem c70 : chunkIs 17 ck70 (callU (cx kn0 21 (nt1 21)) 327 88 ck70.args (canon 17 ck70)) = true := by kernel_rfl
end Go.U
