import Derived.Test.YtjdkhijaffbmaaaGreatDoorXD
/-
  X: calls that were gone through once: found out by the kernel.
-/
set_option linter.unusedVariables false
set_option maxRecDepth 1000000
namespace Go.U
open Go Go.RowKit Go.Proofs
theorem c25 : chunkIs 17 ck25 (callU (cx kn0 17 (nt4 17)) 11137 32 ck25.args (canon 17 ck25)) = true := by kernel_rfl
theorem c11 : chunkIs 17 ck11 (callU (cx kn0 17 (nt0 17)) 3913 374 ck11.args (canon 17 ck11)) = true := by kernel_rfl
theorem c0 : chunkIs 17 ck0 (callU (cx kn0 17 (nt0 17)) 1159 374 ck0.args (canon 17 ck0)) = true := by kernel_rfl
theorem c45 : chunkIs 17 ck45 (callU (cx kn0 29 (nt3 29)) 1023 33 ck45.args (canon 17 ck45)) = true := by kernel_rfl
theorem c74 : chunkIs 17 ck74 (callU (cx kn0 37 (nt6 37)) 296 11 ck74.args (canon 17 ck74)) = true := by kernel_rfl
theorem c7 : chunkIs 17 ck7 (callU (cx kn0 17 (nt1 17)) 70 301 ck7.args (canon 17 ck7)) = true := by kernel_rfl
end Go.U
