import Derived.Test.YtgaboagpnnoabaaGreatDoorXD
/-
  X: calls that were gone through once: found out by the kernel.
-/
set_option linter.unusedVariables false
set_option maxRecDepth 1000000
namespace Go.U
open Go Go.RowKit Go.Proofs
theorem c57 : chunkIs 17 ck57 (callU (cx [] 17 (nt4 17)) 8559 23 ck57.args (canon 17 ck57)) = true := by kernel_rfl
theorem c60 : chunkIs 17 ck60 (callU (cx [] 26 (nt2 26)) 6226 25 ck60.args (canon 17 ck60)) = true := by kernel_rfl
theorem c73 : chunkIs 17 ck73 (callU (cx [] 31 (nt0 31)) 515 20 ck73.args (canon 17 ck73)) = true := by kernel_rfl
theorem c56 : chunkIs 17 ck56 (callU (cx [] 26 (nt0 26)) 415 59 ck56.args (canon 17 ck56)) = true := by kernel_rfl
theorem c44 : chunkIs 17 ck44 (callU (cx [] 18 (nt0 18)) 358 13 ck44.args (canon 17 ck44)) = true := by kernel_rfl
theorem c64 : chunkIs 17 ck64 (callU (cx [] 31 (nt0 31)) 255 174 ck64.args (canon 17 ck64)) = true := by kernel_rfl
theorem c32 : chunkIs 17 ck32 (callU (cx [] 17 (nt0 17)) 254 55 ck32.args (canon 17 ck32)) = true := by kernel_rfl
theorem c33 : chunkIs 17 ck33 (callU (cx [] 17 (nt0 17)) 254 55 ck33.args (canon 17 ck33)) = true := by kernel_rfl
theorem c29 : chunkIs 17 ck29 (callU (cx [] 17 (nt0 17)) 235 55 ck29.args (canon 17 ck29)) = true := by kernel_rfl
theorem c10 : chunkIs 17 ck10 (callU (cx [] 17 (nt2 17)) 226 318 ck10.args (canon 17 ck10)) = true := by kernel_rfl
theorem c24 : chunkIs 17 ck24 (callU (cx [] 24 (nt0 24)) 214 59 ck24.args (canon 17 ck24)) = true := by kernel_rfl
theorem c41 : chunkIs 17 ck41 (callU (cx [] 24 (nt3 24)) 88 5 ck41.args (canon 17 ck41)) = true := by kernel_rfl
end Go.U
