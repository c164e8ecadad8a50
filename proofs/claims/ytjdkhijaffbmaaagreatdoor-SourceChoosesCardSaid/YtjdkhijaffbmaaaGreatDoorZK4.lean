import Derived.Test.YtjdkhijaffbmaaaGreatDoorZD
/-
  X: calls that were gone through once: found out by the kernel.
-/
set_option linter.unusedVariables false
set_option maxRecDepth 1000000
namespace Go.U
open Go Go.RowKit Go.Proofs
theorem c54 : chunkIs 17 ck54 (callU (cx kn0 26 (nt2 26)) 6226 34 ck54.args (canon 17 ck54)) = true := by kernel_rfl
theorem c69 : chunkIs 17 ck69 (callU (cx kn0 17 (nt6 17)) 817 8 ck69.args (canon 17 ck69)) = true := by kernel_rfl
theorem c19 : chunkIs 17 ck19 (callU (cx kn0 33 (nt0 33)) 658 85 ck19.args (canon 17 ck19)) = true := by kernel_rfl
theorem c59 : chunkIs 17 ck59 (callU (cx kn0 26 (nt3 26)) 649 33 ck59.args (canon 17 ck59)) = true := by kernel_rfl
theorem c57 : chunkIs 17 ck57 (callU (cx kn0 27 (nt1 27)) 550 102 ck57.args (canon 17 ck57)) = true := by kernel_rfl
theorem c41 : chunkIs 17 ck41 (callU (cx kn0 18 (nt0 18)) 519 152 ck41.args (canon 17 ck41)) = true := by kernel_rfl
theorem c65 : chunkIs 17 ck65 (callU (cx kn0 18 (nt0 18)) 423 60 ck65.args (canon 17 ck65)) = true := by kernel_rfl
theorem c52 : chunkIs 17 ck52 (callU (cx kn0 26 (nt0 26)) 415 85 ck52.args (canon 17 ck52)) = true := by kernel_rfl
theorem c43 : chunkIs 17 ck43 (callU (cx kn0 18 (nt0 18)) 358 18 ck43.args (canon 17 ck43)) = true := by kernel_rfl
theorem c27 : chunkIs 17 ck27 (callU (cx kn0 17 (nt0 17)) 197 81 ck27.args (canon 17 ck27)) = true := by kernel_rfl
theorem c6 : chunkIs 17 ck6 (callU (cx kn0 17 (nt2 17)) 196 371 ck6.args (canon 17 ck6)) = true := by kernel_rfl
theorem c10 : chunkIs 17 ck10 (callU (cx kn0 17 (nt2 17)) 196 371 ck10.args (canon 17 ck10)) = true := by kernel_rfl
theorem c50 : chunkIs 17 ck50 (callU (cx kn0 17 (nt2 17)) 196 371 ck50.args (canon 17 ck50)) = true := by kernel_rfl
theorem c46 : chunkIs 17 ck46 (callU (cx kn0 17 (nt2 17)) 186 371 ck46.args (canon 17 ck46)) = true := by kernel_rfl
theorem c31 : chunkIs 17 ck31 (callU (cx kn0 38 (nt0 38)) 163 205 ck31.args (canon 17 ck31)) = true := by kernel_rfl
theorem c56 : chunkIs 17 ck56 (callU (cx kn0 31 (nt0 31)) 163 205 ck56.args (canon 17 ck56)) = true := by kernel_rfl
theorem c21 : chunkIs 17 ck21 (callU (cx kn0 17 (nt0 17)) 159 81 ck21.args (canon 17 ck21)) = true := by kernel_rfl
theorem c22 : chunkIs 17 ck22 (callU (cx kn0 17 (nt0 17)) 159 81 ck22.args (canon 17 ck22)) = true := by kernel_rfl
theorem c23 : chunkIs 17 ck23 (callU (cx kn0 17 (nt0 17)) 159 81 ck23.args (canon 17 ck23)) = true := by kernel_rfl
theorem c29 : chunkIs 17 ck29 (callU (cx kn0 33 (nt0 33)) 147 104 ck29.args (canon 17 ck29)) = true := by kernel_rfl
theorem c55 : chunkIs 17 ck55 (callU (cx kn0 26 (nt0 26)) 147 104 ck55.args (canon 17 ck55)) = true := by kernel_rfl
theorem c42 : chunkIs 17 ck42 (callU (cx kn0 34 (nt1 34)) 134 28 ck42.args (canon 17 ck42)) = true := by kernel_rfl
theorem c62 : chunkIs 17 ck62 (callU (cx kn0 27 (nt1 27)) 134 28 ck62.args (canon 17 ck62)) = true := by kernel_rfl
theorem c40 : chunkIs 17 ck40 (callU (cx kn0 33 (nt3 33)) 120 6 ck40.args (canon 17 ck40)) = true := by kernel_rfl
theorem c61 : chunkIs 17 ck61 (callU (cx kn0 26 (nt3 26)) 120 6 ck61.args (canon 17 ck61)) = true := by kernel_rfl
theorem c1 : chunkIs 17 ck1 (callU (cx kn0 17 (nt0 17)) 97 422 ck1.args (canon 17 ck1)) = true := by kernel_rfl
theorem c66 : chunkIs 17 ck66 (callU (cx kn0 31 (nt1 31)) 91 25 ck66.args (canon 17 ck66)) = true := by kernel_rfl
theorem c7 : chunkIs 17 ck7 (callU (cx kn0 17 (nt1 17)) 81 370 ck7.args (canon 17 ck7)) = true := by kernel_rfl
theorem c16 : chunkIs 17 ck16 (callU (cx kn0 17 (nt0 17)) 81 374 ck16.args (canon 17 ck16)) = true := by kernel_rfl
theorem c47 : chunkIs 17 ck47 (callU (cx kn0 17 (nt1 17)) 81 370 ck47.args (canon 17 ck47)) = true := by kernel_rfl
theorem c64 : chunkIs 17 ck64 (callU (cx kn0 17 (nt0 17)) 77 123 ck64.args (canon 17 ck64)) = true := by kernel_rfl
theorem c30 : chunkIs 17 ck30 (callU (cx kn0 18 (nt0 18)) 75 202 ck30.args (canon 17 ck30)) = true := by kernel_rfl
theorem c5 : chunkIs 17 ck5 (callU (cx kn0 17 (nt1 17)) 70 301 ck5.args (canon 17 ck5)) = true := by kernel_rfl
theorem c9 : chunkIs 17 ck9 (callU (cx kn0 17 (nt1 17)) 70 301 ck9.args (canon 17 ck9)) = true := by kernel_rfl
theorem c49 : chunkIs 17 ck49 (callU (cx kn0 17 (nt1 17)) 70 301 ck49.args (canon 17 ck49)) = true := by kernel_rfl
theorem c44 : chunkIs 17 ck44 (callU (cx kn0 17 (nt1 17)) 69 370 ck44.args (canon 17 ck44)) = true := by kernel_rfl
theorem c45 : chunkIs 17 ck45 (callU (cx kn0 17 (nt1 17)) 69 301 ck45.args (canon 17 ck45)) = true := by kernel_rfl
theorem c24 : chunkIs 17 ck24 (callU (cx kn0 18 (nt0 18)) 63 303 ck24.args (canon 17 ck24)) = true := by kernel_rfl
theorem c15 : chunkIs 17 ck15 (callU (cx kn0 17 (nt0 17)) 59 374 ck15.args (canon 17 ck15)) = true := by kernel_rfl
theorem c39 : chunkIs 17 ck39 (callU (cx kn0 17 (nt5 17)) 49 13 ck39.args (canon 17 ck39)) = true := by kernel_rfl
theorem c60 : chunkIs 17 ck60 (callU (cx kn0 17 (nt5 17)) 49 13 ck60.args (canon 17 ck60)) = true := by kernel_rfl
theorem c4 : chunkIs 17 ck4 (callU (cx kn0 17 (nt0 17)) 47 419 ck4.args (canon 17 ck4)) = true := by kernel_rfl
theorem c8 : chunkIs 17 ck8 (callU (cx kn0 17 (nt0 17)) 47 419 ck8.args (canon 17 ck8)) = true := by kernel_rfl
theorem c48 : chunkIs 17 ck48 (callU (cx kn0 17 (nt0 17)) 47 419 ck48.args (canon 17 ck48)) = true := by kernel_rfl
theorem c63 : chunkIs 17 ck63 (callU (cx kn0 28 (nt3 28)) 47 17 ck63.args (canon 17 ck63)) = true := by kernel_rfl
theorem c67 : chunkIs 17 ck67 (callU (cx kn0 28 (nt3 28)) 47 17 ck67.args (canon 17 ck67)) = true := by kernel_rfl
theorem c68 : chunkIs 17 ck68 (callU (cx kn0 27 (nt3 27)) 44 17 ck68.args (canon 17 ck68)) = true := by kernel_rfl
theorem c13 : chunkIs 17 ck13 (callU (cx kn0 17 (nt0 17)) 43 374 ck13.args (canon 17 ck13)) = true := by kernel_rfl
theorem c14 : chunkIs 17 ck14 (callU (cx kn0 17 (nt0 17)) 43 374 ck14.args (canon 17 ck14)) = true := by kernel_rfl
theorem c17 : chunkIs 17 ck17 (callU (cx kn0 17 (nt0 17)) 43 374 ck17.args (canon 17 ck17)) = true := by kernel_rfl
theorem c18 : chunkIs 17 ck18 (callU (cx kn0 17 (nt0 17)) 43 374 ck18.args (canon 17 ck18)) = true := by kernel_rfl
theorem c33 : chunkIs 17 ck33 (callU (cx kn0 41 (nt0 41)) 42 169 ck33.args (canon 17 ck33)) = true := by kernel_rfl
theorem c34 : chunkIs 17 ck34 (callU (cx kn0 42 (nt0 42)) 42 169 ck34.args (canon 17 ck34)) = true := by kernel_rfl
theorem c35 : chunkIs 17 ck35 (callU (cx kn0 42 (nt0 42)) 42 169 ck35.args (canon 17 ck35)) = true := by kernel_rfl
theorem c36 : chunkIs 17 ck36 (callU (cx kn0 42 (nt0 42)) 42 169 ck36.args (canon 17 ck36)) = true := by kernel_rfl
theorem c37 : chunkIs 17 ck37 (callU (cx kn0 42 (nt0 42)) 42 169 ck37.args (canon 17 ck37)) = true := by kernel_rfl
theorem c58 : chunkIs 17 ck58 (callU (cx kn0 34 (nt0 34)) 42 169 ck58.args (canon 17 ck58)) = true := by kernel_rfl
theorem c2 : chunkIs 17 ck2 (callU (cx kn0 17 (nt1 17)) 41 370 ck2.args (canon 17 ck2)) = true := by kernel_rfl
end Go.U
