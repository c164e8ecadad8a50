import Derived.Test.YtjdkhijaffbmaaaGreatDoorXD
/-
  X: calls that were gone through once: found out by the kernel.
-/
set_option linter.unusedVariables false
set_option maxRecDepth 1000000
namespace Go.U
open Go Go.RowKit Go.Proofs
theorem c35 : chunkIs 17 ck35 (callU (cx kn0 29 (nt2 29)) 8106 34 ck35.args (canon 17 ck35)) = true := by kernel_rfl
theorem c49 : chunkIs 17 ck49 (callU (cx kn0 17 (nt1 17)) 784 341 ck49.args (canon 17 ck49)) = true := by kernel_rfl
theorem c51 : chunkIs 17 ck51 (callU (cx kn0 18 (nt0 18)) 519 152 ck51.args (canon 17 ck51)) = true := by kernel_rfl
theorem c42 : chunkIs 17 ck42 (callU (cx kn0 30 (nt1 30)) 512 102 ck42.args (canon 17 ck42)) = true := by kernel_rfl
theorem c24 : chunkIs 17 ck24 (callU (cx kn0 29 (nt0 29)) 484 85 ck24.args (canon 17 ck24)) = true := by kernel_rfl
theorem c65 : chunkIs 17 ck65 (callU (cx kn0 20 (nt0 20)) 395 18 ck65.args (canon 17 ck65)) = true := by kernel_rfl
theorem c30 : chunkIs 17 ck30 (callU (cx kn0 17 (nt0 17)) 254 81 ck30.args (canon 17 ck30)) = true := by kernel_rfl
theorem c29 : chunkIs 17 ck29 (callU (cx kn0 17 (nt0 17)) 235 81 ck29.args (canon 17 ck29)) = true := by kernel_rfl
theorem c59 : chunkIs 17 ck59 (callU (cx kn0 18 (nt0 18)) 226 60 ck59.args (canon 17 ck59)) = true := by kernel_rfl
theorem c61 : chunkIs 17 ck61 (callU (cx kn0 18 (nt0 18)) 226 60 ck61.args (canon 17 ck61)) = true := by kernel_rfl
theorem c33 : chunkIs 17 ck33 (callU (cx kn0 17 (nt0 17)) 197 81 ck33.args (canon 17 ck33)) = true := by kernel_rfl
theorem c75 : chunkIs 17 ck75 (callU (cx kn0 19 (nt1 19)) 190 148 ck75.args (canon 17 ck75)) = true := by kernel_rfl
theorem c71 : chunkIs 17 ck71 (callU (cx kn0 35 (nt6 35)) 182 11 ck71.args (canon 17 ck71)) = true := by kernel_rfl
theorem c41 : chunkIs 17 ck41 (callU (cx kn0 34 (nt0 34)) 180 207 ck41.args (canon 17 ck41)) = true := by kernel_rfl
theorem c36 : chunkIs 17 ck36 (callU (cx kn0 29 (nt0 29)) 176 104 ck36.args (canon 17 ck36)) = true := by kernel_rfl
theorem c38 : chunkIs 17 ck38 (callU (cx kn0 34 (nt0 34)) 163 205 ck38.args (canon 17 ck38)) = true := by kernel_rfl
theorem c26 : chunkIs 17 ck26 (callU (cx kn0 17 (nt0 17)) 159 81 ck26.args (canon 17 ck26)) = true := by kernel_rfl
theorem c27 : chunkIs 17 ck27 (callU (cx kn0 17 (nt0 17)) 159 81 ck27.args (canon 17 ck27)) = true := by kernel_rfl
theorem c31 : chunkIs 17 ck31 (callU (cx kn0 17 (nt0 17)) 159 81 ck31.args (canon 17 ck31)) = true := by kernel_rfl
theorem c32 : chunkIs 17 ck32 (callU (cx kn0 17 (nt0 17)) 159 81 ck32.args (canon 17 ck32)) = true := by kernel_rfl
theorem c34 : chunkIs 17 ck34 (callU (cx kn0 17 (nt0 17)) 159 81 ck34.args (canon 17 ck34)) = true := by kernel_rfl
theorem c76 : chunkIs 17 ck76 (callU (cx kn0 33 (nt4 33)) 152 64 ck76.args (canon 17 ck76)) = true := by kernel_rfl
theorem c20 : chunkIs 17 ck20 (callU (cx kn0 17 (nt0 17)) 151 374 ck20.args (canon 17 ck20)) = true := by kernel_rfl
theorem c8 : chunkIs 17 ck8 (callU (cx kn0 17 (nt2 17)) 148 371 ck8.args (canon 17 ck8)) = true := by kernel_rfl
theorem c21 : chunkIs 17 ck21 (callU (cx kn0 17 (nt0 17)) 139 374 ck21.args (canon 17 ck21)) = true := by kernel_rfl
theorem c22 : chunkIs 17 ck22 (callU (cx kn0 17 (nt0 17)) 139 374 ck22.args (canon 17 ck22)) = true := by kernel_rfl
theorem c23 : chunkIs 17 ck23 (callU (cx kn0 17 (nt0 17)) 129 374 ck23.args (canon 17 ck23)) = true := by kernel_rfl
theorem c64 : chunkIs 17 ck64 (callU (cx kn0 32 (nt5 32)) 125 28 ck64.args (canon 17 ck64)) = true := by kernel_rfl
theorem c77 : chunkIs 17 ck77 (callU (cx kn0 35 (nt5 35)) 125 28 ck77.args (canon 17 ck77)) = true := by kernel_rfl
theorem c50 : chunkIs 17 ck50 (callU (cx kn0 29 (nt3 29)) 124 236 ck50.args (canon 17 ck50)) = true := by kernel_rfl
theorem c78 : chunkIs 17 ck78 (callU (cx kn0 35 (nt6 35)) 122 31 ck78.args (canon 17 ck78)) = true := by kernel_rfl
theorem c47 : chunkIs 17 ck47 (callU (cx kn0 29 (nt0 29)) 120 15 ck47.args (canon 17 ck47)) = true := by kernel_rfl
theorem c48 : chunkIs 17 ck48 (callU (cx kn0 29 (nt3 29)) 105 6 ck48.args (canon 17 ck48)) = true := by kernel_rfl
theorem c53 : chunkIs 17 ck53 (callU (cx kn0 19 (nt0 19)) 98 237 ck53.args (canon 17 ck53)) = true := by kernel_rfl
theorem c1 : chunkIs 17 ck1 (callU (cx kn0 17 (nt0 17)) 97 422 ck1.args (canon 17 ck1)) = true := by kernel_rfl
theorem c63 : chunkIs 17 ck63 (callU (cx kn0 30 (nt4 30)) 84 64 ck63.args (canon 17 ck63)) = true := by kernel_rfl
theorem c4 : chunkIs 17 ck4 (callU (cx kn0 17 (nt1 17)) 81 370 ck4.args (canon 17 ck4)) = true := by kernel_rfl
theorem c15 : chunkIs 17 ck15 (callU (cx kn0 17 (nt0 17)) 81 374 ck15.args (canon 17 ck15)) = true := by kernel_rfl
theorem c70 : chunkIs 17 ck70 (callU (cx kn0 22 (nt2 22)) 75 154 ck70.args (canon 17 ck70)) = true := by kernel_rfl
theorem c67 : chunkIs 17 ck67 (callU (cx kn0 21 (nt1 21)) 64 147 ck67.args (canon 17 ck67)) = true := by kernel_rfl
theorem c28 : chunkIs 17 ck28 (callU (cx kn0 18 (nt0 18)) 63 303 ck28.args (canon 17 ck28)) = true := by kernel_rfl
theorem c69 : chunkIs 17 ck69 (callU (cx kn0 36 (nt1 36)) 62 158 ck69.args (canon 17 ck69)) = true := by kernel_rfl
theorem c72 : chunkIs 17 ck72 (callU (cx kn0 38 (nt1 38)) 62 158 ck72.args (canon 17 ck72)) = true := by kernel_rfl
theorem c79 : chunkIs 17 ck79 (callU (cx kn0 17 (nt7 17)) 60 12 ck79.args (canon 17 ck79)) = true := by kernel_rfl
theorem c14 : chunkIs 17 ck14 (callU (cx kn0 17 (nt0 17)) 59 374 ck14.args (canon 17 ck14)) = true := by kernel_rfl
theorem c52 : chunkIs 17 ck52 (callU (cx kn0 30 (nt0 30)) 54 367 ck52.args (canon 17 ck52)) = true := by kernel_rfl
theorem c3 : chunkIs 17 ck3 (callU (cx kn0 17 (nt1 17)) 53 370 ck3.args (canon 17 ck3)) = true := by kernel_rfl
theorem c73 : chunkIs 17 ck73 (callU (cx kn0 24 (nt2 24)) 52 154 ck73.args (canon 17 ck73)) = true := by kernel_rfl
theorem c40 : chunkIs 17 ck40 (callU (cx kn0 37 (nt0 37)) 51 405 ck40.args (canon 17 ck40)) = true := by kernel_rfl
theorem c54 : chunkIs 17 ck54 (callU (cx kn0 19 (nt0 19)) 50 240 ck54.args (canon 17 ck54)) = true := by kernel_rfl
theorem c37 : chunkIs 17 ck37 (callU (cx kn0 18 (nt0 18)) 49 202 ck37.args (canon 17 ck37)) = true := by kernel_rfl
theorem c39 : chunkIs 17 ck39 (callU (cx kn0 18 (nt0 18)) 49 202 ck39.args (canon 17 ck39)) = true := by kernel_rfl
theorem c46 : chunkIs 17 ck46 (callU (cx kn0 17 (nt5 17)) 49 13 ck46.args (canon 17 ck46)) = true := by kernel_rfl
theorem c5 : chunkIs 17 ck5 (callU (cx kn0 17 (nt0 17)) 47 428 ck5.args (canon 17 ck5)) = true := by kernel_rfl
theorem c6 : chunkIs 17 ck6 (callU (cx kn0 17 (nt0 17)) 47 419 ck6.args (canon 17 ck6)) = true := by kernel_rfl
theorem c55 : chunkIs 17 ck55 (callU (cx kn0 17 (nt0 17)) 47 419 ck55.args (canon 17 ck55)) = true := by kernel_rfl
theorem c56 : chunkIs 17 ck56 (callU (cx kn0 17 (nt0 17)) 47 419 ck56.args (canon 17 ck56)) = true := by kernel_rfl
theorem c57 : chunkIs 17 ck57 (callU (cx kn0 17 (nt0 17)) 47 419 ck57.args (canon 17 ck57)) = true := by kernel_rfl
theorem c12 : chunkIs 17 ck12 (callU (cx kn0 17 (nt0 17)) 43 374 ck12.args (canon 17 ck12)) = true := by kernel_rfl
theorem c13 : chunkIs 17 ck13 (callU (cx kn0 17 (nt0 17)) 43 374 ck13.args (canon 17 ck13)) = true := by kernel_rfl
theorem c16 : chunkIs 17 ck16 (callU (cx kn0 17 (nt0 17)) 43 374 ck16.args (canon 17 ck16)) = true := by kernel_rfl
theorem c17 : chunkIs 17 ck17 (callU (cx kn0 17 (nt0 17)) 43 374 ck17.args (canon 17 ck17)) = true := by kernel_rfl
theorem c18 : chunkIs 17 ck18 (callU (cx kn0 17 (nt0 17)) 43 374 ck18.args (canon 17 ck18)) = true := by kernel_rfl
theorem c19 : chunkIs 17 ck19 (callU (cx kn0 17 (nt0 17)) 43 374 ck19.args (canon 17 ck19)) = true := by kernel_rfl
theorem c66 : chunkIs 17 ck66 (callU (cx kn0 18 (nt0 18)) 43 110 ck66.args (canon 17 ck66)) = true := by kernel_rfl
theorem c43 : chunkIs 17 ck43 (callU (cx kn0 43 (nt0 43)) 42 169 ck43.args (canon 17 ck43)) = true := by kernel_rfl
theorem c44 : chunkIs 17 ck44 (callU (cx kn0 51 (nt0 51)) 42 169 ck44.args (canon 17 ck44)) = true := by kernel_rfl
theorem c58 : chunkIs 17 ck58 (callU (cx kn0 19 (nt0 19)) 42 336 ck58.args (canon 17 ck58)) = true := by kernel_rfl
theorem c60 : chunkIs 17 ck60 (callU (cx kn0 19 (nt0 19)) 42 336 ck60.args (canon 17 ck60)) = true := by kernel_rfl
theorem c62 : chunkIs 17 ck62 (callU (cx kn0 19 (nt0 19)) 42 234 ck62.args (canon 17 ck62)) = true := by kernel_rfl
theorem c68 : chunkIs 17 ck68 (callU (cx kn0 19 (nt0 19)) 42 234 ck68.args (canon 17 ck68)) = true := by kernel_rfl
theorem c2 : chunkIs 17 ck2 (callU (cx kn0 17 (nt1 17)) 41 370 ck2.args (canon 17 ck2)) = true := by kernel_rfl
theorem c9 : chunkIs 17 ck9 (callU (cx kn0 17 (nt1 17)) 41 370 ck9.args (canon 17 ck9)) = true := by kernel_rfl
end Go.U
