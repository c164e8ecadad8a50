import Derived.Test.YtgaboagpnnoabaaGreatDoorXD
/-
  X: calls that were gone through once: found out by the kernel.
-/
set_option linter.unusedVariables false
set_option maxRecDepth 1000000
namespace Go.U
open Go Go.RowKit Go.Proofs
theorem c16 : chunkIs 17 ck16 (callU (cx [] 17 (nt0 17)) 3913 321 ck16.args (canon 17 ck16)) = true := by kernel_rfl
theorem c6 : chunkIs 17 ck6 (callU (cx [] 17 (nt2 17)) 209 318 ck6.args (canon 17 ck6)) = true := by kernel_rfl
theorem c30 : chunkIs 17 ck30 (callU (cx [] 17 (nt0 17)) 197 55 ck30.args (canon 17 ck30)) = true := by kernel_rfl
theorem c31 : chunkIs 17 ck31 (callU (cx [] 17 (nt0 17)) 197 55 ck31.args (canon 17 ck31)) = true := by kernel_rfl
theorem c59 : chunkIs 17 ck59 (callU (cx [] 17 (nt0 17)) 197 55 ck59.args (canon 17 ck59)) = true := by kernel_rfl
theorem c52 : chunkIs 17 ck52 (callU (cx [] 17 (nt2 17)) 196 318 ck52.args (canon 17 ck52)) = true := by kernel_rfl
theorem c14 : chunkIs 17 ck14 (callU (cx [] 17 (nt2 17)) 186 318 ck14.args (canon 17 ck14)) = true := by kernel_rfl
theorem c48 : chunkIs 17 ck48 (callU (cx [] 17 (nt2 17)) 186 318 ck48.args (canon 17 ck48)) = true := by kernel_rfl
theorem c63 : chunkIs 17 ck63 (callU (cx [] 31 (nt0 31)) 163 173 ck63.args (canon 17 ck63)) = true := by kernel_rfl
theorem c26 : chunkIs 17 ck26 (callU (cx [] 17 (nt0 17)) 159 55 ck26.args (canon 17 ck26)) = true := by kernel_rfl
theorem c27 : chunkIs 17 ck27 (callU (cx [] 17 (nt0 17)) 159 55 ck27.args (canon 17 ck27)) = true := by kernel_rfl
theorem c58 : chunkIs 17 ck58 (callU (cx [] 17 (nt0 17)) 159 55 ck58.args (canon 17 ck58)) = true := by kernel_rfl
theorem c61 : chunkIs 17 ck61 (callU (cx [] 26 (nt0 26)) 147 78 ck61.args (canon 17 ck61)) = true := by kernel_rfl
theorem c70 : chunkIs 17 ck70 (callU (cx [] 27 (nt1 27)) 134 29 ck70.args (canon 17 ck70)) = true := by kernel_rfl
theorem c38 : chunkIs 17 ck38 (callU (cx [] 25 (nt1 25)) 133 76 ck38.args (canon 17 ck38)) = true := by kernel_rfl
theorem c69 : chunkIs 17 ck69 (callU (cx [] 26 (nt3 26)) 120 5 ck69.args (canon 17 ck69)) = true := by kernel_rfl
theorem c21 : chunkIs 17 ck21 (callU (cx [] 17 (nt0 17)) 119 321 ck21.args (canon 17 ck21)) = true := by kernel_rfl
theorem c43 : chunkIs 17 ck43 (callU (cx [] 25 (nt1 25)) 102 29 ck43.args (canon 17 ck43)) = true := by kernel_rfl
theorem c35 : chunkIs 17 ck35 (callU (cx [] 24 (nt0 24)) 100 78 ck35.args (canon 17 ck35)) = true := by kernel_rfl
theorem c1 : chunkIs 17 ck1 (callU (cx [] 17 (nt0 17)) 97 383 ck1.args (canon 17 ck1)) = true := by kernel_rfl
theorem c20 : chunkIs 17 ck20 (callU (cx [] 17 (nt0 17)) 91 321 ck20.args (canon 17 ck20)) = true := by kernel_rfl
theorem c3 : chunkIs 17 ck3 (callU (cx [] 17 (nt1 17)) 81 317 ck3.args (canon 17 ck3)) = true := by kernel_rfl
theorem c23 : chunkIs 17 ck23 (callU (cx [] 17 (nt0 17)) 81 321 ck23.args (canon 17 ck23)) = true := by kernel_rfl
theorem c49 : chunkIs 17 ck49 (callU (cx [] 17 (nt1 17)) 81 317 ck49.args (canon 17 ck49)) = true := by kernel_rfl
theorem c72 : chunkIs 17 ck72 (callU (cx [] 17 (nt0 17)) 77 106 ck72.args (canon 17 ck72)) = true := by kernel_rfl
theorem c62 : chunkIs 17 ck62 (callU (cx [] 18 (nt0 18)) 75 170 ck62.args (canon 17 ck62)) = true := by kernel_rfl
theorem c51 : chunkIs 17 ck51 (callU (cx [] 17 (nt1 17)) 70 266 ck51.args (canon 17 ck51)) = true := by kernel_rfl
theorem c7 : chunkIs 17 ck7 (callU (cx [] 17 (nt1 17)) 69 317 ck7.args (canon 17 ck7)) = true := by kernel_rfl
theorem c9 : chunkIs 17 ck9 (callU (cx [] 17 (nt1 17)) 69 266 ck9.args (canon 17 ck9)) = true := by kernel_rfl
theorem c11 : chunkIs 17 ck11 (callU (cx [] 17 (nt1 17)) 69 317 ck11.args (canon 17 ck11)) = true := by kernel_rfl
theorem c13 : chunkIs 17 ck13 (callU (cx [] 17 (nt1 17)) 69 266 ck13.args (canon 17 ck13)) = true := by kernel_rfl
theorem c45 : chunkIs 17 ck45 (callU (cx [] 17 (nt1 17)) 69 317 ck45.args (canon 17 ck45)) = true := by kernel_rfl
theorem c47 : chunkIs 17 ck47 (callU (cx [] 17 (nt1 17)) 69 266 ck47.args (canon 17 ck47)) = true := by kernel_rfl
theorem c28 : chunkIs 17 ck28 (callU (cx [] 18 (nt0 18)) 63 268 ck28.args (canon 17 ck28)) = true := by kernel_rfl
theorem c22 : chunkIs 17 ck22 (callU (cx [] 17 (nt0 17)) 59 321 ck22.args (canon 17 ck22)) = true := by kernel_rfl
theorem c4 : chunkIs 17 ck4 (callU (cx [] 17 (nt0 17)) 53 415 ck4.args (canon 17 ck4)) = true := by kernel_rfl
theorem c8 : chunkIs 17 ck8 (callU (cx [] 17 (nt0 17)) 53 415 ck8.args (canon 17 ck8)) = true := by kernel_rfl
theorem c36 : chunkIs 17 ck36 (callU (cx [] 18 (nt0 18)) 49 170 ck36.args (canon 17 ck36)) = true := by kernel_rfl
theorem c40 : chunkIs 17 ck40 (callU (cx [] 17 (nt5 17)) 49 8 ck40.args (canon 17 ck40)) = true := by kernel_rfl
theorem c68 : chunkIs 17 ck68 (callU (cx [] 17 (nt5 17)) 49 8 ck68.args (canon 17 ck68)) = true := by kernel_rfl
theorem c12 : chunkIs 17 ck12 (callU (cx [] 17 (nt0 17)) 47 415 ck12.args (canon 17 ck12)) = true := by kernel_rfl
theorem c46 : chunkIs 17 ck46 (callU (cx [] 17 (nt0 17)) 47 415 ck46.args (canon 17 ck46)) = true := by kernel_rfl
theorem c50 : chunkIs 17 ck50 (callU (cx [] 17 (nt0 17)) 47 415 ck50.args (canon 17 ck50)) = true := by kernel_rfl
theorem c71 : chunkIs 17 ck71 (callU (cx [] 28 (nt3 28)) 47 12 ck71.args (canon 17 ck71)) = true := by kernel_rfl
theorem c74 : chunkIs 17 ck74 (callU (cx [] 28 (nt3 28)) 47 12 ck74.args (canon 17 ck74)) = true := by kernel_rfl
theorem c75 : chunkIs 17 ck75 (callU (cx [] 27 (nt3 27)) 44 12 ck75.args (canon 17 ck75)) = true := by kernel_rfl
theorem c17 : chunkIs 17 ck17 (callU (cx [] 17 (nt0 17)) 43 321 ck17.args (canon 17 ck17)) = true := by kernel_rfl
theorem c18 : chunkIs 17 ck18 (callU (cx [] 17 (nt0 17)) 43 321 ck18.args (canon 17 ck18)) = true := by kernel_rfl
theorem c19 : chunkIs 17 ck19 (callU (cx [] 17 (nt0 17)) 43 321 ck19.args (canon 17 ck19)) = true := by kernel_rfl
theorem c54 : chunkIs 17 ck54 (callU (cx [] 17 (nt0 17)) 43 321 ck54.args (canon 17 ck54)) = true := by kernel_rfl
theorem c55 : chunkIs 17 ck55 (callU (cx [] 17 (nt0 17)) 43 321 ck55.args (canon 17 ck55)) = true := by kernel_rfl
theorem c66 : chunkIs 17 ck66 (callU (cx [] 34 (nt0 34)) 42 137 ck66.args (canon 17 ck66)) = true := by kernel_rfl
theorem c2 : chunkIs 17 ck2 (callU (cx [] 17 (nt1 17)) 41 317 ck2.args (canon 17 ck2)) = true := by kernel_rfl
end Go.U
