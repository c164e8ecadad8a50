import Derived.Test.YtnmmefndcbnhcaaGreatDoorYRa
import Derived.Test.YtnmmefndcbnhcaaGreatDoorYFA
import Derived.Test.YtnmmefndcbnhcaaGreatDoorYFB
import Derived.Test.YtnmmefndcbnhcaaGreatDoorYFC
import Derived.Test.YtnmmefndcbnhcaaGreatDoorYFD
import Derived.Test.YtnmmefndcbnhcaaGreatDoorYFE
import Derived.Test.YtnmmefndcbnhcaaGreatDoorYFG
import Derived.Test.YtnmmefndcbnhcaaGreatDoorYFH
/-
  The row: whatever number comes in, the law answers true.
-/
set_option linter.unusedVariables false
set_option linter.unusedSimpArgs false
set_option maxRecDepth 1000000
namespace Go.Proofs.YtnmmefndcbnhcaaGreatDoor
open Go Go.U Go.Proofs Go.ChangeShapes Go.WideShapes Go.ChangeAt Go.RowKit
theorem and2 {a b : Bool} (h : a = true) (k : b = true) : (a && b) = true := by rw [h, k]; rfl
theorem closed : joinedFacts Tryz.prog 4 Tryz.f4 (OpenSpec.ofChange Rows.stateTicksSpec).bare Rows.stateTicksRow = true := by
  unfold joinedFacts
  exact (and2 (and2 (and2 (and2 (and2 (and2 (and2 (and2 (and2 (and2 (and2 (and2 (and2 (and2 (and2 (and2 (and2 (and2 (and2 (and2 (and2 (and2 (and2 (and2 (and2 (and2 (and2 (and2 (and2 (and2 (and2 fE1 fE2) fE3) fE4) fE5) fE6) fE7) fE8) fE9) fA) fB) fC) fD) fG1) fG2) fG3) fG4) fG5) fG6) fG7) fG8) fG9) fG10) fG11) fG12) fG13) fG14) fG15) fG15a) fG15b) fG16) fG17)
theorem said : Rows.StateTicksSaid :=
  OpenClaim.holds_of_cond 4 Tryz.f4 rfl rfl rfl rfl rfl rfl rfl ⟨rfl, rfl, rfl, rfl, rfl⟩ rfl rfl rfl rfl rfl (by kernel_rfl) Tryz.func4 closed
    (of_decide_eq_true (by kernel_rfl)) (by unfold Func.isWrapper; first | (rw [if_pos (by decide +kernel)]; kernel_rfl) | (rw [if_neg (by decide +kernel)]; exact ⟨rfl, rfl⟩))
    (fun os started H enc _ F => by rw [OpenClaim.pre_eq_preRow]; exact lifted os started H enc F)
end Go.Proofs.YtnmmefndcbnhcaaGreatDoor
