import Derived.Test.YtnmmefndcbnhcaaGreatDoorYT0
/-
  The tie: one run of the variables that the program lays.
-/
namespace Go.Proofs.YtnmmefndcbnhcaaGreatDoor
open Go Go.U
theorem hd : ∀ os tape, varsDone Tryz.prog 400 (varsId Tryz.prog) os tape = true := fun _ _ => by kernel_rfl
end Go.Proofs.YtnmmefndcbnhcaaGreatDoor
