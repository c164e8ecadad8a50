import Derived.Test.YtnmmefndcbnhcaaGreatDoorYT0
/-
  The tie: one run of the variables that the program lays.
-/
namespace Go.Proofs.YtnmmefndcbnhcaaGreatDoor
open Go Go.U
theorem h3 : ∀ os tape, (laidL.filter fun x => x.2.handleName?.isSome).all (handleAtB Tryz.prog (varsWorld Tryz.prog 400 (varsId Tryz.prog) os tape).memory) = true := fun _ _ => by kernel_rfl
end Go.Proofs.YtnmmefndcbnhcaaGreatDoor
