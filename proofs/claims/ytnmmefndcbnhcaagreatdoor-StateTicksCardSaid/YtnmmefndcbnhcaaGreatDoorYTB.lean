import Derived.Test.YtnmmefndcbnhcaaGreatDoorYT0
/-
  The tie: one run of the variables that the program lays.
-/
namespace Go.Proofs.YtnmmefndcbnhcaaGreatDoor
open Go Go.U
theorem h1 : ∀ os tape, (DataW.laidRun Tryz.prog (varsWorld Tryz.prog 400 (varsId Tryz.prog) os tape).memory 8 ((laidL.filter fun x => x.2.handleName?.isNone).map (·.1))).map (·.1) = some (laidL.filter fun x => x.2.handleName?.isNone) := fun _ _ => by kernel_rfl
end Go.Proofs.YtnmmefndcbnhcaaGreatDoor
