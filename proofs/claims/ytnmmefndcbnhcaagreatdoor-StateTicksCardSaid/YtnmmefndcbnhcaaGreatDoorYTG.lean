import Derived.Test.YtnmmefndcbnhcaaGreatDoorYT0
/-
  The tie: facts on the program, found out by the kernel.
-/
namespace Go.Proofs.YtnmmefndcbnhcaaGreatDoor
open Go Go.U
theorem kn : varsNamedLaterB Tryz.prog (varsId Tryz.prog) laidL = true := by kernel_rfl
end Go.Proofs.YtnmmefndcbnhcaaGreatDoor
