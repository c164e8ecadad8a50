import Derived.Test.YtnmmefndcbnhcaaGreatDoorYT0
/-
  The tie: facts on the program, found out by the kernel.
-/
namespace Go.Proofs.YtnmmefndcbnhcaaGreatDoor
open Go Go.U
theorem kw : Tryz.prog.worded (varsWordLater true) = true := by kernel_rfl
theorem kw2 : Tryz.prog.worded (varsWordLater !true) = false := by kernel_rfl
theorem kroot : Tryz.prog.worded rootWordLater = true := by kernel_rfl
theorem kg : (Tryz.prog.funcNamed "gosem.cut.vars").isSome = true := by kernel_rfl
end Go.Proofs.YtnmmefndcbnhcaaGreatDoor
