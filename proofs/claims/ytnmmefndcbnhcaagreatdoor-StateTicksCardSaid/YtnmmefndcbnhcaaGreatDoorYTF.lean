import Derived.Test.YtnmmefndcbnhcaaGreatDoorYT0
/-
  The tie: facts on the program, found out by the kernel.
-/
namespace Go.Proofs.YtnmmefndcbnhcaaGreatDoor
open Go Go.U
theorem kk : laidL.map (fun x => Tryz.prog.kindOfLater x.1) = ([.data, .sentinel, .sentinel, .data, .data, .data, .data, .listed, .handle] : List LaidKind).map some := by kernel_rfl
end Go.Proofs.YtnmmefndcbnhcaaGreatDoor
