import Derived.Test.YtnmmefndcbnhcaaGreatDoorYTA
import Derived.Test.YtnmmefndcbnhcaaGreatDoorYTB
import Derived.Test.YtnmmefndcbnhcaaGreatDoorYTC
import Derived.Test.YtnmmefndcbnhcaaGreatDoorYTD
import Derived.Test.YtnmmefndcbnhcaaGreatDoorYTF
import Derived.Test.YtnmmefndcbnhcaaGreatDoorYTG
import Derived.Test.YtnmmefndcbnhcaaGreatDoorYTI
import Derived.Test.YtnmmefndcbnhcaaGreatDoorYTJ
/-
  The tie: joined, and the row's (as the given text of the tie has them, which one process cannot hold as a whole).
-/
namespace Go.Proofs.YtnmmefndcbnhcaaGreatDoor
open Go
theorem tie : Tryz.prog.laidByTextLater laidL [.data, .sentinel, .sentinel, .data, .data, .data, .data, .listed, .handle] true :=
  Program.laidByTextLater_by_run_h 400 8 kw kw2 kroot kk kg kn hd h1 h2 h3
theorem stateTicks_row_tie : Rows.stateTicksRow.laidByTextAt .later Tryz.pinned [.pinned, .data, .sentinel, .sentinel, .data, .data, .data, .data, .listed, .handle] true :=
  OpenClaim.laidByTextAt_pinned rfl rfl tie rfl rfl rfl rfl (fun y hy _e => by
    simp only [Rows.stateTicksRow, List.zip_cons_cons, List.zip_nil_right, List.mem_cons, List.mem_nil_iff, or_false] at hy
    rcases hy with rfl | rfl | rfl | rfl | rfl | rfl | rfl | rfl | rfl | rfl
    · exact ⟨pin_laid_unicode_utf8_first, by kernel_rfl⟩
    · cases _e
    · cases _e
    · cases _e
    · cases _e
    · cases _e
    · cases _e
    · cases _e
    · cases _e
    · cases _e) fits1
end Go.Proofs.YtnmmefndcbnhcaaGreatDoor
