/-
  DERIVED. GIVEN WITH THE SEED: THE CARDS: each row of YtgaboagpnnoabaaGreatDoorRows.lean that lists a variable, with what it lists TIED to the program's text (the seventh form; the later family's looks); each row that meets fmt, with fmt's text TOLD by the authors' own Lean function (tested against real Go, not proved from fmt's source: count such statements apart). THE CARD IS WHAT COUNTS. Prove the row's statement (the work); the ties are given (YtgaboagpnnoabaaGreatDoorTie.lean); close each card by the builder's one call (the guide's Derived/Test/ToyasCard.lean, 'card_holds'). Laid BY PROGRAM, IN A SANDBOX (cutbox-door.mjs). By AI agents, Wed Nov 11 2026. No macro, syntax, notation, axiom, sorry.
-/
import Derived.Test.YtgaboagpnnoabaaGreatDoorRows
import GoSem.ClaimSeven
namespace Go.Proofs.YtgaboagpnnoabaaGreatDoor
namespace Rows

/-- THE TIED CARD OF 'pointsmanlaw15.SourceSelects'. -/
def sourceSelectsCard : Claim7 := { stood := { row := sourceSelectsRow, standIns := [], harness := (true, "fb424fa1f670add8dd8a957284bfe6e10fcf5bc45ff517bf9a222a1f5b6e5744"), looks := true }, kinds := [], alts := [], laidByText := true, laidKinds := [.pinned, .data, .sentinel, .sentinel, .data, .data, .data, .data, .listed, .handle], laidTests := true, laidLooks := .later }
def SourceSelectsCardSaid : Prop := Claim7.holds Tryz.pinned (.plain (OpenSpec.ofChange sourceSelectsSpec)) sourceSelectsCard

/-- THE SECOND FORM's CARD OF 'pointsmanlaw15.SourceSelects'. -/
def sourceSelectsUptoCard : Claim7 := { stood := { row := sourceSelectsUptoRow, standIns := [], harness := (true, "fb424fa1f670add8dd8a957284bfe6e10fcf5bc45ff517bf9a222a1f5b6e5744"), looks := true }, kinds := [], alts := [], laidByText := true, laidKinds := [.pinned, .data, .sentinel, .sentinel, .data, .data, .data, .data, .listed, .handle], laidTests := true, laidLooks := .later }
def SourceSelectsUptoCardSaid : Prop := Claim7.holds Tryz.pinned (.plain (OpenSpec.upto sourceSelectsSpec)) sourceSelectsUptoCard
end Rows
end Go.Proofs.YtgaboagpnnoabaaGreatDoor
