/-
  DERIVED. GIVEN WITH THE SEED: THE CARDS: each row of YtnmmefndcbnhcaaGreatDoorRows.lean that lists a variable, with what it lists TIED to the program's text (the seventh form; the later family's looks); each row that meets fmt, with fmt's text TOLD by the authors' own Lean function (tested against real Go, not proved from fmt's source: count such statements apart). THE CARD IS WHAT COUNTS. Prove the row's statement (the work); the ties are given (YtnmmefndcbnhcaaGreatDoorTie.lean); close each card by the builder's one call (the guide's Derived/Test/ToyasCard.lean, 'card_holds'). Laid BY PROGRAM, IN A SANDBOX (cutbox-door.mjs). By AI agents, Wed Nov 11 2026. No macro, syntax, notation, axiom, sorry.
-/
import Derived.Test.YtnmmefndcbnhcaaGreatDoorRows
import GoSem.ClaimSeven
namespace Go.Proofs.YtnmmefndcbnhcaaGreatDoor
namespace Rows

/-- THE TIED CARD OF 'pointsmanlaw15.SourceReckons'. -/
def sourceReckonsCard : Claim7 := { stood := { row := sourceReckonsRow, standIns := [], harness := (true, "eda034514157428358382274b97990de98a0b2fdf84be6e6714aa78b20ffe61b"), looks := true }, kinds := [], alts := [], laidByText := true, laidKinds := [.pinned, .data, .sentinel, .sentinel, .data, .data, .data, .data, .listed, .handle], laidTests := true, laidLooks := .later }
def SourceReckonsCardSaid : Prop := Claim7.holds Tryz.pinned (.plain (OpenSpec.ofChange sourceReckonsSpec)) sourceReckonsCard

/-- THE TIED CARD OF 'pointsmanlaw20.StateTicks'. -/
def stateTicksCard : Claim7 := { stood := { row := stateTicksRow, standIns := [], harness := (true, "eda034514157428358382274b97990de98a0b2fdf84be6e6714aa78b20ffe61b"), looks := true }, kinds := [], alts := [], laidByText := true, laidKinds := [.pinned, .data, .sentinel, .sentinel, .data, .data, .data, .data, .listed, .handle], laidTests := true, laidLooks := .later }
def StateTicksCardSaid : Prop := Claim7.holds Tryz.pinned (.plain (OpenSpec.ofChange stateTicksSpec)) stateTicksCard

/-- THE SECOND FORM's CARD OF 'pointsmanlaw15.SourceReckons'. -/
def sourceReckonsUptoCard : Claim7 := { stood := { row := sourceReckonsUptoRow, standIns := [], harness := (true, "eda034514157428358382274b97990de98a0b2fdf84be6e6714aa78b20ffe61b"), looks := true }, kinds := [], alts := [], laidByText := true, laidKinds := [.pinned, .data, .sentinel, .sentinel, .data, .data, .data, .data, .listed, .handle], laidTests := true, laidLooks := .later }
def SourceReckonsUptoCardSaid : Prop := Claim7.holds Tryz.pinned (.plain (OpenSpec.upto sourceReckonsSpec)) sourceReckonsUptoCard

/-- THE SECOND FORM's CARD OF 'pointsmanlaw20.StateTicks'. -/
def stateTicksUptoCard : Claim7 := { stood := { row := stateTicksUptoRow, standIns := [], harness := (true, "eda034514157428358382274b97990de98a0b2fdf84be6e6714aa78b20ffe61b"), looks := true }, kinds := [], alts := [], laidByText := true, laidKinds := [.pinned, .data, .sentinel, .sentinel, .data, .data, .data, .data, .listed, .handle], laidTests := true, laidLooks := .later }
def StateTicksUptoCardSaid : Prop := Claim7.holds Tryz.pinned (.plain (OpenSpec.upto stateTicksSpec)) stateTicksUptoCard
end Rows
end Go.Proofs.YtnmmefndcbnhcaaGreatDoor
