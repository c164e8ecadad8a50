/-
  DERIVED. GIVEN WITH THE SEED: THE CARDS: each row of YtjdkhijaffbmaaaGreatDoorRows.lean that lists a variable, with what it lists TIED to the program's text (the seventh form; the later family's looks); each row that meets fmt, with fmt's text TOLD by the authors' own Lean function (tested against real Go, not proved from fmt's source: count such statements apart). THE CARD IS WHAT COUNTS. Prove the row's statement (the work); the ties are given (YtjdkhijaffbmaaaGreatDoorTie.lean); close each card by the builder's one call (the guide's Derived/Test/ToyasCard.lean, 'card_holds'). Laid BY PROGRAM, IN A SANDBOX (cutbox-door.mjs). By AI agents, Wed Nov 11 2026. No macro, syntax, notation, axiom, sorry.
-/
import Derived.Test.YtjdkhijaffbmaaaGreatDoorRows
import GoSem.ClaimSeven
namespace Go.Proofs.YtjdkhijaffbmaaaGreatDoor
namespace Rows

/-- THE TIED CARD OF 'pointsmanlaw15.SourceChooses'. -/
def sourceChoosesCard : Claim7 := { stood := { row := sourceChoosesRow, standIns := [], harness := (true, "e4b01995e0c3def722e75b27a922d125fbe5e4d34c5deb4868acf1f1f6efe270"), looks := true }, kinds := [], alts := [], laidByText := true, laidKinds := [.pinned, .data, .sentinel, .sentinel, .data, .data, .data, .data, .listed, .handle], laidTests := true, laidLooks := .later }
def SourceChoosesCardSaid : Prop := Claim7.holds Tryz.pinned (.plain (OpenSpec.ofChange sourceChoosesSpec)) sourceChoosesCard

/-- THE TIED CARD OF 'pointsmanlaw19.RulesTurn'. -/
def rulesTurnCard : Claim7 := { stood := { row := rulesTurnRow, standIns := [], harness := (true, "e4b01995e0c3def722e75b27a922d125fbe5e4d34c5deb4868acf1f1f6efe270"), looks := true }, kinds := [], alts := [], laidByText := true, laidKinds := [.pinned, .data, .sentinel, .sentinel, .data, .data, .data, .data, .listed, .handle], laidTests := true, laidLooks := .later }
def RulesTurnCardSaid : Prop := Claim7.holds Tryz.pinned (.plain (OpenSpec.ofChange rulesTurnSpec)) rulesTurnCard

/-- THE SECOND FORM's CARD OF 'pointsmanlaw15.SourceChooses'. -/
def sourceChoosesUptoCard : Claim7 := { stood := { row := sourceChoosesUptoRow, standIns := [], harness := (true, "e4b01995e0c3def722e75b27a922d125fbe5e4d34c5deb4868acf1f1f6efe270"), looks := true }, kinds := [], alts := [], laidByText := true, laidKinds := [.pinned, .data, .sentinel, .sentinel, .data, .data, .data, .data, .listed, .handle], laidTests := true, laidLooks := .later }
def SourceChoosesUptoCardSaid : Prop := Claim7.holds Tryz.pinned (.plain (OpenSpec.upto sourceChoosesSpec)) sourceChoosesUptoCard

/-- THE SECOND FORM's CARD OF 'pointsmanlaw19.RulesTurn'. -/
def rulesTurnUptoCard : Claim7 := { stood := { row := rulesTurnUptoRow, standIns := [], harness := (true, "e4b01995e0c3def722e75b27a922d125fbe5e4d34c5deb4868acf1f1f6efe270"), looks := true }, kinds := [], alts := [], laidByText := true, laidKinds := [.pinned, .data, .sentinel, .sentinel, .data, .data, .data, .data, .listed, .handle], laidTests := true, laidLooks := .later }
def RulesTurnUptoCardSaid : Prop := Claim7.holds Tryz.pinned (.plain (OpenSpec.upto rulesTurnSpec)) rulesTurnUptoCard
end Rows
end Go.Proofs.YtjdkhijaffbmaaaGreatDoor
