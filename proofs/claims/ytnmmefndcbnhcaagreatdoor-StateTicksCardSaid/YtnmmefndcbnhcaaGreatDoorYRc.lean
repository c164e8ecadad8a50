import Derived.Test.YtnmmefndcbnhcaaGreatDoorYRb
import Derived.Test.YtnmmefndcbnhcaaGreatDoorYTE
import Derived.Test.YtnmmefndcbnhcaaGreatDoorYCA
import Derived.Test.YtnmmefndcbnhcaaGreatDoorYCB
import Derived.Test.YtnmmefndcbnhcaaGreatDoorYCC
/-
  'pointsmanlaw20.StateTicks': whatever numbers come in, the law answers true; the numbers read behind the call as they read before. No condition but the row's own: the listed variables are as the program's text lays them (the tie is proved here, too).
-/
set_option linter.unusedVariables false
set_option linter.unusedSimpArgs false
set_option maxRecDepth 1000000
namespace Go.Proofs.YtnmmefndcbnhcaaGreatDoor
open Go Go.U Go.Proofs Go.ChangeShapes Go.WideShapes Go.ChangeAt Go.RowKit
/-- The statement. -/
theorem stateTicks_holds : Rows.StateTicksCardSaid :=
  Claim7.holds_tied_plain_at .later [] _ _ _ _ said (fun _ h => by cases h) cW (fun _ h => by cases h) stateTicks_row_tie rfl ⟨rfl, rfl⟩ cM rfl plain cG
#print axioms stateTicks_holds
end Go.Proofs.YtnmmefndcbnhcaaGreatDoor
