import Derived.Test.YtgaboagpnnoabaaGreatDoorYRb
import Derived.Test.YtgaboagpnnoabaaGreatDoorYTE
import Derived.Test.YtgaboagpnnoabaaGreatDoorYCA
import Derived.Test.YtgaboagpnnoabaaGreatDoorYCB
import Derived.Test.YtgaboagpnnoabaaGreatDoorYCC
/-
  'pointsmanlaw15.SourceSelects': whatever number comes in, the law answers true; the argument reads behind the call as it read before. No condition but the row's own: the listed variables are as the program's text lays them (the tie is proved here, too).
-/
set_option linter.unusedVariables false
set_option linter.unusedSimpArgs false
set_option maxRecDepth 1000000
namespace Go.Proofs.YtgaboagpnnoabaaGreatDoor
open Go Go.U Go.Proofs Go.ChangeShapes Go.WideShapes Go.ChangeAt Go.RowKit
/-- The statement. -/
theorem sourceSelects_holds : Rows.SourceSelectsCardSaid :=
  Claim7.holds_tied_plain_at .later [] _ _ _ _ said (fun _ h => by cases h) cW (fun _ h => by cases h) sourceSelects_row_tie rfl ⟨rfl, rfl⟩ cM rfl plain cG
#print axioms sourceSelects_holds
end Go.Proofs.YtgaboagpnnoabaaGreatDoor
