import Derived.Test.YtjdkhijaffbmaaaGreatDoorYRb
import Derived.Test.YtjdkhijaffbmaaaGreatDoorYTE
import Derived.Test.YtjdkhijaffbmaaaGreatDoorYCA
import Derived.Test.YtjdkhijaffbmaaaGreatDoorYCB
import Derived.Test.YtjdkhijaffbmaaaGreatDoorYCC
/-
  'pointsmanlaw15.SourceChooses': whatever numbers come in, the law answers true; the arguments read behind the call as they read before. No condition but the row's own: the listed variables are as the program's text lays them (the tie is proved here, too).
-/
set_option linter.unusedVariables false
set_option linter.unusedSimpArgs false
set_option maxRecDepth 1000000
namespace Go.Proofs.YtjdkhijaffbmaaaGreatDoor
open Go Go.U Go.Proofs Go.ChangeShapes Go.WideShapes Go.ChangeAt Go.RowKit
/-- The statement. -/
theorem sourceChooses_holds : Rows.SourceChoosesCardSaid :=
  Claim7.holds_tied_plain_at .later [] _ _ _ _ said (fun _ h => by cases h) cW (fun _ h => by cases h) sourceChooses_row_tie rfl ⟨rfl, rfl⟩ cM rfl plain cG
#print axioms sourceChooses_holds
end Go.Proofs.YtjdkhijaffbmaaaGreatDoor
