import Derived.Test.YtjdkhijaffbmaaaGreatDoorRows
import Derived.JoinedOf
/-
  The row: facts on the program, found out by the kernel.
-/
set_option linter.unusedVariables false
set_option maxRecDepth 1000000
namespace Go.Proofs.YtjdkhijaffbmaaaGreatDoor
open Go Go.Proofs
noncomputable def ts0 : List TypeId := Tryz.f3.params.toList ++ (OpenSpec.ofChange Rows.sourceChoosesSpec).bare.plain.varTypes Tryz.prog
theorem fG1 : (Rows.sourceChoosesRow.maps == ts0.any (Tryz.prog.mapsRec ·)) = true := by kernel_rfl
theorem fG2 : (Rows.sourceChoosesRow.ifaces == ts0.any (Tryz.prog.ifacesRec ·)) = true := by kernel_rfl
theorem fG3 : (Rows.sourceChoosesRow.mapsOut == Tryz.prog.mapsAmong Tryz.f3.resultTypes.toList) = true := by kernel_rfl
theorem fG4 : (Rows.sourceChoosesRow.loops == ts0.any (Tryz.prog.loopsFrom ·)) = true := by kernel_rfl
theorem fG5 : (Rows.sourceChoosesRow.wideKeys == (ts0 ++ Tryz.f3.resultTypes.toList).any (Tryz.prog.wideKeysFrom ·)) = true := by kernel_rfl
theorem fG6 : ((OpenSpec.ofChange Rows.sourceChoosesSpec).bare.vars.all (Tryz.prog.varReadable ·)) = true := by kernel_rfl
theorem fG7 : (Tryz.f3.resultTypes.all (fun t => Tryz.prog.readableRec t && decide (t < Tryz.prog.types.size))) = true := by kernel_rfl
theorem fG8 : (Rows.sourceChoosesRow.ifacesOut == Tryz.f3.resultTypes.toList.any (Tryz.prog.ifacesRec ·)) = true := by kernel_rfl
theorem fG9 : (Rows.sourceChoosesRow.loopsOut == Tryz.f3.resultTypes.toList.any (Tryz.prog.loopsFrom ·)) = true := by kernel_rfl
theorem fG10 : (Rows.sourceChoosesRow.plainKeys == Tryz.prog.plainKeys) = true := by kernel_rfl
theorem fG11 : Rows.sourceChoosesRow.shortTexts.isNone = true := by kernel_rfl
theorem fG12 : Tryz.prog.stopsHeard = true := by kernel_rfl
theorem fG13 : Tryz.prog.mayEnter = true := by kernel_rfl
theorem fG14 : (Rows.sourceChoosesRow.lifted == Tryz.prog.liftsFinal) = true := by kernel_rfl
theorem fG15 : (Tryz.prog.make == some Rows.sourceChoosesRow.make) = true := by kernel_rfl
theorem fG15a : (Rows.sourceChoosesRow.kinds == (if Rows.sourceChoosesRow.domain.isEmpty then [] else Tryz.f3.params.toList.map fun t => match Tryz.prog.underlying t with | some (.int k) => some k | _ => none)) = true := by kernel_rfl
theorem fG15b : (Rows.sourceChoosesRow.pinned == Rows.sourceChoosesRow.pinnedBy) = true := by kernel_rfl
theorem fG16 : (Rows.sourceChoosesRow.veiled == (ts0 ++ Tryz.f3.resultTypes.toList).any (Tryz.prog.veiledRec ·)) = true := by kernel_rfl
theorem fG17 : Rows.sourceChoosesRow.veiledFits Tryz.prog Tryz.f3.params.toList (ts0 ++ Tryz.f3.resultTypes.toList) = true := by kernel_rfl
end Go.Proofs.YtjdkhijaffbmaaaGreatDoor
