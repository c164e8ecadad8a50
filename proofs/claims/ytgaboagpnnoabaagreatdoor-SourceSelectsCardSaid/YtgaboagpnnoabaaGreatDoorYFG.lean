import Derived.Test.YtgaboagpnnoabaaGreatDoorRows
import Derived.JoinedOf
/-
  The row: facts on the program, found out by the kernel.
-/
set_option linter.unusedVariables false
set_option maxRecDepth 1000000
namespace Go.Proofs.YtgaboagpnnoabaaGreatDoor
open Go Go.Proofs
noncomputable def ts0 : List TypeId := Tryz.f3.params.toList ++ (OpenSpec.ofChange Rows.sourceSelectsSpec).bare.plain.varTypes Tryz.prog
theorem fG1 : (Rows.sourceSelectsRow.maps == ts0.any (Tryz.prog.mapsRec ·)) = true := by kernel_rfl
theorem fG2 : (Rows.sourceSelectsRow.ifaces == ts0.any (Tryz.prog.ifacesRec ·)) = true := by kernel_rfl
theorem fG3 : (Rows.sourceSelectsRow.mapsOut == Tryz.prog.mapsAmong Tryz.f3.resultTypes.toList) = true := by kernel_rfl
theorem fG4 : (Rows.sourceSelectsRow.loops == ts0.any (Tryz.prog.loopsFrom ·)) = true := by kernel_rfl
theorem fG5 : (Rows.sourceSelectsRow.wideKeys == (ts0 ++ Tryz.f3.resultTypes.toList).any (Tryz.prog.wideKeysFrom ·)) = true := by kernel_rfl
theorem fG6 : ((OpenSpec.ofChange Rows.sourceSelectsSpec).bare.vars.all (Tryz.prog.varReadable ·)) = true := by kernel_rfl
theorem fG7 : (Tryz.f3.resultTypes.all (fun t => Tryz.prog.readableRec t && decide (t < Tryz.prog.types.size))) = true := by kernel_rfl
theorem fG8 : (Rows.sourceSelectsRow.ifacesOut == Tryz.f3.resultTypes.toList.any (Tryz.prog.ifacesRec ·)) = true := by kernel_rfl
theorem fG9 : (Rows.sourceSelectsRow.loopsOut == Tryz.f3.resultTypes.toList.any (Tryz.prog.loopsFrom ·)) = true := by kernel_rfl
theorem fG10 : (Rows.sourceSelectsRow.plainKeys == Tryz.prog.plainKeys) = true := by kernel_rfl
theorem fG11 : Rows.sourceSelectsRow.shortTexts.isNone = true := by kernel_rfl
theorem fG12 : Tryz.prog.stopsHeard = true := by kernel_rfl
theorem fG13 : Tryz.prog.mayEnter = true := by kernel_rfl
theorem fG14 : (Rows.sourceSelectsRow.lifted == Tryz.prog.liftsFinal) = true := by kernel_rfl
theorem fG15 : (Tryz.prog.make == some Rows.sourceSelectsRow.make) = true := by kernel_rfl
theorem fG15a : (Rows.sourceSelectsRow.kinds == (if Rows.sourceSelectsRow.domain.isEmpty then [] else Tryz.f3.params.toList.map fun t => match Tryz.prog.underlying t with | some (.int k) => some k | _ => none)) = true := by kernel_rfl
theorem fG15b : (Rows.sourceSelectsRow.pinned == Rows.sourceSelectsRow.pinnedBy) = true := by kernel_rfl
theorem fG16 : (Rows.sourceSelectsRow.veiled == (ts0 ++ Tryz.f3.resultTypes.toList).any (Tryz.prog.veiledRec ·)) = true := by kernel_rfl
theorem fG17 : Rows.sourceSelectsRow.veiledFits Tryz.prog Tryz.f3.params.toList (ts0 ++ Tryz.f3.resultTypes.toList) = true := by kernel_rfl
end Go.Proofs.YtgaboagpnnoabaaGreatDoor
