import Derived.Test.YtnmmefndcbnhcaaGreatDoorRows
import Derived.JoinedOf
/-
  The row: facts on the program, found out by the kernel.
-/
set_option linter.unusedVariables false
set_option maxRecDepth 1000000
namespace Go.Proofs.YtnmmefndcbnhcaaGreatDoor
open Go Go.Proofs
noncomputable def ts0 : List TypeId := Tryz.f4.params.toList ++ (OpenSpec.ofChange Rows.stateTicksSpec).bare.plain.varTypes Tryz.prog
theorem fG1 : (Rows.stateTicksRow.maps == ts0.any (Tryz.prog.mapsRec ·)) = true := by kernel_rfl
theorem fG2 : (Rows.stateTicksRow.ifaces == ts0.any (Tryz.prog.ifacesRec ·)) = true := by kernel_rfl
theorem fG3 : (Rows.stateTicksRow.mapsOut == Tryz.prog.mapsAmong Tryz.f4.resultTypes.toList) = true := by kernel_rfl
theorem fG4 : (Rows.stateTicksRow.loops == ts0.any (Tryz.prog.loopsFrom ·)) = true := by kernel_rfl
theorem fG5 : (Rows.stateTicksRow.wideKeys == (ts0 ++ Tryz.f4.resultTypes.toList).any (Tryz.prog.wideKeysFrom ·)) = true := by kernel_rfl
theorem fG6 : ((OpenSpec.ofChange Rows.stateTicksSpec).bare.vars.all (Tryz.prog.varReadable ·)) = true := by kernel_rfl
theorem fG7 : (Tryz.f4.resultTypes.all (fun t => Tryz.prog.readableRec t && decide (t < Tryz.prog.types.size))) = true := by kernel_rfl
theorem fG8 : (Rows.stateTicksRow.ifacesOut == Tryz.f4.resultTypes.toList.any (Tryz.prog.ifacesRec ·)) = true := by kernel_rfl
theorem fG9 : (Rows.stateTicksRow.loopsOut == Tryz.f4.resultTypes.toList.any (Tryz.prog.loopsFrom ·)) = true := by kernel_rfl
theorem fG10 : (Rows.stateTicksRow.plainKeys == Tryz.prog.plainKeys) = true := by kernel_rfl
theorem fG11 : Rows.stateTicksRow.shortTexts.isNone = true := by kernel_rfl
theorem fG12 : Tryz.prog.stopsHeard = true := by kernel_rfl
theorem fG13 : Tryz.prog.mayEnter = true := by kernel_rfl
theorem fG14 : (Rows.stateTicksRow.lifted == Tryz.prog.liftsFinal) = true := by kernel_rfl
theorem fG15 : (Tryz.prog.make == some Rows.stateTicksRow.make) = true := by kernel_rfl
theorem fG15a : (Rows.stateTicksRow.kinds == (if Rows.stateTicksRow.domain.isEmpty then [] else Tryz.f4.params.toList.map fun t => match Tryz.prog.underlying t with | some (.int k) => some k | _ => none)) = true := by kernel_rfl
theorem fG15b : (Rows.stateTicksRow.pinned == Rows.stateTicksRow.pinnedBy) = true := by kernel_rfl
theorem fG16 : (Rows.stateTicksRow.veiled == (ts0 ++ Tryz.f4.resultTypes.toList).any (Tryz.prog.veiledRec ·)) = true := by kernel_rfl
theorem fG17 : Rows.stateTicksRow.veiledFits Tryz.prog Tryz.f4.params.toList (ts0 ++ Tryz.f4.resultTypes.toList) = true := by kernel_rfl
end Go.Proofs.YtnmmefndcbnhcaaGreatDoor
