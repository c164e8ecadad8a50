import Derived.Test.YtnmmefndcbnhcaaGreatDoorYM
import Derived.Test.YtnmmefndcbnhcaaGreatDoorYT0
import Derived.WalkKit
import Derived.ProofKit
import Derived.OpenShut
import Derived.Deep.DeepHandedRow
import Derived.Deep.DeepWitnessRowRef
import Derived.LaidHandle
/-
  A start that fits: the variables that the row lists, as the program lays them.
-/
set_option linter.unusedVariables false
set_option maxRecDepth 1000000
namespace Go.Proofs.YtnmmefndcbnhcaaGreatDoor
open Go Go.U Go.Proofs Go.ChangeShapes Go.WideShapes Go.ChangeAt Go.RowKit

mutual
/-- The cells of a datum of numbers. -/
def flat : DataW Unit → List Value
  | .lit (.int k n) => [.int k n]
  | .agg ps => flats ps
  | _ => []
def flats : List (DataW Unit) → List Value
  | [] => []
  | d :: r => flat d ++ flats r
end
def sliceOf : DataW Unit → List (DataW Unit)
  | .ptr (.agg (.slice es _ :: _)) => es
  | _ => []
def textOf : DataW Unit → ByteArray
  | .iface _ (.ptr (.agg [.lit (.string s)])) => ⟨s.toArray⟩
  | _ => .empty
noncomputable def low : Nat := (World.holding Tryz.prog default ⟨#[], #[], []⟩).heap.size
def lay (cs : Array Value) : Obj → Obj
  | .cells _ t fr => .cells cs t fr
  | o => o
noncomputable def laidWorld (os : Os) : World :=
  let w0 := World.holding Tryz.prog os ⟨#[.cells #[.string (textOf Rows.laid_strconv_ErrSyntax)] 681, .cells #[.string (textOf Rows.laid_strconv_ErrRange)] 681, .cells #[.slice (some ⟨low + 3, 0, none⟩) 7 7, .slice none 0 0, .int .i64 2] 665, .cells (flats (sliceOf Rows.laid_unicode_White_Space)).toArray 667], #[], []⟩
  { w0 with heap := (((((((((w0.heap.modify 0 (lay #[.iface 292 (.agg #[.pointer (some ⟨12, 117, none⟩)])])).modify 1 (lay (flat Rows.laid_strings_asciiSpace).toArray)).modify 2 (lay #[.pointer (some ⟨low + 2, 0, none⟩)])).modify 3 (lay (flat Rows.laid_internal_strconv_uint64pow10).toArray)).modify 4 (lay #[.iface 679 (.pointer (some ⟨low, 0, none⟩))])).modify 5 (lay #[.iface 679 (.pointer (some ⟨low + 1, 0, none⟩))])).modify 6 (lay (flat Rows.laid_unicode_utf8_first).toArray)).modify 7 (lay (flat Rows.laid_unicode_utf8_acceptRanges).toArray)).modify 9 (lay (flat Rows.laid_math_bits_deBruijn32tab).toArray)).modify 10 (lay (flat Rows.laid_math_bits_deBruijn64tab).toArray) }
noncomputable def startW (os : Os) : World := ((laidWorld os).forCall (fun _ _ => 0) ⟨#[], #[.slice none 0 0], []⟩).memory
theorem met1 (os : Os) : (DataW.laidRun Tryz.prog (startW os) 8 ((Rows.stateTicksRow.laid.filter fun x => x.2.handleName?.isNone).map (·.1))).map (·.1) = some (Rows.stateTicksRow.laid.filter fun x => x.2.handleName?.isNone) := by kernel_rfl
theorem met2' (os : Os) : (DataW.laidRun Tryz.prog (startW os) 8 ((Rows.stateTicksRow.laid.filter fun x => x.2.handleName?.isNone).map (·.1))).map (fun x => ndT (x.2.map keyOfPlace) .e && laidRowsB Tryz.prog (startW os) x.2) = some true := by kernel_rfl
theorem met2 (os : Os) : (DataW.laidRun Tryz.prog (startW os) 8 ((Rows.stateTicksRow.laid.filter fun x => x.2.handleName?.isNone).map (·.1))).map (fun x => decide x.2.Nodup && laidRowsB Tryz.prog (startW os) x.2) = some true := by
  obtain ⟨x, hx, hy⟩ := Option.map_eq_some_iff.1 (met2' os)
  refine Option.map_eq_some_iff.2 ⟨x, hx, ?_⟩
  simp only [Bool.and_eq_true] at hy ⊢
  exact ⟨decide_eq_true (nodup_key hy.1), hy.2⟩
theorem met3 (os : Os) : (Rows.stateTicksRow.laid.filter fun x => x.2.handleName?.isSome).all (handleAtB Tryz.prog (startW os)) = true := by kernel_rfl
theorem laid_met (os : Os) : laidMetH Tryz.prog Rows.stateTicksRow.laid (startW os) := laidMetH_of_parts (laidMet_of_run' 8 (met1 os) (met2 os)) (met3 os)
theorem reads (os : Os) {H : Type} (enc : TypeId × Value → H) : ∃ places, DataW.whole enc Tryz.prog (startW os) Tryz.f4.params.toList Rows.stateTicksSpec.vars false #[Value.slice none 0 0].toList 8 = some ([.nil], [], places) :=
  ⟨[], by kernel_rfl⟩
theorem witn (os : Os) {H : Type} (enc : TypeId × Value → H) : ∃ (w : World) (tape : Tape) (i : Input), w.os = os ∧ (w.forCall tape i).Shaped Tryz.prog ∧ i.vars = [] ∧ Input.okWide Tryz.prog (w.forCall tape i) .any w.heap.size 4 i ∧
    (OpenSpec.ofChange Rows.stateTicksSpec).preRow enc Tryz.prog Tryz.f4 Rows.stateTicksRow.domain false Rows.stateTicksRow.laid (w.forCall tape i).memory i.args ∧ ({ modest := false } : Assume).holds Tryz.prog (lone (Frame.enter Tryz.prog 4 i.args .normal) [] (w.forCall tape i)) := by
  obtain ⟨places, hx⟩ := reads os enc
  exact witness_row_atRef (enc := enc) (C := Tryz.checked) false (laidWorld os) #[.slice none 0 0] rfl (by kernel_rfl) (by kernel_rfl) (by kernel_rfl)
      (OpenSpec.preRow_of_cond 8 hx (by kernel_rfl) (fun k hk => by cases hk) (by kernel_rfl) (laid_met os))
end Go.Proofs.YtnmmefndcbnhcaaGreatDoor
