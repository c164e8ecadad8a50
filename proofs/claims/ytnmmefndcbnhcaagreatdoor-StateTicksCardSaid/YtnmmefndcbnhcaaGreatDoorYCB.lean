import Derived.Test.YtnmmefndcbnhcaaGreatDoorRows
import Derived.Test.YtnmmefndcbnhcaaGreatDoorCards
import Derived.SevenTiedAt
/-
  The card: facts on the program, found out by the kernel.
-/
set_option linter.unusedVariables false
set_option maxRecDepth 1000000
namespace Go.Proofs.YtnmmefndcbnhcaaGreatDoor
open Go Go.Proofs
theorem noGoes : (Tryz.prog.funcs.toList.any Func.goes) = false := by kernel_rfl
theorem noGoes_at (g : Nat) : (Tryz.prog.funcs[g]?).any Func.goes = false := by
  cases h : Tryz.prog.funcs[g]? with
  | none => rfl
  | some fn =>
    have hm : fn ∈ Tryz.prog.funcs.toList := by
      rw [← Array.getElem?_toList] at h
      exact List.mem_of_getElem? h
    simpa using (List.any_eq_false.1 noGoes) fn hm
theorem goes_not (f : FuncId) : Tryz.prog.goes f = false := by
  unfold Program.goes
  rw [Bool.or_eq_false_iff]
  refine ⟨List.any_eq_false.2 fun g _ => by rw [noGoes_at g]; exact Bool.false_ne_true, ?_⟩
  have : Tryz.prog.funcs.any Func.goes = false := by rw [← Array.any_toList]; exact noGoes
  rw [this, Bool.and_false]
theorem any_not {p : FuncId → Bool} (h : ∀ f, p f = false) : ∀ o : Option FuncId, o.any p = false
  | none => rfl
  | some f => h f
theorem from_not (func : String) : Tryz.prog.goesFrom func = false := any_not goes_not _
theorem cG : false = Rows.stateTicksRow.goesBy Tryz.pinned.checked.prog := by
  show false = (Tryz.prog.goesFrom Rows.stateTicksRow.func || false)
  rw [Bool.or_false, from_not]
end Go.Proofs.YtnmmefndcbnhcaaGreatDoor
