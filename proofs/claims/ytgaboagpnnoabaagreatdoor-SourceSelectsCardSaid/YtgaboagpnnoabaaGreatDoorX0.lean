import Derived.Test.YtgaboagpnnoabaaGreatDoorUD
import Derived.Test.YtgaboagpnnoabaaGreatDoorChecked
import Derived.KernelRfl
/-
  X, part 0: the evaluator's context over the seat's program.
-/
set_option linter.unusedVariables false
namespace Go.U
open Go Go.RowKit

noncomputable section
def tyT : T TI := T.tab 11 (tiOf Go.Proofs.Tryz.prog)
def fnT : T Func := T.tab 11 fun k => Go.Proofs.Tryz.prog.funcs[k]?
/-- The context: facts, rules, G, what is not gone through. -/
def cx (fa : List (BinOp × SE × SE × Bool)) (G : Nat) (nat : T Nat') : Cx := { P := Go.Proofs.Tryz.prog, N := 13, G := G, facts := fa, rw := [], ty := tyT, fns := fnT, nat := nat, ex := 203, lie := [(201, 0, 3)] }
def natNoEscape : List A → Hp → Option (A × Hp)
  | [a], h => some (a, h)
  | _, _ => none
end
theorem lie_ok : liesAt Go.Proofs.Tryz.prog Go.Proofs.Tryz.prog.depth 203 (3 / Go.Proofs.Tryz.prog.cellsOf 203) 0 201 1 = true := by kernel_rfl
theorem mix_ok : Go.Proofs.Tryz.prog.follows .mixedOrders = true := by kernel_rfl
theorem cx_ok {fa : List (BinOp × SE × SE × Bool)} {G : Nat} {nat : T Nat'} {ρ : Nat → Int} (h : ∀ x ∈ fa, icmp x.1 (x.2.1.ev ρ) (x.2.2.1.ev ρ) = some x.2.2.2) : (cx fa G nat).Ok ρ where
  facts := h
  rw := fun x hx => by cases hx
  ty := fun t i hi => T.get_tab 11 (tiOf Go.Proofs.Tryz.prog) t i hi
  fns := fun f fn hf => T.get_tab 11 (fun k => Go.Proofs.Tryz.prog.funcs[k]?) f fn hf
  lie := fun x hx => by
    rcases List.mem_cons.1 hx with rfl | hx
    · exact lie_ok
    · cases hx
end Go.U
