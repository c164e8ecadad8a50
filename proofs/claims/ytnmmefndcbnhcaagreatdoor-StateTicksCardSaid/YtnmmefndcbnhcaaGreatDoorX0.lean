import Derived.Test.YtnmmefndcbnhcaaGreatDoorUD
import Derived.Test.YtnmmefndcbnhcaaGreatDoorChecked
import Derived.KernelRfl
/-
  X, part 0: the evaluator's context over the seat's program.
-/
set_option linter.unusedVariables false
namespace Go.U
open Go Go.RowKit

noncomputable section
def tyT : T TI := T.tab 11 (tiOf Go.Proofs.Tryz.prog)
def fnT : T Func := T.tab 11 fun k => Go.Proofs.Tryz.prog.funcs[k]?
/-- What is known of the numbers: facts, rules. -/
structure Kn where
  fa : List (BinOp × SE × SE × Bool)
  rw : List (SE × SE)
  mi : List (SE × SE × SE) := []
def kn0 : Kn := ⟨[], [], []⟩
def Kn.Ok (k : Kn) (ρ : Nat → Int) : Prop := (∀ x ∈ k.fa, icmp x.1 (x.2.1.ev ρ) (x.2.2.1.ev ρ) = some x.2.2.2) ∧ (∀ x ∈ k.rw, x.1.ev ρ = x.2.ev ρ) ∧ ∀ x ∈ k.mi, (if x.2.1.ev ρ < x.1.ev ρ then x.2.1.ev ρ else x.1.ev ρ) = x.2.2.ev ρ
def cx (fa : Kn) (G : Nat) (nat : T Nat') : Cx := { P := Go.Proofs.Tryz.prog, N := 13, G := G, facts := fa.fa, rw := fa.rw, mins := fa.mi, ty := tyT, fns := fnT, nat := nat, ex := 264, lie := [(262, 0, 3)] }
def natNoEscape : List A → Hp → Option (A × Hp)
  | [a], h => some (a, h)
  | _, _ => none
end
theorem lie_ok : liesAt Go.Proofs.Tryz.prog Go.Proofs.Tryz.prog.depth 264 (3 / Go.Proofs.Tryz.prog.cellsOf 264) 0 262 1 = true := by kernel_rfl
theorem mix_ok : Go.Proofs.Tryz.prog.follows .mixedOrders = true := by kernel_rfl
theorem kn0_ok (ρ : Nat → Int) : kn0.Ok ρ := ⟨fun x hx => (by cases hx), fun x hx => (by cases hx), fun x hx => (by cases hx)⟩
theorem cx_ok {fa : Kn} {G : Nat} {nat : T Nat'} {ρ : Nat → Int} (h : fa.Ok ρ) : (cx fa G nat).Ok ρ where
  facts := h.1
  rw := h.2.1
  mins := h.2.2
  ty := fun t i hi => T.get_tab 11 (tiOf Go.Proofs.Tryz.prog) t i hi
  fns := fun f fn hf => T.get_tab 11 (fun k => Go.Proofs.Tryz.prog.funcs[k]?) f fn hf
  lie := fun x hx => by
    rcases List.mem_cons.1 hx with rfl | hx
    · exact lie_ok
    · cases hx
end Go.U
