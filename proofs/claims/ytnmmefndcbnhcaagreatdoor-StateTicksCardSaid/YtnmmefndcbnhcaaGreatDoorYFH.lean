import Derived.Test.YtnmmefndcbnhcaaGreatDoorYFH0
import Derived.Test.YtnmmefndcbnhcaaGreatDoorYFH1
import Derived.Test.YtnmmefndcbnhcaaGreatDoorYFH2
import Derived.Test.YtnmmefndcbnhcaaGreatDoorYFH3
/-
  The row: facts on the program, put together.
-/
set_option linter.unusedVariables false
namespace Go.Proofs.YtnmmefndcbnhcaaGreatDoor
open Go Go.Proofs
theorem fE2 : laidOutB Tryz.prog = true := by
  unfold laidOutB
  rw [fH3, fH4, Bool.and_true, Bool.and_true, fH5, List.all_eq_true]
  intro t ht
  have hlt := List.mem_range.1 ht
  rcases Nat.lt_or_ge t 240 with h | h
  · exact List.all_eq_true.1 fH0 t (List.mem_range'_1.2 ⟨by omega, by omega⟩)
  · rcases Nat.lt_or_ge t 480 with h2 | h2
    · exact List.all_eq_true.1 fH1 t (List.mem_range'_1.2 ⟨by omega, by omega⟩)
    · exact List.all_eq_true.1 fH2 t (List.mem_range'_1.2 ⟨by omega, by omega⟩)
end Go.Proofs.YtnmmefndcbnhcaaGreatDoor
