import Derived.Test.YtnmmefndcbnhcaaGreatDoorX1
/-
  X, part 2: grammar.Of of some operations.
-/
set_option linter.unusedVariables false
set_option maxRecDepth 1000000
namespace Go.U
open Go Go.RowKit

theorem of1 : OfOk 1 [] 7 8 5 where
  fr := ⟨_, rfl, by kernel_rfl, by kernel_rfl⟩
  s0 := by kernel_rfl
  n := fun olds => by kernel_rfl
  es := fun olds => by kernel_rfl
  seen := fun olds => by kernel_rfl
  round := fun olds => by kernel_rfl
  may := fun olds => by kernel_rfl
  stop := fun olds => by kernel_rfl
  over := .inr fun olds => by kernel_rfl
theorem of2 : OfOk 2 [] 7 8 5 where
  fr := ⟨_, rfl, by kernel_rfl, by kernel_rfl⟩
  s0 := by kernel_rfl
  n := fun olds => by kernel_rfl
  es := fun olds => by kernel_rfl
  seen := fun olds => by kernel_rfl
  round := fun olds => by kernel_rfl
  may := fun olds => by kernel_rfl
  stop := fun olds => by kernel_rfl
  over := .inr fun olds => by kernel_rfl
theorem of5 : OfOk 5 [43] 7 8 5 where
  fr := ⟨_, rfl, by kernel_rfl, by kernel_rfl⟩
  s0 := by kernel_rfl
  n := fun olds => by kernel_rfl
  es := fun olds => by kernel_rfl
  seen := fun olds => by kernel_rfl
  round := fun olds => by kernel_rfl
  may := fun olds => by kernel_rfl
  stop := fun olds => by kernel_rfl
  over := .inl (by kernel_rfl)
end Go.U
