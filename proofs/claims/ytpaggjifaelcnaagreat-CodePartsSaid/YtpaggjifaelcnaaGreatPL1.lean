import Derived.Test.YtpaggjifaelcnaaGreatPmF
/-
  CodeParts, the plain law, 1: what is answered at all.
-/
set_option linter.unusedVariables false
set_option linter.unusedSimpArgs false
namespace Go.Pt
open Go Go.Pm

def T {α : Type} (o : Option α) : Prop := ∃ y, o = some y
theorem T_some {α : Type} {x : α} : T (some x) := ⟨x, rfl⟩
theorem T_bind {α β : Type} {o : Option α} {f : α → Option β} (h : T o) (k : ∀ y, o = some y → T (f y)) : T (o.bind f) := by
  obtain ⟨y, rfl⟩ := h
  exact k y rfl
theorem T_ite {α : Type} {b : Bool} {x y : Option α} (h : b = true → T x) (k : b = false → T y) : T (if b = true then x else y) := by
  cases b
  · simpa using k rfl
  · simpa using h rfl
theorem T_elim {ρ σ α : Type} {e : Ex ρ σ} {f : ρ → Option α} {g : σ → Option α} (h : ∀ r, e = .rt r → T (f r)) (k : ∀ s, e = .go s → T (g s)) : T (e.elim f g) := by
  cases e with
  | rt r => exact h r rfl
  | go s => exact k s rfl
theorem T_idx {α : Type} {xs : List α} {i : Int} (h0 : 0 ≤ i) (h1 : i < xs.length) : T (idx xs i) := by
  unfold idx
  rw [if_pos h0]
  have : i.toNat < xs.length := by omega
  exact ⟨xs[i.toNat], List.getElem?_eq_getElem this⟩
theorem wrap_add {i n : Int} (h0 : 0 ≤ i) (h1 : i < n) (hn : n ≤ 4611686018427387904) : IntKind.wrap .i64 (i + 1) = i + 1 := by
  simp only [IntKind.wrap, IntKind.signed, IntKind.bits, Int.bmod]
  have : (i + 1) % ((2 : Nat) ^ 64 : Nat) = i + 1 := by
    apply Int.emod_eq_of_lt <;> omega
  simp; omega
/-- How long a list may be. -/
abbrev maxL : Int := 4611686018427387904
theorem idx_lt {α : Type} {xs : List α} {i : Int} {x : α} (h : idx xs i = some x) : 0 ≤ i ∧ i < xs.length := ⟨(idx_some h).1, (idx_some h).2.1⟩
theorem idx_mem {α : Type} {xs : List α} {i : Int} {x : α} (h : idx xs i = some x) : x ∈ xs := List.mem_of_getElem? (idx_some h).2.2
end Go.Pt
