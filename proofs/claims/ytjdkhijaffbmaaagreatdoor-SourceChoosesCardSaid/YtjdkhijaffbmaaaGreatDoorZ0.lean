import Derived.Test.YtjdkhijaffbmaaaGreatDoorX4
import Derived.Shelf.Spec.BitsCarry
/-
  math/bits.Sub64, of numbers that are known, or of two that are not, one of which is known to be below the other or not.
-/
set_option linter.unusedVariables false
set_option linter.unusedSimpArgs false
set_option maxRecDepth 1000000
namespace Go.U
open Go Go.RowKit Go.Proofs

noncomputable def natSubF (fa : List (BinOp × SE × SE × Bool)) : List A → Hp → Option (A × Hp)
  | [.i .u64 (.ofNat x), .i .u64 (.ofNat y), .i .u64 (.ofNat c)], h => bif Nat.ble c 1 then some (.tu [.i .u64 (Int.ofNat ((x + 18446744073709551616 - y - c) % 18446744073709551616)), .i .u64 (Int.ofNat (bif Nat.blt x (y + c) then 1 else 0))], h) else none
  | [.y .u64 (.var i), .y .u64 (.var j), .i .u64 (.ofNat 0)], h => match factIn fa .lss (.var i) (.var j) with
    | some r => some (.tu [.y .u64 (.bin .sub .u64 (.var i) (.var j)), .i .u64 (bif r then Int.ofNat 1 else Int.ofNat 0)], h)
    | none => none
  | _, _ => none
theorem wrapU64 (x : Int) : IntKind.u64.wrap x = x % 18446744073709551616 := rfl
theorem factIn_is {ρ : Nat → Int} : ∀ {fa : List (BinOp × SE × SE × Bool)} {op : BinOp} {a b : SE} {r : Bool}, (∀ x ∈ fa, icmp x.1 (x.2.1.ev ρ) (x.2.2.1.ev ρ) = some x.2.2.2) → factIn fa op a b = some r → icmp op (a.ev ρ) (b.ev ρ) = some r
  | [], _, _, _, _, _, h => by cases h
  | (o, x, y, q) :: l, op, a, b, r, hf, h => by
    unfold factIn at h
    split at h
    · rename_i hc
      obtain ⟨rfl, rfl, rfl⟩ := hc
      cases h
      exact hf _ (List.mem_cons_self ..)
    · exact factIn_is (fun z hz => hf z (List.mem_cons_of_mem _ hz)) h
theorem natSubF_ok {C : Cx} {ρ : Nat → Int} {f : FuncId} (he : IsExt C.P f sub64Entry) {fa : List (BinOp × SE × SE × Bool)} (hf : ∀ x ∈ fa, icmp x.1 (x.2.1.ev ρ) (x.2.2.1.ev ρ) = some x.2.2.2) (hb : fa = [] ∨ ∀ i, ∃ n : Nat, ρ i = Int.ofNat n ∧ n < 256) : FnOk C ρ f (natSubF fa) := by
  intro w0 K ψ h w args us a h' m hu hn
  unfold natSubF at hn
  split at hn
  case h_3 => cases hn
  · rename_i x y c
    cases hc : Nat.ble c 1 with
    | false => rw [hc] at hn; cases hn
    | true =>
      rw [hc] at hn; cases hn
      have hc1 := Nat.le_of_ble_eq_true hc
      obtain ⟨u, v, z, rfl, h1, h2, h3⟩ := hu.three
      have e1 : u = .int .u64 (Int.ofNat x) := h1
      have e2 : v = .int .u64 (Int.ofNat y) := h2
      have e3 : z = .int .u64 (Int.ofNat c) := h3
      subst e1; subst e2; subst e3
      refine .inl ⟨_, w, ψ, he.run (run_sub64 x y c hc1 w), Psi.le.refl ψ, m, [_, _], rfl, VRs.cons rfl (VRs.cons ?_ VRs.nil)⟩
      show Value.int .u64 _ = Value.int .u64 _
      congr 1
      by_cases hlt : x < y + c
      · rw [if_pos hlt, show Nat.blt x (y + c) = true by rw [Nat.blt_eq]; exact hlt]; rfl
      · rw [if_neg hlt, show Nat.blt x (y + c) = false by rw [← Bool.not_eq_true, Nat.blt_eq]; exact hlt]; rfl
  · rename_i i j
    split at hn
    case h_2 => cases hn
    rename_i r hr
    cases hn
    rcases hb with rfl | hb
    · cases hr
    obtain ⟨x, ex, hx⟩ := hb i
    obtain ⟨y, ey, hy⟩ := hb j
    have hlt := factIn_is hf hr
    obtain ⟨u, v, z, rfl, h1, h2, h3⟩ := hu.three
    have e1 : u = .int .u64 (Int.ofNat x) := by rw [← ex]; exact h1
    have e2 : v = .int .u64 (Int.ofNat y) := by rw [← ey]; exact h2
    have e3 : z = .int .u64 ((0 : Nat) : Int) := h3
    subst e1; subst e2; subst e3
    refine .inl ⟨_, w, ψ, he.run (run_sub64 x y 0 (by decide) w), Psi.le.refl ψ, m, [_, _], rfl, VRs.cons ?_ (VRs.cons ?_ VRs.nil)⟩
    · show Value.int .u64 _ = Value.int .u64 (IntKind.u64.wrap (ρ i - ρ j))
      rw [ex, ey, wrapU64]
      congr 1
      show (((x + 18446744073709551616 - y - 0) % 18446744073709551616 : Nat) : Int) = ((x : Int) - (y : Int)) % 18446744073709551616
      omega
    · show Value.int .u64 _ = Value.int .u64 (bif r then Int.ofNat 1 else Int.ofNat 0)
      congr 1
      simp only [icmp, SE.ev, ex, ey, Option.some.injEq] at hlt
      rw [← hlt]
      by_cases h : x < y
      · simp [h]
      · simp [h]
end Go.U
