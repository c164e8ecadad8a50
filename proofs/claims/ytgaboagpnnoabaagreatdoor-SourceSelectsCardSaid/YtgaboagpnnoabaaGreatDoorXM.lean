import Derived.Test.YtgaboagpnnoabaaGreatDoorXD
/-
  X: the law at a number that is not known, in each class of numbers: found out by the kernel.
-/
set_option linter.unusedVariables false
set_option maxRecDepth 1000000
namespace Go.U
open Go Go.RowKit Go.Proofs
noncomputable section
def h0 : Hp := ⟨putGs [gl0, gl1, gl4, gl10] .e, 17⟩
def isTrue : Option (A × Hp) → Bool
  | some (.b true, _) => true
  | _ => false
def fa0 : List (BinOp × SE × SE × Bool) := [(.eql, (.bin .and .u64 (.bin .and .u64 (.bin .or .u64 (.lit (Int.ofNat 0)) (.wrap .u64 (.bin .and .u8 (.sh .shr .u8 (.var 0) 0) (.lit (Int.ofNat 255))))) (.lit (Int.ofNat 255))) (.lit (Int.ofNat 192))), (.lit (Int.ofNat 128)), false), (.eql, (.bin .and .u64 (.bin .and .u64 (.bin .or .u64 (.lit (Int.ofNat 0)) (.wrap .u64 (.bin .and .u8 (.sh .shr .u8 (.var 0) 0) (.lit (Int.ofNat 255))))) (.lit (Int.ofNat 255))) (.lit (Int.ofNat 128))), (.lit (Int.ofNat 128)), false), (.eql, (.bin .and .u64 (.bin .and .u64 (.bin .or .u64 (.lit (Int.ofNat 0)) (.wrap .u64 (.bin .and .u8 (.sh .shr .u8 (.var 0) 0) (.lit (Int.ofNat 255))))) (.lit (Int.ofNat 255))) (.lit (Int.ofNat 255))), (.lit (Int.ofNat 3)), false), (.eql, (.sh .shr .u8 (.var 0) 6), (.lit (Int.ofNat 2)), false), (.eql, (.sh .shr .u8 (.var 0) 7), (.lit (Int.ofNat 1)), false), (.eql, (.var 0), (.lit (Int.ofNat 3)), false)]
def fa1 : List (BinOp × SE × SE × Bool) := [(.eql, (.bin .and .u64 (.bin .and .u64 (.bin .or .u64 (.lit (Int.ofNat 0)) (.wrap .u64 (.bin .and .u8 (.sh .shr .u8 (.var 0) 0) (.lit (Int.ofNat 255))))) (.lit (Int.ofNat 255))) (.lit (Int.ofNat 192))), (.lit (Int.ofNat 128)), false), (.eql, (.bin .and .u64 (.bin .and .u64 (.bin .or .u64 (.lit (Int.ofNat 0)) (.wrap .u64 (.bin .and .u8 (.sh .shr .u8 (.var 0) 0) (.lit (Int.ofNat 255))))) (.lit (Int.ofNat 255))) (.lit (Int.ofNat 128))), (.lit (Int.ofNat 128)), false), (.eql, (.bin .and .u64 (.bin .and .u64 (.bin .or .u64 (.lit (Int.ofNat 0)) (.wrap .u64 (.bin .and .u8 (.sh .shr .u8 (.var 0) 0) (.lit (Int.ofNat 255))))) (.lit (Int.ofNat 255))) (.lit (Int.ofNat 255))), (.lit (Int.ofNat 3)), true), (.eql, (.sh .shr .u8 (.var 0) 6), (.lit (Int.ofNat 2)), false), (.eql, (.sh .shr .u8 (.var 0) 7), (.lit (Int.ofNat 1)), false), (.eql, (.var 0), (.lit (Int.ofNat 3)), true)]
def fa2 : List (BinOp × SE × SE × Bool) := [(.eql, (.bin .and .u64 (.bin .and .u64 (.bin .or .u64 (.lit (Int.ofNat 0)) (.wrap .u64 (.bin .and .u8 (.sh .shr .u8 (.var 0) 0) (.lit (Int.ofNat 255))))) (.lit (Int.ofNat 255))) (.lit (Int.ofNat 192))), (.lit (Int.ofNat 128)), true), (.eql, (.sh .shr .u8 (.var 0) 6), (.lit (Int.ofNat 2)), true)]
def fa3 : List (BinOp × SE × SE × Bool) := [(.eql, (.bin .and .u64 (.bin .and .u64 (.bin .or .u64 (.lit (Int.ofNat 0)) (.wrap .u64 (.bin .and .u8 (.sh .shr .u8 (.var 0) 0) (.lit (Int.ofNat 255))))) (.lit (Int.ofNat 255))) (.lit (Int.ofNat 192))), (.lit (Int.ofNat 128)), false), (.eql, (.bin .and .u64 (.bin .and .u64 (.bin .or .u64 (.lit (Int.ofNat 0)) (.wrap .u64 (.bin .and .u8 (.sh .shr .u8 (.var 0) 0) (.lit (Int.ofNat 255))))) (.lit (Int.ofNat 255))) (.lit (Int.ofNat 128))), (.lit (Int.ofNat 128)), true), (.eql, (.sh .shr .u8 (.var 0) 6), (.lit (Int.ofNat 2)), false), (.eql, (.sh .shr .u8 (.var 0) 7), (.lit (Int.ofNat 1)), true)]
def meetsF (n : Nat) (fa : List (BinOp × SE × SE × Bool)) : Bool := fa.all fun x => match icmp x.1 (x.2.1.ev fun _ => Int.ofNat n) (x.2.2.1.ev fun _ => Int.ofNat n) with | some r => r == x.2.2.2 | none => false
end
theorem m0 : isTrue (callU (cx fa0 17 (ntM 17)) 539 3 [.y .u8 (.var 0)] h0) = true := by kernel_rfl
theorem m1 : isTrue (callU (cx fa1 17 (ntM 17)) 412 3 [.y .u8 (.var 0)] h0) = true := by kernel_rfl
theorem m2 : isTrue (callU (cx fa2 17 (ntM 17)) 691 3 [.y .u8 (.var 0)] h0) = true := by kernel_rfl
theorem m3 : isTrue (callU (cx fa3 17 (ntM 17)) 461 3 [.y .u8 (.var 0)] h0) = true := by kernel_rfl
theorem classes : ((List.range 256).all fun n => meetsF n fa0 || meetsF n fa1 || meetsF n fa2 || meetsF n fa3) = true := by kernel_rfl
theorem isTrue_some {x : Option (A × Hp)} (h : isTrue x = true) : ∃ h', x = some (.b true, h') := by
  unfold isTrue at h
  split at h
  · exact ⟨_, rfl⟩
  · cases h
theorem meets_ok {n : Nat} {fa : List (BinOp × SE × SE × Bool)} (h : meetsF n fa = true) : ∀ x ∈ fa, icmp x.1 (x.2.1.ev fun _ => Int.ofNat n) (x.2.2.1.ev fun _ => Int.ofNat n) = some x.2.2.2 := by
  intro x hx
  have := List.all_eq_true.1 h x hx
  split at this
  · rename_i r hr
    rw [hr]
    simpa using this
  · cases this
/-- Whatever the number. -/
theorem every {n : Nat} (hn : n < 256) : ∃ fa k h', (∀ x ∈ fa, icmp x.1 (x.2.1.ev fun _ => Int.ofNat n) (x.2.2.1.ev fun _ => Int.ofNat n) = some x.2.2.2) ∧ callU (cx fa 17 (ntM 17)) k 3 [.y .u8 (.var 0)] h0 = some (.b true, h') := by
  have := List.all_eq_true.1 classes n (List.mem_range.2 hn)
  simp only [Bool.or_eq_true] at this
  rcases this with ((h | h) | h) | h
  · obtain ⟨h', e⟩ := isTrue_some m0; exact ⟨_, _, h', meets_ok h, e⟩
  · obtain ⟨h', e⟩ := isTrue_some m1; exact ⟨_, _, h', meets_ok h, e⟩
  · obtain ⟨h', e⟩ := isTrue_some m2; exact ⟨_, _, h', meets_ok h, e⟩
  · obtain ⟨h', e⟩ := isTrue_some m3; exact ⟨_, _, h', meets_ok h, e⟩
end Go.U
