import Derived.Test.YtjdkhijaffbmaaaGreatDoorXD
/-
  X: the law at three numbers that are not known: found out by the kernel.
-/
set_option linter.unusedVariables false
set_option maxRecDepth 1000000
namespace Go.U
open Go Go.RowKit Go.Proofs
noncomputable section
def h0 : Hp := ⟨putGs [gl0, gl1, gl4, gl7] .e, 17⟩
def isTrue : Option (A × Hp) → Bool
  | some (.b true, _) => true
  | _ => false
def knT : Kn := ⟨[(.eql, (.var 0), (.var 0), true), (.eql, (.var 1), (.var 1), true), (.eql, (.var 2), (.var 2), true)], [((.wrap .u64 (.var 0)), (.var 0)), ((.wrap .u64 (.var 1)), (.var 1)), ((.wrap .u64 (.var 2)), (.var 2)), ((.wrap .i64 (.var 1)), (.var 1)), ((.wrap .i64 (.var 2)), (.var 2)), ((.bin .and .u64 (.var 0) (.lit (Int.ofNat 65535))), (.var 0)), ((.bin .and .u64 (.var 1) (.lit (Int.ofNat 65535))), (.var 1)), ((.bin .and .u64 (.var 2) (.lit (Int.ofNat 65535))), (.var 2))]⟩
/-- The three numbers. -/
def rho3 (a b c : Nat) : Nat → Int := fun i => bif Nat.beq i 0 then Int.ofNat a else bif Nat.beq i 1 then Int.ofNat b else Int.ofNat c
end
theorem wrap_u64 {n : Nat} (h : n < 65536) : IntKind.u64.wrap (Int.ofNat n) = Int.ofNat n := by
  have e : IntKind.u64.wrap (Int.ofNat n) = (n : Int) % 18446744073709551616 := rfl
  rw [e]
  show (n : Int) % 18446744073709551616 = (n : Int)
  omega
theorem wrap_i64 {n : Nat} (h : n < 65536) : IntKind.i64.wrap (Int.ofNat n) = Int.ofNat n := by
  show (if (true && decide ((n : Int) % 18446744073709551616 ≥ 9223372036854775808)) = true then (n : Int) % 18446744073709551616 - 18446744073709551616 else (n : Int) % 18446744073709551616) = (n : Int)
  rw [if_neg (by simp; omega)]
  omega
theorem and_16 {n : Nat} (h : n < 65536) : iop .and .u64 (Int.ofNat n) (Int.ofNat 65535) = Int.ofNat n := by
  show IntKind.u64.wrap (((BitVec.ofInt 64 (n : Int) &&& BitVec.ofInt 64 65535).toNat : Nat) : Int) = (n : Int)
  have e : (BitVec.ofInt 64 (n : Int) &&& BitVec.ofInt 64 65535).toNat = n := by
    rw [BitVec.toNat_and, BitVec.toNat_ofInt, BitVec.toNat_ofInt]
    have h1 : ((n : Int) % ((2 ^ 64 : Nat) : Int)).toNat = n := by omega
    have h2 : ((65535 : Int) % ((2 ^ 64 : Nat) : Int)).toNat = 2 ^ 16 - 1 := by decide
    rw [h1, h2, Nat.and_two_pow_sub_one_eq_mod]
    omega
  rw [e]
  exact wrap_u64 h
theorem knT_ok {a b c : Nat} (ha : a < 65536) (hb : b < 65536) (hc : c < 65536) : knT.Ok (rho3 a b c) := by
  refine ⟨fun x hx => ?_, fun x hx => ?_⟩
  · simp only [knT, List.mem_cons, List.not_mem_nil, or_false] at hx
    rcases hx with rfl | rfl | rfl <;> simp [icmp, SE.ev]
  · simp only [knT, List.mem_cons, List.not_mem_nil, or_false] at hx
    rcases hx with rfl | rfl | rfl | rfl | rfl | rfl | rfl | rfl
    · exact wrap_u64 ha
    · exact wrap_u64 hb
    · exact wrap_u64 hc
    · exact wrap_i64 hb
    · exact wrap_i64 hc
    · exact and_16 ha
    · exact and_16 hb
    · exact and_16 hc
theorem isTrue_some {x : Option (A × Hp)} (h : isTrue x = true) : ∃ h', x = some (.b true, h') := by
  unfold isTrue at h
  split at h
  · exact ⟨_, rfl⟩
  · cases h
/-- The law's run. -/
theorem m0 : isTrue (callU (cx knT 17 (ntM 17)) 5995 4 [.y .u16 (.var 0), .y .u16 (.var 1), .y .u16 (.var 2)] h0) = true := by kernel_rfl
end Go.U
