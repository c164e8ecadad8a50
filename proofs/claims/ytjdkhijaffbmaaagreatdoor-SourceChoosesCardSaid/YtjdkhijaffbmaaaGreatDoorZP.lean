import Derived.Test.YtjdkhijaffbmaaaGreatDoorZD
/-
  packet.Put at two numbers of 8 bits that are not known: bit by bit, whatever each bit is.
-/
set_option linter.unusedVariables false
set_option linter.unusedSimpArgs false
set_option maxRecDepth 1000000
namespace Go.U
open Go Go.RowKit Go.Proofs
noncomputable section
def rwS : List (SE × SE) := [((.sh .shr .u8 (.var 1) 0), (.var 1)), ((.sh .shr .u8 (.var 0) 0), (.var 0)), ((.bin .and .u8 (.var 1) (.lit (Int.ofNat 255))), (.var 1)), ((.bin .and .u8 (.var 0) (.lit (Int.ofNat 255))), (.var 0)), ((.wrap .u64 (.var 1)), (.var 1)), ((.wrap .u64 (.var 0)), (.var 0)), ((.bin .or .u64 (.lit (Int.ofNat 0)) (.var 1)), (.var 1)), ((.bin .or .u64 (.lit (Int.ofNat 0)) (.var 0)), (.var 0)), ((.bin .and .u64 (.var 1) (.lit (Int.ofNat 255))), (.var 1)), ((.bin .and .u64 (.var 0) (.lit (Int.ofNat 255))), (.var 0)), ((.sh .shr .u64 (.var 0) 0), (.var 0)), ((.sh .shr .u64 (.var 1) 0), (.var 1))]
def kP (r0 r1 r2 r3 r4 r5 r6 r7 r8 r9 r10 r11 r12 r13 r14 r15 : Bool) : Kn := ⟨[(.eql, .var 0, .var 0, true), (.eql, .var 1, .var 1, true), (.eql, (.bin .and .u64 (.sh .shr .u64 (.var 0) 7) (.lit (Int.ofNat 1))), .lit (Int.ofNat 1), r0), (.eql, (.bin .and .u64 (.sh .shr .u64 (.var 0) 6) (.lit (Int.ofNat 1))), .lit (Int.ofNat 1), r1), (.eql, (.bin .and .u64 (.sh .shr .u64 (.var 0) 5) (.lit (Int.ofNat 1))), .lit (Int.ofNat 1), r2), (.eql, (.bin .and .u64 (.sh .shr .u64 (.var 0) 4) (.lit (Int.ofNat 1))), .lit (Int.ofNat 1), r3), (.eql, (.bin .and .u64 (.sh .shr .u64 (.var 0) 3) (.lit (Int.ofNat 1))), .lit (Int.ofNat 1), r4), (.eql, (.bin .and .u64 (.sh .shr .u64 (.var 0) 2) (.lit (Int.ofNat 1))), .lit (Int.ofNat 1), r5), (.eql, (.bin .and .u64 (.sh .shr .u64 (.var 0) 1) (.lit (Int.ofNat 1))), .lit (Int.ofNat 1), r6), (.eql, (.bin .and .u64 (.var 0) (.lit (Int.ofNat 1))), .lit (Int.ofNat 1), r7), (.eql, (.bin .and .u64 (.sh .shr .u64 (.var 1) 7) (.lit (Int.ofNat 1))), .lit (Int.ofNat 1), r8), (.eql, (.bin .and .u64 (.sh .shr .u64 (.var 1) 6) (.lit (Int.ofNat 1))), .lit (Int.ofNat 1), r9), (.eql, (.bin .and .u64 (.sh .shr .u64 (.var 1) 5) (.lit (Int.ofNat 1))), .lit (Int.ofNat 1), r10), (.eql, (.bin .and .u64 (.sh .shr .u64 (.var 1) 4) (.lit (Int.ofNat 1))), .lit (Int.ofNat 1), r11), (.eql, (.bin .and .u64 (.sh .shr .u64 (.var 1) 3) (.lit (Int.ofNat 1))), .lit (Int.ofNat 1), r12), (.eql, (.bin .and .u64 (.sh .shr .u64 (.var 1) 2) (.lit (Int.ofNat 1))), .lit (Int.ofNat 1), r13), (.eql, (.bin .and .u64 (.sh .shr .u64 (.var 1) 1) (.lit (Int.ofNat 1))), .lit (Int.ofNat 1), r14), (.eql, (.bin .and .u64 (.var 1) (.lit (Int.ofNat 1))), .lit (Int.ofNat 1), r15)], rwS⟩
def cP (k : Kn) : Cx := cx k 18 (nt0 18)
def kF : Kn := kP false false false false false false false false false false false false false false false false
def putArgs : List A := [.sl (some (17, 0, 3)) 2 2 false]
def putObjs : List CO := [.cells 64 false [.i .i64 (Int.ofNat 8), .i .u64 (Int.ofNat 0), .y .u64 (.var 0), .i .i64 (Int.ofNat 8), .i .u64 (Int.ofNat 0), .y .u64 (.var 1)]]
def putX : A := .tu [.sl (some (24, 0, 1)) 2 2 true, .i .i64 (Int.ofNat 0)]
def ckP (p q : Int) : Chunk := { args := putArgs, gs := [], objs := putObjs, x := putX, new := [(24, .cells 5 false [.i .u8 p, .i .u8 q])], nx := 32 }
def putFr : AF := match enterF (cP kF) 60 putArgs .normal with | some fr => fr | none => default
def putS : AS := ⟨putFr, [], canon 17 (ckP 0 0)⟩
def setC (p q : Int) : AS → AS
  | ⟨fr, cs, h⟩ => ⟨fr, cs, h.upd 24 (.cells 5 false 2 (T.ofList [.i .u8 p, .i .u8 q] 0 .e))⟩
def pS (K : Nat) (p q : Int) : AS := setC p q (getS (runA (cP kF) K putS))
/-- .. with the bit that was looked at last. -/
def setB (b : Bool) : AS → AS
  | ⟨⟨fn, nt, tm, td, df, md, kd, rd⟩, cs, h⟩ => ⟨⟨fn, nt, tm.set 35 (.b b), td, df, md, kd, rd⟩, cs, h⟩
def pT (K : Nat) (b : Bool) (p q : Int) : AS := setB b (pS K p q)
end
theorem runA_add (C : Cx) : ∀ (a b : Nat) {s s1 s2 : AS}, runA C a s = some s1 → runA C b s1 = some s2 → runA C (a + b) s = some s2
  | 0, b, s, s1, s2, h, k => by cases h; rw [Nat.zero_add]; exact k
  | a + 1, b, s, s1, s2, h, k => by
    rw [Nat.add_right_comm]
    unfold runA at h ⊢
    cases hs : stepA C s with
    | none => rw [hs] at h; cases h
    | some s' =>
      rw [hs] at h
      exact runA_add C a b h k
section
variable {r0 r1 r2 r3 r4 r5 r6 r7 r8 r9 r10 r11 r12 r13 r14 r15 : Bool}
theorem g0 : runA (cP (kP r0 r1 r2 r3 r4 r5 r6 r7 r8 r9 r10 r11 r12 r13 r14 r15)) 84 putS = some (pS 84 0 0) := by kernel_rfl
theorem g0t (b : Bool) (p q : Int) : runA (cP (kP true r1 r2 r3 r4 r5 r6 r7 r8 r9 r10 r11 r12 r13 r14 r15)) 21 (pS 84 p q) = some (pT 104 true (iop .or .u8 p 128) q) := by kernel_rfl
theorem g0f (b : Bool) (p q : Int) : runA (cP (kP false r1 r2 r3 r4 r5 r6 r7 r8 r9 r10 r11 r12 r13 r14 r15)) 20 (pS 84 p q) = some (pT 104 false p q) := by kernel_rfl
theorem s0 (b : Bool) (p q : Int) : ∃ n b' p' q', runA (cP (kP r0 r1 r2 r3 r4 r5 r6 r7 r8 r9 r10 r11 r12 r13 r14 r15)) n (pS 84 p q) = some (pT 104 b' p' q') := by
  cases r0
  · exact ⟨_, _, _, _, g0f b p q⟩
  · exact ⟨_, _, _, _, g0t b p q⟩
theorem g1t (b : Bool) (p q : Int) : runA (cP (kP r0 true r2 r3 r4 r5 r6 r7 r8 r9 r10 r11 r12 r13 r14 r15)) 21 (pT 104 b p q) = some (pT 124 true (iop .or .u8 p 64) q) := by kernel_rfl
theorem g1f (b : Bool) (p q : Int) : runA (cP (kP r0 false r2 r3 r4 r5 r6 r7 r8 r9 r10 r11 r12 r13 r14 r15)) 20 (pT 104 b p q) = some (pT 124 false p q) := by kernel_rfl
theorem s1 (b : Bool) (p q : Int) : ∃ n b' p' q', runA (cP (kP r0 r1 r2 r3 r4 r5 r6 r7 r8 r9 r10 r11 r12 r13 r14 r15)) n (pT 104 b p q) = some (pT 124 b' p' q') := by
  cases r1
  · exact ⟨_, _, _, _, g1f b p q⟩
  · exact ⟨_, _, _, _, g1t b p q⟩
theorem g2t (b : Bool) (p q : Int) : runA (cP (kP r0 r1 true r3 r4 r5 r6 r7 r8 r9 r10 r11 r12 r13 r14 r15)) 21 (pT 124 b p q) = some (pT 144 true (iop .or .u8 p 32) q) := by kernel_rfl
theorem g2f (b : Bool) (p q : Int) : runA (cP (kP r0 r1 false r3 r4 r5 r6 r7 r8 r9 r10 r11 r12 r13 r14 r15)) 20 (pT 124 b p q) = some (pT 144 false p q) := by kernel_rfl
theorem s2 (b : Bool) (p q : Int) : ∃ n b' p' q', runA (cP (kP r0 r1 r2 r3 r4 r5 r6 r7 r8 r9 r10 r11 r12 r13 r14 r15)) n (pT 124 b p q) = some (pT 144 b' p' q') := by
  cases r2
  · exact ⟨_, _, _, _, g2f b p q⟩
  · exact ⟨_, _, _, _, g2t b p q⟩
theorem g3t (b : Bool) (p q : Int) : runA (cP (kP r0 r1 r2 true r4 r5 r6 r7 r8 r9 r10 r11 r12 r13 r14 r15)) 21 (pT 144 b p q) = some (pT 164 true (iop .or .u8 p 16) q) := by kernel_rfl
theorem g3f (b : Bool) (p q : Int) : runA (cP (kP r0 r1 r2 false r4 r5 r6 r7 r8 r9 r10 r11 r12 r13 r14 r15)) 20 (pT 144 b p q) = some (pT 164 false p q) := by kernel_rfl
theorem s3 (b : Bool) (p q : Int) : ∃ n b' p' q', runA (cP (kP r0 r1 r2 r3 r4 r5 r6 r7 r8 r9 r10 r11 r12 r13 r14 r15)) n (pT 144 b p q) = some (pT 164 b' p' q') := by
  cases r3
  · exact ⟨_, _, _, _, g3f b p q⟩
  · exact ⟨_, _, _, _, g3t b p q⟩
theorem g4t (b : Bool) (p q : Int) : runA (cP (kP r0 r1 r2 r3 true r5 r6 r7 r8 r9 r10 r11 r12 r13 r14 r15)) 21 (pT 164 b p q) = some (pT 184 true (iop .or .u8 p 8) q) := by kernel_rfl
theorem g4f (b : Bool) (p q : Int) : runA (cP (kP r0 r1 r2 r3 false r5 r6 r7 r8 r9 r10 r11 r12 r13 r14 r15)) 20 (pT 164 b p q) = some (pT 184 false p q) := by kernel_rfl
theorem s4 (b : Bool) (p q : Int) : ∃ n b' p' q', runA (cP (kP r0 r1 r2 r3 r4 r5 r6 r7 r8 r9 r10 r11 r12 r13 r14 r15)) n (pT 164 b p q) = some (pT 184 b' p' q') := by
  cases r4
  · exact ⟨_, _, _, _, g4f b p q⟩
  · exact ⟨_, _, _, _, g4t b p q⟩
theorem g5t (b : Bool) (p q : Int) : runA (cP (kP r0 r1 r2 r3 r4 true r6 r7 r8 r9 r10 r11 r12 r13 r14 r15)) 21 (pT 184 b p q) = some (pT 204 true (iop .or .u8 p 4) q) := by kernel_rfl
theorem g5f (b : Bool) (p q : Int) : runA (cP (kP r0 r1 r2 r3 r4 false r6 r7 r8 r9 r10 r11 r12 r13 r14 r15)) 20 (pT 184 b p q) = some (pT 204 false p q) := by kernel_rfl
theorem s5 (b : Bool) (p q : Int) : ∃ n b' p' q', runA (cP (kP r0 r1 r2 r3 r4 r5 r6 r7 r8 r9 r10 r11 r12 r13 r14 r15)) n (pT 184 b p q) = some (pT 204 b' p' q') := by
  cases r5
  · exact ⟨_, _, _, _, g5f b p q⟩
  · exact ⟨_, _, _, _, g5t b p q⟩
theorem g6t (b : Bool) (p q : Int) : runA (cP (kP r0 r1 r2 r3 r4 r5 true r7 r8 r9 r10 r11 r12 r13 r14 r15)) 21 (pT 204 b p q) = some (pT 224 true (iop .or .u8 p 2) q) := by kernel_rfl
theorem g6f (b : Bool) (p q : Int) : runA (cP (kP r0 r1 r2 r3 r4 r5 false r7 r8 r9 r10 r11 r12 r13 r14 r15)) 20 (pT 204 b p q) = some (pT 224 false p q) := by kernel_rfl
theorem s6 (b : Bool) (p q : Int) : ∃ n b' p' q', runA (cP (kP r0 r1 r2 r3 r4 r5 r6 r7 r8 r9 r10 r11 r12 r13 r14 r15)) n (pT 204 b p q) = some (pT 224 b' p' q') := by
  cases r6
  · exact ⟨_, _, _, _, g6f b p q⟩
  · exact ⟨_, _, _, _, g6t b p q⟩
theorem g7t (b : Bool) (p q : Int) : runA (cP (kP r0 r1 r2 r3 r4 r5 r6 true r8 r9 r10 r11 r12 r13 r14 r15)) 30 (pT 224 b p q) = some (pT 253 true (iop .or .u8 p 1) q) := by kernel_rfl
theorem g7f (b : Bool) (p q : Int) : runA (cP (kP r0 r1 r2 r3 r4 r5 r6 false r8 r9 r10 r11 r12 r13 r14 r15)) 29 (pT 224 b p q) = some (pT 253 false p q) := by kernel_rfl
theorem s7 (b : Bool) (p q : Int) : ∃ n b' p' q', runA (cP (kP r0 r1 r2 r3 r4 r5 r6 r7 r8 r9 r10 r11 r12 r13 r14 r15)) n (pT 224 b p q) = some (pT 253 b' p' q') := by
  cases r7
  · exact ⟨_, _, _, _, g7f b p q⟩
  · exact ⟨_, _, _, _, g7t b p q⟩
theorem g8t (b : Bool) (p q : Int) : runA (cP (kP r0 r1 r2 r3 r4 r5 r6 r7 true r9 r10 r11 r12 r13 r14 r15)) 21 (pT 253 b p q) = some (pT 273 true p (iop .or .u8 q 128)) := by kernel_rfl
theorem g8f (b : Bool) (p q : Int) : runA (cP (kP r0 r1 r2 r3 r4 r5 r6 r7 false r9 r10 r11 r12 r13 r14 r15)) 20 (pT 253 b p q) = some (pT 273 false p q) := by kernel_rfl
theorem s8 (b : Bool) (p q : Int) : ∃ n b' p' q', runA (cP (kP r0 r1 r2 r3 r4 r5 r6 r7 r8 r9 r10 r11 r12 r13 r14 r15)) n (pT 253 b p q) = some (pT 273 b' p' q') := by
  cases r8
  · exact ⟨_, _, _, _, g8f b p q⟩
  · exact ⟨_, _, _, _, g8t b p q⟩
theorem g9t (b : Bool) (p q : Int) : runA (cP (kP r0 r1 r2 r3 r4 r5 r6 r7 r8 true r10 r11 r12 r13 r14 r15)) 21 (pT 273 b p q) = some (pT 293 true p (iop .or .u8 q 64)) := by kernel_rfl
theorem g9f (b : Bool) (p q : Int) : runA (cP (kP r0 r1 r2 r3 r4 r5 r6 r7 r8 false r10 r11 r12 r13 r14 r15)) 20 (pT 273 b p q) = some (pT 293 false p q) := by kernel_rfl
theorem s9 (b : Bool) (p q : Int) : ∃ n b' p' q', runA (cP (kP r0 r1 r2 r3 r4 r5 r6 r7 r8 r9 r10 r11 r12 r13 r14 r15)) n (pT 273 b p q) = some (pT 293 b' p' q') := by
  cases r9
  · exact ⟨_, _, _, _, g9f b p q⟩
  · exact ⟨_, _, _, _, g9t b p q⟩
theorem g10t (b : Bool) (p q : Int) : runA (cP (kP r0 r1 r2 r3 r4 r5 r6 r7 r8 r9 true r11 r12 r13 r14 r15)) 21 (pT 293 b p q) = some (pT 313 true p (iop .or .u8 q 32)) := by kernel_rfl
theorem g10f (b : Bool) (p q : Int) : runA (cP (kP r0 r1 r2 r3 r4 r5 r6 r7 r8 r9 false r11 r12 r13 r14 r15)) 20 (pT 293 b p q) = some (pT 313 false p q) := by kernel_rfl
theorem s10 (b : Bool) (p q : Int) : ∃ n b' p' q', runA (cP (kP r0 r1 r2 r3 r4 r5 r6 r7 r8 r9 r10 r11 r12 r13 r14 r15)) n (pT 293 b p q) = some (pT 313 b' p' q') := by
  cases r10
  · exact ⟨_, _, _, _, g10f b p q⟩
  · exact ⟨_, _, _, _, g10t b p q⟩
theorem g11t (b : Bool) (p q : Int) : runA (cP (kP r0 r1 r2 r3 r4 r5 r6 r7 r8 r9 r10 true r12 r13 r14 r15)) 21 (pT 313 b p q) = some (pT 333 true p (iop .or .u8 q 16)) := by kernel_rfl
theorem g11f (b : Bool) (p q : Int) : runA (cP (kP r0 r1 r2 r3 r4 r5 r6 r7 r8 r9 r10 false r12 r13 r14 r15)) 20 (pT 313 b p q) = some (pT 333 false p q) := by kernel_rfl
theorem s11 (b : Bool) (p q : Int) : ∃ n b' p' q', runA (cP (kP r0 r1 r2 r3 r4 r5 r6 r7 r8 r9 r10 r11 r12 r13 r14 r15)) n (pT 313 b p q) = some (pT 333 b' p' q') := by
  cases r11
  · exact ⟨_, _, _, _, g11f b p q⟩
  · exact ⟨_, _, _, _, g11t b p q⟩
theorem g12t (b : Bool) (p q : Int) : runA (cP (kP r0 r1 r2 r3 r4 r5 r6 r7 r8 r9 r10 r11 true r13 r14 r15)) 21 (pT 333 b p q) = some (pT 353 true p (iop .or .u8 q 8)) := by kernel_rfl
theorem g12f (b : Bool) (p q : Int) : runA (cP (kP r0 r1 r2 r3 r4 r5 r6 r7 r8 r9 r10 r11 false r13 r14 r15)) 20 (pT 333 b p q) = some (pT 353 false p q) := by kernel_rfl
theorem s12 (b : Bool) (p q : Int) : ∃ n b' p' q', runA (cP (kP r0 r1 r2 r3 r4 r5 r6 r7 r8 r9 r10 r11 r12 r13 r14 r15)) n (pT 333 b p q) = some (pT 353 b' p' q') := by
  cases r12
  · exact ⟨_, _, _, _, g12f b p q⟩
  · exact ⟨_, _, _, _, g12t b p q⟩
theorem g13t (b : Bool) (p q : Int) : runA (cP (kP r0 r1 r2 r3 r4 r5 r6 r7 r8 r9 r10 r11 r12 true r14 r15)) 21 (pT 353 b p q) = some (pT 373 true p (iop .or .u8 q 4)) := by kernel_rfl
theorem g13f (b : Bool) (p q : Int) : runA (cP (kP r0 r1 r2 r3 r4 r5 r6 r7 r8 r9 r10 r11 r12 false r14 r15)) 20 (pT 353 b p q) = some (pT 373 false p q) := by kernel_rfl
theorem s13 (b : Bool) (p q : Int) : ∃ n b' p' q', runA (cP (kP r0 r1 r2 r3 r4 r5 r6 r7 r8 r9 r10 r11 r12 r13 r14 r15)) n (pT 353 b p q) = some (pT 373 b' p' q') := by
  cases r13
  · exact ⟨_, _, _, _, g13f b p q⟩
  · exact ⟨_, _, _, _, g13t b p q⟩
theorem g14t (b : Bool) (p q : Int) : runA (cP (kP r0 r1 r2 r3 r4 r5 r6 r7 r8 r9 r10 r11 r12 r13 true r15)) 21 (pT 373 b p q) = some (pT 393 true p (iop .or .u8 q 2)) := by kernel_rfl
theorem g14f (b : Bool) (p q : Int) : runA (cP (kP r0 r1 r2 r3 r4 r5 r6 r7 r8 r9 r10 r11 r12 r13 false r15)) 20 (pT 373 b p q) = some (pT 393 false p q) := by kernel_rfl
theorem s14 (b : Bool) (p q : Int) : ∃ n b' p' q', runA (cP (kP r0 r1 r2 r3 r4 r5 r6 r7 r8 r9 r10 r11 r12 r13 r14 r15)) n (pT 373 b p q) = some (pT 393 b' p' q') := by
  cases r14
  · exact ⟨_, _, _, _, g14f b p q⟩
  · exact ⟨_, _, _, _, g14t b p q⟩
theorem g15t (b : Bool) (p q : Int) : runA (cP (kP r0 r1 r2 r3 r4 r5 r6 r7 r8 r9 r10 r11 r12 r13 r14 true)) 28 (pT 393 b p q) = some (pS 420 p (iop .or .u8 q 1)) := by kernel_rfl
theorem g15f (b : Bool) (p q : Int) : runA (cP (kP r0 r1 r2 r3 r4 r5 r6 r7 r8 r9 r10 r11 r12 r13 r14 false)) 27 (pT 393 b p q) = some (pS 420 p q) := by kernel_rfl
theorem s15 (b : Bool) (p q : Int) : ∃ n p' q', runA (cP (kP r0 r1 r2 r3 r4 r5 r6 r7 r8 r9 r10 r11 r12 r13 r14 r15)) n (pT 393 b p q) = some (pS 420 p' q') := by
  cases r15
  · exact ⟨_, _, _, g15f b p q⟩
  · exact ⟨_, _, _, g15t b p q⟩
theorem put_runs : ∃ n p q, runA (cP (kP r0 r1 r2 r3 r4 r5 r6 r7 r8 r9 r10 r11 r12 r13 r14 r15)) n putS = some (pS 420 p q) := by
  have e0 : ∃ n p q, runA (cP (kP r0 r1 r2 r3 r4 r5 r6 r7 r8 r9 r10 r11 r12 r13 r14 r15)) n putS = some (pS 84 p q) := ⟨_, _, _, g0⟩
  have e1 : ∃ n b p q, runA (cP (kP r0 r1 r2 r3 r4 r5 r6 r7 r8 r9 r10 r11 r12 r13 r14 r15)) n putS = some (pT 104 b p q) := by
    obtain ⟨n, p, q, h⟩ := e0
    obtain ⟨m, b', p', q', k⟩ := s0 (r0 := r0) (r1 := r1) (r2 := r2) (r3 := r3) (r4 := r4) (r5 := r5) (r6 := r6) (r7 := r7) (r8 := r8) (r9 := r9) (r10 := r10) (r11 := r11) (r12 := r12) (r13 := r13) (r14 := r14) (r15 := r15) false p q
    exact ⟨_, _, _, _, runA_add _ _ _ h k⟩
  have e2 : ∃ n b p q, runA (cP (kP r0 r1 r2 r3 r4 r5 r6 r7 r8 r9 r10 r11 r12 r13 r14 r15)) n putS = some (pT 124 b p q) := by
    obtain ⟨n, b, p, q, h⟩ := e1
    obtain ⟨m, b', p', q', k⟩ := s1 (r0 := r0) (r1 := r1) (r2 := r2) (r3 := r3) (r4 := r4) (r5 := r5) (r6 := r6) (r7 := r7) (r8 := r8) (r9 := r9) (r10 := r10) (r11 := r11) (r12 := r12) (r13 := r13) (r14 := r14) (r15 := r15) b p q
    exact ⟨_, _, _, _, runA_add _ _ _ h k⟩
  have e3 : ∃ n b p q, runA (cP (kP r0 r1 r2 r3 r4 r5 r6 r7 r8 r9 r10 r11 r12 r13 r14 r15)) n putS = some (pT 144 b p q) := by
    obtain ⟨n, b, p, q, h⟩ := e2
    obtain ⟨m, b', p', q', k⟩ := s2 (r0 := r0) (r1 := r1) (r2 := r2) (r3 := r3) (r4 := r4) (r5 := r5) (r6 := r6) (r7 := r7) (r8 := r8) (r9 := r9) (r10 := r10) (r11 := r11) (r12 := r12) (r13 := r13) (r14 := r14) (r15 := r15) b p q
    exact ⟨_, _, _, _, runA_add _ _ _ h k⟩
  have e4 : ∃ n b p q, runA (cP (kP r0 r1 r2 r3 r4 r5 r6 r7 r8 r9 r10 r11 r12 r13 r14 r15)) n putS = some (pT 164 b p q) := by
    obtain ⟨n, b, p, q, h⟩ := e3
    obtain ⟨m, b', p', q', k⟩ := s3 (r0 := r0) (r1 := r1) (r2 := r2) (r3 := r3) (r4 := r4) (r5 := r5) (r6 := r6) (r7 := r7) (r8 := r8) (r9 := r9) (r10 := r10) (r11 := r11) (r12 := r12) (r13 := r13) (r14 := r14) (r15 := r15) b p q
    exact ⟨_, _, _, _, runA_add _ _ _ h k⟩
  have e5 : ∃ n b p q, runA (cP (kP r0 r1 r2 r3 r4 r5 r6 r7 r8 r9 r10 r11 r12 r13 r14 r15)) n putS = some (pT 184 b p q) := by
    obtain ⟨n, b, p, q, h⟩ := e4
    obtain ⟨m, b', p', q', k⟩ := s4 (r0 := r0) (r1 := r1) (r2 := r2) (r3 := r3) (r4 := r4) (r5 := r5) (r6 := r6) (r7 := r7) (r8 := r8) (r9 := r9) (r10 := r10) (r11 := r11) (r12 := r12) (r13 := r13) (r14 := r14) (r15 := r15) b p q
    exact ⟨_, _, _, _, runA_add _ _ _ h k⟩
  have e6 : ∃ n b p q, runA (cP (kP r0 r1 r2 r3 r4 r5 r6 r7 r8 r9 r10 r11 r12 r13 r14 r15)) n putS = some (pT 204 b p q) := by
    obtain ⟨n, b, p, q, h⟩ := e5
    obtain ⟨m, b', p', q', k⟩ := s5 (r0 := r0) (r1 := r1) (r2 := r2) (r3 := r3) (r4 := r4) (r5 := r5) (r6 := r6) (r7 := r7) (r8 := r8) (r9 := r9) (r10 := r10) (r11 := r11) (r12 := r12) (r13 := r13) (r14 := r14) (r15 := r15) b p q
    exact ⟨_, _, _, _, runA_add _ _ _ h k⟩
  have e7 : ∃ n b p q, runA (cP (kP r0 r1 r2 r3 r4 r5 r6 r7 r8 r9 r10 r11 r12 r13 r14 r15)) n putS = some (pT 224 b p q) := by
    obtain ⟨n, b, p, q, h⟩ := e6
    obtain ⟨m, b', p', q', k⟩ := s6 (r0 := r0) (r1 := r1) (r2 := r2) (r3 := r3) (r4 := r4) (r5 := r5) (r6 := r6) (r7 := r7) (r8 := r8) (r9 := r9) (r10 := r10) (r11 := r11) (r12 := r12) (r13 := r13) (r14 := r14) (r15 := r15) b p q
    exact ⟨_, _, _, _, runA_add _ _ _ h k⟩
  have e8 : ∃ n b p q, runA (cP (kP r0 r1 r2 r3 r4 r5 r6 r7 r8 r9 r10 r11 r12 r13 r14 r15)) n putS = some (pT 253 b p q) := by
    obtain ⟨n, b, p, q, h⟩ := e7
    obtain ⟨m, b', p', q', k⟩ := s7 (r0 := r0) (r1 := r1) (r2 := r2) (r3 := r3) (r4 := r4) (r5 := r5) (r6 := r6) (r7 := r7) (r8 := r8) (r9 := r9) (r10 := r10) (r11 := r11) (r12 := r12) (r13 := r13) (r14 := r14) (r15 := r15) b p q
    exact ⟨_, _, _, _, runA_add _ _ _ h k⟩
  have e9 : ∃ n b p q, runA (cP (kP r0 r1 r2 r3 r4 r5 r6 r7 r8 r9 r10 r11 r12 r13 r14 r15)) n putS = some (pT 273 b p q) := by
    obtain ⟨n, b, p, q, h⟩ := e8
    obtain ⟨m, b', p', q', k⟩ := s8 (r0 := r0) (r1 := r1) (r2 := r2) (r3 := r3) (r4 := r4) (r5 := r5) (r6 := r6) (r7 := r7) (r8 := r8) (r9 := r9) (r10 := r10) (r11 := r11) (r12 := r12) (r13 := r13) (r14 := r14) (r15 := r15) b p q
    exact ⟨_, _, _, _, runA_add _ _ _ h k⟩
  have e10 : ∃ n b p q, runA (cP (kP r0 r1 r2 r3 r4 r5 r6 r7 r8 r9 r10 r11 r12 r13 r14 r15)) n putS = some (pT 293 b p q) := by
    obtain ⟨n, b, p, q, h⟩ := e9
    obtain ⟨m, b', p', q', k⟩ := s9 (r0 := r0) (r1 := r1) (r2 := r2) (r3 := r3) (r4 := r4) (r5 := r5) (r6 := r6) (r7 := r7) (r8 := r8) (r9 := r9) (r10 := r10) (r11 := r11) (r12 := r12) (r13 := r13) (r14 := r14) (r15 := r15) b p q
    exact ⟨_, _, _, _, runA_add _ _ _ h k⟩
  have e11 : ∃ n b p q, runA (cP (kP r0 r1 r2 r3 r4 r5 r6 r7 r8 r9 r10 r11 r12 r13 r14 r15)) n putS = some (pT 313 b p q) := by
    obtain ⟨n, b, p, q, h⟩ := e10
    obtain ⟨m, b', p', q', k⟩ := s10 (r0 := r0) (r1 := r1) (r2 := r2) (r3 := r3) (r4 := r4) (r5 := r5) (r6 := r6) (r7 := r7) (r8 := r8) (r9 := r9) (r10 := r10) (r11 := r11) (r12 := r12) (r13 := r13) (r14 := r14) (r15 := r15) b p q
    exact ⟨_, _, _, _, runA_add _ _ _ h k⟩
  have e12 : ∃ n b p q, runA (cP (kP r0 r1 r2 r3 r4 r5 r6 r7 r8 r9 r10 r11 r12 r13 r14 r15)) n putS = some (pT 333 b p q) := by
    obtain ⟨n, b, p, q, h⟩ := e11
    obtain ⟨m, b', p', q', k⟩ := s11 (r0 := r0) (r1 := r1) (r2 := r2) (r3 := r3) (r4 := r4) (r5 := r5) (r6 := r6) (r7 := r7) (r8 := r8) (r9 := r9) (r10 := r10) (r11 := r11) (r12 := r12) (r13 := r13) (r14 := r14) (r15 := r15) b p q
    exact ⟨_, _, _, _, runA_add _ _ _ h k⟩
  have e13 : ∃ n b p q, runA (cP (kP r0 r1 r2 r3 r4 r5 r6 r7 r8 r9 r10 r11 r12 r13 r14 r15)) n putS = some (pT 353 b p q) := by
    obtain ⟨n, b, p, q, h⟩ := e12
    obtain ⟨m, b', p', q', k⟩ := s12 (r0 := r0) (r1 := r1) (r2 := r2) (r3 := r3) (r4 := r4) (r5 := r5) (r6 := r6) (r7 := r7) (r8 := r8) (r9 := r9) (r10 := r10) (r11 := r11) (r12 := r12) (r13 := r13) (r14 := r14) (r15 := r15) b p q
    exact ⟨_, _, _, _, runA_add _ _ _ h k⟩
  have e14 : ∃ n b p q, runA (cP (kP r0 r1 r2 r3 r4 r5 r6 r7 r8 r9 r10 r11 r12 r13 r14 r15)) n putS = some (pT 373 b p q) := by
    obtain ⟨n, b, p, q, h⟩ := e13
    obtain ⟨m, b', p', q', k⟩ := s13 (r0 := r0) (r1 := r1) (r2 := r2) (r3 := r3) (r4 := r4) (r5 := r5) (r6 := r6) (r7 := r7) (r8 := r8) (r9 := r9) (r10 := r10) (r11 := r11) (r12 := r12) (r13 := r13) (r14 := r14) (r15 := r15) b p q
    exact ⟨_, _, _, _, runA_add _ _ _ h k⟩
  have e15 : ∃ n b p q, runA (cP (kP r0 r1 r2 r3 r4 r5 r6 r7 r8 r9 r10 r11 r12 r13 r14 r15)) n putS = some (pT 393 b p q) := by
    obtain ⟨n, b, p, q, h⟩ := e14
    obtain ⟨m, b', p', q', k⟩ := s14 (r0 := r0) (r1 := r1) (r2 := r2) (r3 := r3) (r4 := r4) (r5 := r5) (r6 := r6) (r7 := r7) (r8 := r8) (r9 := r9) (r10 := r10) (r11 := r11) (r12 := r12) (r13 := r13) (r14 := r14) (r15 := r15) b p q
    exact ⟨_, _, _, _, runA_add _ _ _ h k⟩
  have e16 : ∃ n p q, runA (cP (kP r0 r1 r2 r3 r4 r5 r6 r7 r8 r9 r10 r11 r12 r13 r14 r15)) n putS = some (pS 420 p q) := by
    obtain ⟨n, b, p, q, h⟩ := e15
    obtain ⟨m, p', q', k⟩ := s15 (r0 := r0) (r1 := r1) (r2 := r2) (r3 := r3) (r4 := r4) (r5 := r5) (r6 := r6) (r7 := r7) (r8 := r8) (r9 := r9) (r10 := r10) (r11 := r11) (r12 := r12) (r13 := r13) (r14 := r14) (r15 := r15) b p q
    exact ⟨_, _, _, runA_add _ _ _ h k⟩
  exact e16
theorem put_end (k : Kn) (p q : Int) : endOf (cP k) 60 (pS 420 p q) = some (putX, (pS 420 p q).h) := by kernel_rfl
theorem put_at (p q : Int) : (pS 420 p q).h.get 24 = some (.cells 5 false 2 (T.ofList [.i .u8 p, .i .u8 q] 0 .e)) := by kernel_rfl
theorem put_nx (p q : Int) : (pS 420 p q).h.nx = 32 := by kernel_rfl
theorem put_fr (k : Kn) : enterF (cP k) 60 putArgs .normal = some putFr := by kernel_rfl
theorem put_chunk : ∃ n p q, ChunkOk (cP (kP r0 r1 r2 r3 r4 r5 r6 r7 r8 r9 r10 r11 r12 r13 r14 r15)) 17 n 60 (ckP p q) := by
  obtain ⟨n, p, q, h⟩ := put_runs (r0 := r0) (r1 := r1) (r2 := r2) (r3 := r3) (r4 := r4) (r5 := r5) (r6 := r6) (r7 := r7) (r8 := r8) (r9 := r9) (r10 := r10) (r11 := r11) (r12 := r12) (r13 := r13) (r14 := r14) (r15 := r15)
  refine ⟨n, p, q, ?_⟩
  unfold ChunkOk callU
  rw [show (ckP p q).args = putArgs from rfl, put_fr]
  simp only
  rw [show canon 17 (ckP p q) = canon 17 (ckP 0 0) from rfl]
  have h' : runA (cP (kP r0 r1 r2 r3 r4 r5 r6 r7 r8 r9 r10 r11 r12 r13 r14 r15)) n ⟨putFr, [], canon 17 (ckP 0 0)⟩ = some (pS 420 p q) := h
  rw [h']
  simp only
  rw [put_end]
  show (sameV putX putX && (isNew 18 (pS 420 p q).h [(24, .cells 5 false [.i .u8 p, .i .u8 q])] && (Nat.beq 32 (pS 420 p q).h.nx && Nat.blt (pS 420 p q).h.nx MB))) = true
  rw [put_nx]
  have h1 : sameV putX putX = true := by kernel_rfl
  have h2 : isNew 18 (pS 420 p q).h [(24, .cells 5 false [.i .u8 p, .i .u8 q])] = true := by
    unfold isNew
    simp only
    rw [put_at]
    have g0 : (T.ofList [A.i .u8 p, A.i .u8 q] 0 .e).get 0 = some (A.i .u8 p) := by kernel_rfl
    have g1 : (T.ofList [A.i .u8 p, A.i .u8 q] 0 .e).get 1 = some (A.i .u8 q) := by kernel_rfl
    simp [isCO, isCells, isNew, g0, g1, sameV]
  rw [h1, h2]; rfl
end
end Go.U
