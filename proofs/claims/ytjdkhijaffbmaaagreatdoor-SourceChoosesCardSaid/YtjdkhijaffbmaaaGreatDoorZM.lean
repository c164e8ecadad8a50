import Derived.Test.YtjdkhijaffbmaaaGreatDoorZL
import Derived.Test.YtjdkhijaffbmaaaGreatDoorZP
/-
  The law at two numbers that are not known, in each of three classes: found out by the kernel.
-/
set_option linter.unusedVariables false
set_option linter.unusedSimpArgs false
set_option maxRecDepth 1000000
namespace Go.U
open Go Go.RowKit Go.Proofs
noncomputable section
def h0 : Hp := ⟨putGs [gl0, gl1, gl4, gl7] .e, 17⟩
def isTrue : Option (A × Hp) → Bool
  | some (.b true, _) => true
  | _ => false
/-- What is gone on with in the law's run: packet.Put comes to p, q. -/
def ntC (fa : List (BinOp × SE × SE × Bool)) (p q : Int) (G : Nat) : T Nat' := ((ntM G).set 60 ⟨natSubs 17 [ckP p q]⟩).set 317 ⟨natSubF fa⟩
/-- The two numbers. -/
def rho2 (a b : Nat) : Nat → Int := fun i => bif Nat.beq i 0 then Int.ofNat a else Int.ofNat b
def fa0 : List (BinOp × SE × SE × Bool) := [(.eql, (.var 1), (.var 1), true), (.eql, (.var 0), (.var 0), true), (.lss, (.var 0), (.var 1), true), (.eql, (.var 0), (.var 1), false), (.gtr, (.var 0), (.var 1), false)]
def fa1 : List (BinOp × SE × SE × Bool) := [(.eql, (.var 1), (.var 1), true), (.eql, (.var 0), (.var 0), true), (.lss, (.var 0), (.var 1), false), (.eql, (.var 0), (.var 1), true)]
def fa2 : List (BinOp × SE × SE × Bool) := [(.eql, (.var 1), (.var 1), true), (.eql, (.var 0), (.var 0), true), (.lss, (.var 0), (.var 1), false), (.eql, (.var 0), (.var 1), false), (.gtr, (.var 0), (.var 1), true)]
end
theorem m0 (p q : Int) : isTrue (callU (cx ⟨fa0, rwS⟩ 17 (ntC fa0 p q 17)) 824 3 [.y .u8 (.var 0), .y .u8 (.var 1)] h0) = true := by kernel_rfl
theorem m1 (p q : Int) : isTrue (callU (cx ⟨fa1, rwS⟩ 17 (ntC fa1 p q 17)) 972 3 [.y .u8 (.var 0), .y .u8 (.var 1)] h0) = true := by kernel_rfl
theorem m2 (p q : Int) : isTrue (callU (cx ⟨fa2, rwS⟩ 17 (ntC fa2 p q 17)) 993 3 [.y .u8 (.var 0), .y .u8 (.var 1)] h0) = true := by kernel_rfl
theorem isTrue_some {x : Option (A × Hp)} (h : isTrue x = true) : ∃ h', x = some (.b true, h') := by
  unfold isTrue at h
  split at h
  · exact ⟨_, rfl⟩
  · cases h
theorem rules256 : ∀ n : Fin 256, ish .shr .u8 (Int.ofNat n) 0 = Int.ofNat n ∧ iop .and .u8 (Int.ofNat n) (Int.ofNat 255) = Int.ofNat n ∧ IntKind.u64.wrap (Int.ofNat n) = Int.ofNat n ∧ iop .or .u64 (Int.ofNat 0) (Int.ofNat n) = Int.ofNat n ∧ iop .and .u64 (Int.ofNat n) (Int.ofNat 255) = Int.ofNat n ∧ ish .shr .u64 (Int.ofNat n) 0 = Int.ofNat n := by decide +kernel
theorem rwS_ok {a b : Nat} (ha : a < 256) (hb : b < 256) : ∀ x ∈ rwS, x.1.ev (rho2 a b) = x.2.ev (rho2 a b) := by
  obtain ⟨a1, a2, a3, a4, a5, a6⟩ := rules256 ⟨a, ha⟩
  obtain ⟨b1, b2, b3, b4, b5, b6⟩ := rules256 ⟨b, hb⟩
  intro x hx
  simp only [rwS, List.mem_cons, List.not_mem_nil, or_false] at hx
  rcases hx with rfl | rfl | rfl | rfl | rfl | rfl | rfl | rfl | rfl | rfl | rfl | rfl
  all_goals first | exact a1 | exact a2 | exact a3 | exact a4 | exact a5 | exact a6 | exact b1 | exact b2 | exact b3 | exact b4 | exact b5 | exact b6
theorem rho2_at (a b : Nat) (ha : a < 256) (hb : b < 256) : ∀ i, ∃ n : Nat, rho2 a b i = Int.ofNat n ∧ n < 256 := fun i => by
  unfold rho2
  cases Nat.beq i 0
  · exact ⟨b, rfl, hb⟩
  · exact ⟨a, rfl, ha⟩
/-- A bit of one of them. -/
def bitOf (a b : Nat) (e : SE) : Bool := e.ev (rho2 a b) == Int.ofNat 1
theorem kP_ok {a b : Nat} (ha : a < 256) (hb : b < 256) : (kP (bitOf a b (.bin .and .u64 (.sh .shr .u64 (.var 0) 7) (.lit (Int.ofNat 1)))) (bitOf a b (.bin .and .u64 (.sh .shr .u64 (.var 0) 6) (.lit (Int.ofNat 1)))) (bitOf a b (.bin .and .u64 (.sh .shr .u64 (.var 0) 5) (.lit (Int.ofNat 1)))) (bitOf a b (.bin .and .u64 (.sh .shr .u64 (.var 0) 4) (.lit (Int.ofNat 1)))) (bitOf a b (.bin .and .u64 (.sh .shr .u64 (.var 0) 3) (.lit (Int.ofNat 1)))) (bitOf a b (.bin .and .u64 (.sh .shr .u64 (.var 0) 2) (.lit (Int.ofNat 1)))) (bitOf a b (.bin .and .u64 (.sh .shr .u64 (.var 0) 1) (.lit (Int.ofNat 1)))) (bitOf a b (.bin .and .u64 (.var 0) (.lit (Int.ofNat 1)))) (bitOf a b (.bin .and .u64 (.sh .shr .u64 (.var 1) 7) (.lit (Int.ofNat 1)))) (bitOf a b (.bin .and .u64 (.sh .shr .u64 (.var 1) 6) (.lit (Int.ofNat 1)))) (bitOf a b (.bin .and .u64 (.sh .shr .u64 (.var 1) 5) (.lit (Int.ofNat 1)))) (bitOf a b (.bin .and .u64 (.sh .shr .u64 (.var 1) 4) (.lit (Int.ofNat 1)))) (bitOf a b (.bin .and .u64 (.sh .shr .u64 (.var 1) 3) (.lit (Int.ofNat 1)))) (bitOf a b (.bin .and .u64 (.sh .shr .u64 (.var 1) 2) (.lit (Int.ofNat 1)))) (bitOf a b (.bin .and .u64 (.sh .shr .u64 (.var 1) 1) (.lit (Int.ofNat 1)))) (bitOf a b (.bin .and .u64 (.var 1) (.lit (Int.ofNat 1))))).Ok (rho2 a b) := by
  refine ⟨fun x hx => ?_, rwS_ok ha hb⟩
  simp only [kP, List.mem_cons, List.not_mem_nil, or_false] at hx
  rcases hx with rfl | rfl | rfl | rfl | rfl | rfl | rfl | rfl | rfl | rfl | rfl | rfl | rfl | rfl | rfl | rfl | rfl | rfl
  · simp [icmp, SE.ev]
  · simp [icmp, SE.ev]
  all_goals rfl
theorem put_sub {a b : Nat} (ha : a < 256) (hb : b < 256) : ∃ p q, ∀ (fa : Kn) (G : Nat) (hG : 17 ≤ G) (nat : T Nat'), SubOk (cx fa G nat) (rho2 a b) 17 60 (ckP p q) := by
  obtain ⟨n, p, q, h⟩ := put_chunk (r0 := bitOf a b (.bin .and .u64 (.sh .shr .u64 (.var 0) 7) (.lit (Int.ofNat 1)))) (r1 := bitOf a b (.bin .and .u64 (.sh .shr .u64 (.var 0) 6) (.lit (Int.ofNat 1)))) (r2 := bitOf a b (.bin .and .u64 (.sh .shr .u64 (.var 0) 5) (.lit (Int.ofNat 1)))) (r3 := bitOf a b (.bin .and .u64 (.sh .shr .u64 (.var 0) 4) (.lit (Int.ofNat 1)))) (r4 := bitOf a b (.bin .and .u64 (.sh .shr .u64 (.var 0) 3) (.lit (Int.ofNat 1)))) (r5 := bitOf a b (.bin .and .u64 (.sh .shr .u64 (.var 0) 2) (.lit (Int.ofNat 1)))) (r6 := bitOf a b (.bin .and .u64 (.sh .shr .u64 (.var 0) 1) (.lit (Int.ofNat 1)))) (r7 := bitOf a b (.bin .and .u64 (.var 0) (.lit (Int.ofNat 1)))) (r8 := bitOf a b (.bin .and .u64 (.sh .shr .u64 (.var 1) 7) (.lit (Int.ofNat 1)))) (r9 := bitOf a b (.bin .and .u64 (.sh .shr .u64 (.var 1) 6) (.lit (Int.ofNat 1)))) (r10 := bitOf a b (.bin .and .u64 (.sh .shr .u64 (.var 1) 5) (.lit (Int.ofNat 1)))) (r11 := bitOf a b (.bin .and .u64 (.sh .shr .u64 (.var 1) 4) (.lit (Int.ofNat 1)))) (r12 := bitOf a b (.bin .and .u64 (.sh .shr .u64 (.var 1) 3) (.lit (Int.ofNat 1)))) (r13 := bitOf a b (.bin .and .u64 (.sh .shr .u64 (.var 1) 2) (.lit (Int.ofNat 1)))) (r14 := bitOf a b (.bin .and .u64 (.sh .shr .u64 (.var 1) 1) (.lit (Int.ofNat 1)))) (r15 := bitOf a b (.bin .and .u64 (.var 1) (.lit (Int.ofNat 1))))
  refine ⟨p, q, fun fa G hG nat => ?_⟩
  exact sub_sound (C := cx fa G nat) (C' := cP (kP (bitOf a b (.bin .and .u64 (.sh .shr .u64 (.var 0) 7) (.lit (Int.ofNat 1)))) (bitOf a b (.bin .and .u64 (.sh .shr .u64 (.var 0) 6) (.lit (Int.ofNat 1)))) (bitOf a b (.bin .and .u64 (.sh .shr .u64 (.var 0) 5) (.lit (Int.ofNat 1)))) (bitOf a b (.bin .and .u64 (.sh .shr .u64 (.var 0) 4) (.lit (Int.ofNat 1)))) (bitOf a b (.bin .and .u64 (.sh .shr .u64 (.var 0) 3) (.lit (Int.ofNat 1)))) (bitOf a b (.bin .and .u64 (.sh .shr .u64 (.var 0) 2) (.lit (Int.ofNat 1)))) (bitOf a b (.bin .and .u64 (.sh .shr .u64 (.var 0) 1) (.lit (Int.ofNat 1)))) (bitOf a b (.bin .and .u64 (.var 0) (.lit (Int.ofNat 1)))) (bitOf a b (.bin .and .u64 (.sh .shr .u64 (.var 1) 7) (.lit (Int.ofNat 1)))) (bitOf a b (.bin .and .u64 (.sh .shr .u64 (.var 1) 6) (.lit (Int.ofNat 1)))) (bitOf a b (.bin .and .u64 (.sh .shr .u64 (.var 1) 5) (.lit (Int.ofNat 1)))) (bitOf a b (.bin .and .u64 (.sh .shr .u64 (.var 1) 4) (.lit (Int.ofNat 1)))) (bitOf a b (.bin .and .u64 (.sh .shr .u64 (.var 1) 3) (.lit (Int.ofNat 1)))) (bitOf a b (.bin .and .u64 (.sh .shr .u64 (.var 1) 2) (.lit (Int.ofNat 1)))) (bitOf a b (.bin .and .u64 (.sh .shr .u64 (.var 1) 1) (.lit (Int.ofNat 1)))) (bitOf a b (.bin .and .u64 (.var 1) (.lit (Int.ofNat 1)))))) rfl rfl rfl (by show 13 ≤ 17; decide) hG rfl (by show 18 ≤ 1000000; decide) (cx_ok (kP_ok ha hb)) (fun w0 => NatOk.of (st0 _ 18 (by decide) _) w0) mix_ok h
theorem stC {a b : Nat} (ha : a < 256) (hb : b < 256) {p q : Int} (hp : ∀ (fa : Kn) (G : Nat) (hG : 17 ≤ G) (nat : T Nat'), SubOk (cx fa G nat) (rho2 a b) 17 60 (ckP p q)) (k : Kn) (hk : k.Ok (rho2 a b)) (G : Nat) (hG : 17 ≤ G) (nat : T Nat') : ∀ f g, (ntC k.fa p q G).get f = some g → Okf k G nat (rho2 a b) f g := by
  unfold ntC
  exact ts (ts (stM k G hG nat) (FnOk.subs (all_cons (hp k G hG nat) all_nil))) (natSubF_ok ⟨_, Tryz.func317, by kernel_rfl, by kernel_rfl, by kernel_rfl, by kernel_rfl⟩ hk.1 (.inr (rho2_at a b ha hb)))
/-- Whatever the two numbers. -/
theorem every {a b : Nat} (ha : a < 256) (hb : b < 256) : ∃ (k : Kn) (n : Nat) (nt : T Nat') (h' : Hp), k.Ok (rho2 a b) ∧ (∀ f g, nt.get f = some g → Okf k 17 nt (rho2 a b) f g) ∧ callU (cx k 17 nt) n 3 [.y .u8 (.var 0), .y .u8 (.var 1)] h0 = some (.b true, h') := by
  obtain ⟨p, q, hp⟩ := put_sub ha hb
  have e0 : rho2 a b 0 = Int.ofNat a := rfl
  have e1 : rho2 a b 1 = Int.ofNat b := rfl
  rcases Nat.lt_trichotomy a b with hab | hab | hab
  · obtain ⟨h', e⟩ := isTrue_some (m0 p q)
    have hk : (⟨fa0, rwS⟩ : Kn).Ok (rho2 a b) := by
      refine ⟨fun x hx => ?_, rwS_ok ha hb⟩
      simp only [fa0, List.mem_cons, List.not_mem_nil, or_false] at hx
      rcases hx with rfl | rfl | rfl | rfl | rfl
      all_goals (simp only [icmp, SE.ev, e0, e1]; simp <;> omega)
    exact ⟨_, _, _, h', hk, stC ha hb hp _ hk 17 (Nat.le_refl _) _, e⟩
  · obtain ⟨h', e⟩ := isTrue_some (m1 p q)
    have hk : (⟨fa1, rwS⟩ : Kn).Ok (rho2 a b) := by
      refine ⟨fun x hx => ?_, rwS_ok ha hb⟩
      simp only [fa1, List.mem_cons, List.not_mem_nil, or_false] at hx
      rcases hx with rfl | rfl | rfl | rfl
      all_goals (simp only [icmp, SE.ev, e0, e1]; simp <;> omega)
    exact ⟨_, _, _, h', hk, stC ha hb hp _ hk 17 (Nat.le_refl _) _, e⟩
  · obtain ⟨h', e⟩ := isTrue_some (m2 p q)
    have hk : (⟨fa2, rwS⟩ : Kn).Ok (rho2 a b) := by
      refine ⟨fun x hx => ?_, rwS_ok ha hb⟩
      simp only [fa2, List.mem_cons, List.not_mem_nil, or_false] at hx
      rcases hx with rfl | rfl | rfl | rfl | rfl
      all_goals (simp only [icmp, SE.ev, e0, e1]; simp <;> omega)
    exact ⟨_, _, _, h', hk, stC ha hb hp _ hk 17 (Nat.le_refl _) _, e⟩
end Go.U
