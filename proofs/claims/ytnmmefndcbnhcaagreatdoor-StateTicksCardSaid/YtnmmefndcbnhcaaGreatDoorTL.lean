import Derived.Test.YtnmmefndcbnhcaaGreatDoorTS0
import Derived.Test.YtnmmefndcbnhcaaGreatDoorTS1
import Derived.Test.YtnmmefndcbnhcaaGreatDoorTS2
import Derived.Test.YtnmmefndcbnhcaaGreatDoorTS3
import Derived.Test.YtnmmefndcbnhcaaGreatDoorTS4
import Derived.Test.YtnmmefndcbnhcaaGreatDoorTS5
/-
  StateTicks: the loop, of however many rounds.
-/
set_option linter.unusedVariables false
set_option linter.unusedSimpArgs false
set_option maxRecDepth 1000000
namespace Go.U
open Go Go.RowKit Go.Proofs
section
variable {l : List Nat} {w0 : World} {K0 : Nat → Option Obj} {cs0 : List Frame} {ψ0 : Psi}
theorem nat_k (k : Kn) : NatOk (cx k 18 ntK) (rhoT l) w0 := NatOk.of (stM k 18 (by decide) _) w0
theorem lp_ok (hl : l.length ≤ 100) (he : ∀ x ∈ l, x < 4294967296) : LpOk lp cB (rhoT l) w0 l.length (way l) where
  mix := mix_ok
  r := fun i hi => ⟨⟨rfl, rfl, rfl, rfl⟩, cx_ok (kR_ok hl he hi), nat_k _⟩
  c := fun i hi => ⟨⟨rfl, rfl, rfl, rfl⟩, cx_ok kC_ok, nat_k _⟩
  e := ⟨⟨rfl, rfl, rfl, rfl⟩, cx_ok kE_ok, nat_k _⟩
  ps := fun i hi => psT_ok he (by omega)
theorem loop_ends (hl : l.length ≤ 100) (he : ∀ x ∈ l, x < 4294967296) {m0 : Machine} (hs : StR cB (rhoT l) w0 K0 cs0 ψ0 ⟨frL, [], h18⟩ m0) : EndsAt cB 4 (rhoT l) w0 K0 cs0 ψ0 m0 := by
  obtain ⟨s, e1, e2⟩ := Option.map_eq_some_iff.1 s0_is
  simp only [Prod.mk.injEq] at e2
  obtain ⟨e2, e3⟩ := e2
  obtain ⟨m1, t1, r1⟩ := steps_ctx (C := cB) (C0 := cB) (Alike.refl _) (nat_k _) mix_ok hs e1
  have r := r1.cut (Alike.refl _) (cx_ok (kB_ok hl)) (fun p hp => by cases hp) e2
  rw [e3] at r
  have H : LpOk lp cB (rhoT l) w0 l.length (way l) := lp_ok hl he
  have ok : cB.Ok (rhoT l) := cx_ok (kB_ok hl)
  refine EndsAt.steps t1 ?_
  rcases chain_piece H ok piece0 (Nat.zero_le _) (Alike.refl _) r with h | ⟨g0, m2, t2, r⟩
  · exact h
  refine EndsAt.steps t2 ?_
  rcases chain_piece H ok piece1 (Nat.le_of_lt g0) (Alike.refl _) r with h | ⟨g1, m3, t3, r⟩
  · exact h
  refine EndsAt.steps t3 ?_
  rcases chain_piece H ok piece2 (Nat.le_of_lt g1) (Alike.refl _) r with h | ⟨g2, m4, t4, r⟩
  · exact h
  refine EndsAt.steps t4 ?_
  rcases chain_piece H ok piece3 (Nat.le_of_lt g2) (Alike.refl _) r with h | ⟨g3, m5, t5, r⟩
  · exact h
  refine EndsAt.steps t5 ?_
  rcases chain_piece H ok piece4 (Nat.le_of_lt g3) (Alike.refl _) r with h | ⟨g4, m6, t6, r⟩
  · exact h
  refine EndsAt.steps t6 ?_
  rcases chain_piece H ok piece5 (Nat.le_of_lt g4) (Alike.refl _) r with h | ⟨g5, m7, t7, r⟩
  · exact h
  refine EndsAt.steps t7 ?_
  exfalso
  omega
end
end Go.U
