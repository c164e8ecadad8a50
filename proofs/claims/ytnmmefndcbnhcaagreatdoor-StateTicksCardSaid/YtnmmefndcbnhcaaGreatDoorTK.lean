import Derived.Test.YtnmmefndcbnhcaaGreatDoorX0
/-
  StateTicks: what is known of the numbers in each round of the law's loop.
-/
set_option linter.unusedVariables false
set_option linter.unusedSimpArgs false
namespace Go.U
open Go Go.RowKit

noncomputable section
/-- The tick, ahead of a round: 0 ahead of the first one; else the variable 2000 + q. -/
def vS (q : Nat) : SE := bif Nat.beq q 0 then .lit (Int.ofNat 0) else .var (2000 + q)
/-- How many ticks there may still be. -/
def subS (q : Nat) : SE := bif Nat.beq q 0 then .lit (Int.ofNat 2147483647) else .bin .sub .i64 (.lit (Int.ofNat 2147483647)) (.var (2000 + q))
def rwT (q : Nat) : List (SE × SE) := [(.wrap .i64 (.sh .shr .u32 (.var (1 + q)) 1), .var (1000 + q)), (.bin .add .i64 (vS q) (.var (3000 + q)), .var (2001 + q))]
def miT (q : Nat) : List (SE × SE × SE) := [(.var (1000 + q), subS q, .var (3000 + q))]
def sumS (q : Nat) : SE := .bin .add .i64 (vS q) (.var (1000 + q))
/-- Up to where the ways part; behind; at the end. -/
def kR (q : Nat) (r : Bool) : Kn := ⟨[(.lss, .lit (Int.ofNat q), .var 0, true), (.lss, .var (1000 + q), .lit (Int.ofNat 0), false), (.gtr, sumS q, .lit (Int.ofNat 2147483647), r)], rwT q, miT q⟩
def kC (q : Nat) : Kn := ⟨[(.neq, .var (2001 + q), .var (2001 + q), false)], [], []⟩
def kE (q : Nat) : Kn := ⟨[(.lss, .lit (Int.ofNat q), .var 0, false)], [], []⟩
def kB : Kn := ⟨[(.gtr, .var 0, .lit (Int.ofNat 100), false)], [], []⟩
/-- What is told of the place of the tick, by the way that was gone. -/
def psT (q : Nat) : Bool → List (A × A)
  | true => [(.i .i64 (Int.ofNat 2147483647), .y .i64 (.var (2001 + q)))]
  | false => [(.y .i64 (sumS q), .y .i64 (.var (2001 + q)))]
def half (l : List Nat) (q : Nat) : Nat := l.getD q 0 / 2
def nowAt (l : List Nat) : Nat → Nat
  | 0 => 0
  | q + 1 => min (nowAt l q + half l q) 2147483647
def addAt (l : List Nat) (q : Nat) : Nat := min (half l q) (2147483647 - nowAt l q)
def rhoT (l : List Nat) (v : Nat) : Int :=
  if v = 0 then (l.length : Nat) else if v < 1000 then (l.getD (v - 1) 0 : Nat) else if v < 2000 then (half l (v - 1000) : Nat) else if v < 3000 then (nowAt l (v - 2000) : Nat) else (addAt l (v - 3000) : Nat)
def way (l : List Nat) (q : Nat) : Bool := decide (2147483647 < nowAt l q + half l q)
end
section
variable {l : List Nat} {q : Nat}
theorem nowAt_le (l : List Nat) : ∀ q, nowAt l q ≤ 2147483647
  | 0 => Nat.zero_le _
  | q + 1 => Nat.min_le_right _ _
theorem half_le (he : ∀ x ∈ l, x < 4294967296) (q : Nat) : half l q ≤ 2147483647 := by
  unfold half
  by_cases h : q < l.length
  · have := he _ (List.getElem_mem h)
    rw [List.getD_eq_getElem?_getD, List.getElem?_eq_getElem h, Option.getD_some]
    omega
  · rw [List.getD_eq_getElem?_getD, List.getElem?_eq_none (by omega)]
    simp
theorem rho0 : rhoT l 0 = ((l.length : Nat) : Int) := rfl
theorem rho1 (h : q < 900) : rhoT l (1 + q) = ((l.getD q 0 : Nat) : Int) := by
  unfold rhoT
  rw [if_neg (show ¬ (1 + q = 0) by omega), if_pos (show 1 + q < 1000 by omega), show 1 + q - 1 = q by omega]
theorem rho2 (h : q < 900) : rhoT l (1000 + q) = ((half l q : Nat) : Int) := by
  unfold rhoT
  rw [if_neg (show ¬ (1000 + q = 0) by omega), if_neg (show ¬ (1000 + q < 1000) by omega), if_pos (show 1000 + q < 2000 by omega), show 1000 + q - 1000 = q by omega]
theorem lt950 (h : q < 900) : q < 950 := by omega
theorem rho3 (h : q < 950) : rhoT l (2000 + q) = ((nowAt l q : Nat) : Int) := by
  unfold rhoT
  rw [if_neg (show ¬ (2000 + q = 0) by omega), if_neg (show ¬ (2000 + q < 1000) by omega), if_neg (show ¬ (2000 + q < 2000) by omega), if_pos (show 2000 + q < 3000 by omega), show 2000 + q - 2000 = q by omega]
theorem rho3' (h : q < 900) : rhoT l (2001 + q) = ((nowAt l (q + 1) : Nat) : Int) := by
  rw [show 2001 + q = 2000 + (q + 1) by omega]
  exact rho3 (by omega)
theorem rho4 (h : q < 900) : rhoT l (3000 + q) = ((addAt l q : Nat) : Int) := by
  unfold rhoT
  rw [if_neg (show ¬ (3000 + q = 0) by omega), if_neg (show ¬ (3000 + q < 1000) by omega), if_neg (show ¬ (3000 + q < 2000) by omega), if_neg (show ¬ (3000 + q < 3000) by omega), show 3000 + q - 3000 = q by omega]
theorem vS_ev (h : q < 900) : (vS q).ev (rhoT l) = ((nowAt l q : Nat) : Int) := by
  unfold vS
  cases q with
  | zero => rfl
  | succ q => exact rho3 (lt950 h)
theorem subS_ev (h : q < 900) : (subS q).ev (rhoT l) = ((2147483647 - nowAt l q : Nat) : Int) := by
  unfold subS
  cases q with
  | zero => rfl
  | succ q =>
    show IntKind.i64.wrap ((Int.ofNat 2147483647) - rhoT l (2000 + (q + 1))) = _
    have := nowAt_le l (q + 1)
    rw [rho3 (lt950 h), show (Int.ofNat 2147483647) - ((nowAt l (q + 1) : Nat) : Int) = ((2147483647 - nowAt l (q + 1) : Nat) : Int) by simp; omega]
    exact wrap_mid64 (by omega) (by omega)
theorem sumS_ev (he : ∀ x ∈ l, x < 4294967296) (h : q < 900) : (sumS q).ev (rhoT l) = ((nowAt l q + half l q : Nat) : Int) := by
  show IntKind.i64.wrap ((vS q).ev (rhoT l) + rhoT l (1000 + q)) = _
  rw [vS_ev h, rho2 h]
  have := nowAt_le l q
  have := half_le he q
  rw [show ((nowAt l q : Nat) : Int) + ((half l q : Nat) : Int) = ((nowAt l q + half l q : Nat) : Int) by simp]
  exact wrap_mid64 (by omega) (by omega)
theorem rwT_ok (he : ∀ x ∈ l, x < 4294967296) (h : q < 900) : ∀ x ∈ rwT q, x.1.ev (rhoT l) = x.2.ev (rhoT l) := by
  intro x hx
  simp only [rwT, List.mem_cons, List.not_mem_nil, or_false] at hx
  rcases hx with rfl | rfl
  · show IntKind.i64.wrap ((rhoT l (1 + q)).fdiv (2 ^ min 1 IntKind.u32.bits)) = rhoT l (1000 + q)
    have := half_le he q
    rw [rho1 h, rho2 h, show (2 : Int) ^ min 1 IntKind.u32.bits = 2 by rfl]
    have e : ((l.getD q 0 : Nat) : Int).fdiv 2 = ((half l q : Nat) : Int) := by
      rw [Int.fdiv_eq_ediv_of_nonneg _ (by omega)]
      unfold half
      omega
    rw [e]
    exact wrap_mid64 (by omega) (by omega)
  · show IntKind.i64.wrap ((vS q).ev (rhoT l) + rhoT l (3000 + q)) = rhoT l (2001 + q)
    rw [vS_ev h, rho4 h, rho3' h]
    have h1 := nowAt_le l q
    have h2 := half_le he q
    have e : nowAt l q + addAt l q = nowAt l (q + 1) := by
      show nowAt l q + min (half l q) (2147483647 - nowAt l q) = min (nowAt l q + half l q) 2147483647
      omega
    rw [show ((nowAt l q : Nat) : Int) + ((addAt l q : Nat) : Int) = ((nowAt l (q + 1) : Nat) : Int) by rw [← e]; simp]
    have := nowAt_le l (q + 1)
    exact wrap_mid64 (by omega) (by omega)
theorem miT_ok (h : q < 900) : ∀ x ∈ miT q, (if x.2.1.ev (rhoT l) < x.1.ev (rhoT l) then x.2.1.ev (rhoT l) else x.1.ev (rhoT l)) = x.2.2.ev (rhoT l) := by
  intro x hx
  simp only [miT, List.mem_cons, List.not_mem_nil, or_false] at hx
  subst hx
  show (if (subS q).ev (rhoT l) < rhoT l (1000 + q) then (subS q).ev (rhoT l) else rhoT l (1000 + q)) = rhoT l (3000 + q)
  rw [subS_ev h, rho2 h, rho4 h]
  unfold addAt
  split <;> omega
theorem kR_ok (hl : l.length ≤ 100) (he : ∀ x ∈ l, x < 4294967296) (hq : q < l.length) : (kR q (way l q)).Ok (rhoT l) := by
  have h : q < 900 := by omega
  refine ⟨fun x hx => ?_, rwT_ok he h, miT_ok h⟩
  simp only [kR, List.mem_cons, List.not_mem_nil, or_false] at hx
  rcases hx with rfl | rfl | rfl
  · simp only [icmp, SE.ev, rho0, Option.some.injEq]
    exact decide_eq_true (show ((q : Nat) : Int) < ((l.length : Nat) : Int) by omega)
  · simp only [icmp, SE.ev, rho2 h, Option.some.injEq]
    exact decide_eq_false (show ¬ (((half l q : Nat) : Int) < ((0 : Nat) : Int)) by omega)
  · simp only [icmp, sumS_ev he h, Option.some.injEq]
    unfold way
    exact decide_eq_decide.2 (show (((nowAt l q + half l q : Nat) : Int) > ((2147483647 : Nat) : Int)) ↔ 2147483647 < nowAt l q + half l q by omega)
theorem kC_ok : (kC q).Ok (rhoT l) := by
  refine ⟨fun x hx => ?_, fun x hx => (by cases hx), fun x hx => (by cases hx)⟩
  simp only [kC, List.mem_cons, List.not_mem_nil, or_false] at hx
  subst hx
  simp [icmp, SE.ev]
theorem kE_ok : (kE l.length).Ok (rhoT l) := by
  refine ⟨fun x hx => ?_, fun x hx => (by cases hx), fun x hx => (by cases hx)⟩
  simp only [kE, List.mem_cons, List.not_mem_nil, or_false] at hx
  subst hx
  simp only [icmp, SE.ev, rho0, Option.some.injEq]
  exact decide_eq_false (show ¬ (((l.length : Nat) : Int) < ((l.length : Nat) : Int)) by omega)
theorem kB_ok (hl : l.length ≤ 100) : kB.Ok (rhoT l) := by
  refine ⟨fun x hx => ?_, fun x hx => (by cases hx), fun x hx => (by cases hx)⟩
  simp only [kB, List.mem_cons, List.not_mem_nil, or_false] at hx
  subst hx
  simp only [icmp, SE.ev, rho0, Option.some.injEq]
  exact decide_eq_false (show ¬ (((l.length : Nat) : Int) > ((100 : Nat) : Int)) by omega)
theorem psT_ok (he : ∀ x ∈ l, x < 4294967296) (h : q < 900) : ∀ p ∈ psT q (way l q), ∀ ψ v, VR (rhoT l) ψ p.1 v → VR (rhoT l) ψ p.2 v := by
  intro p hp ψ v hv
  cases hw : way l q with
  | true =>
    rw [hw] at hp
    simp only [psT, List.mem_cons, List.not_mem_nil, or_false] at hp
    subst hp
    have e : v = .int .i64 (Int.ofNat 2147483647) := hv
    subst e
    show Value.int .i64 _ = Value.int .i64 (rhoT l (2001 + q))
    rw [rho3' h]
    unfold way at hw
    have hw' : 2147483647 < nowAt l q + half l q := by simpa using hw
    congr 1
    show ((2147483647 : Nat) : Int) = ((min (nowAt l q + half l q) 2147483647 : Nat) : Int)
    omega
  | false =>
    rw [hw] at hp
    simp only [psT, List.mem_cons, List.not_mem_nil, or_false] at hp
    subst hp
    have e : v = .int .i64 ((sumS q).ev (rhoT l)) := hv
    subst e
    show Value.int .i64 _ = Value.int .i64 (rhoT l (2001 + q))
    rw [rho3' h, sumS_ev he h]
    unfold way at hw
    have hw' : ¬ 2147483647 < nowAt l q + half l q := by simpa using hw
    congr 1
    show ((nowAt l q + half l q : Nat) : Int) = ((min (nowAt l q + half l q) 2147483647 : Nat) : Int)
    omega
end
end Go.U
