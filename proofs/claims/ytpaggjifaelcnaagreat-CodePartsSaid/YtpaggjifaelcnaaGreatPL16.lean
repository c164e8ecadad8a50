import Derived.Test.YtpaggjifaelcnaaGreatPL15
/-
  CodeParts, the plain law, 16: 'Check' of what is emptied.
-/
set_option linter.unusedVariables false
set_option linter.unusedSimpArgs false
namespace Go.Pt
open Go Go.Pm

theorem sum_le {α : Type} {w : α → Nat} : ∀ {l' l : List α}, l'.length = l.length → (∀ (i : Nat) x', l'[i]? = some x' → ∃ x, l[i]? = some x ∧ w x' ≤ w x) → sumOf w l' ≤ sumOf w l
  | [], [], _, _ => Nat.le_refl _
  | x' :: l', x :: l, hl, h => by
    obtain ⟨y, hy, h1⟩ := h 0 x' rfl
    simp at hy; subst hy
    have := sum_le (w := w) (l' := l') (l := l) (by simpa using hl) (fun i z hz => by simpa using h (i + 1) z (by simpa using hz))
    simp only [sumOf]; omega
  | [], _ :: _, hl, _ => by simp at hl
  | _ :: _, [], hl, _ => by simp at hl
theorem sum_acts {c : aCode} (hl : (c.Acts.length : Int) ≤ maxL) : ∀ (k : Nat) (v i : Int), 0 ≤ i → 0 ≤ v → ((c.Acts.length : Int) - i).toNat < k → v + sumOf (fun a : aAct => a.Code.length) (c.Acts.drop i.toNat) ≤ 1152921504606846976 → code_Check.l1 k c v i = some (v + sumOf (fun a : aAct => a.Code.length) (c.Acts.drop i.toNat))
  | 0, v, i, _, _, hk, _ => by omega
  | k + 1, v, i, h0, hv, hk, hb => by
    rw [code_Check.l1]
    by_cases hi : i < (c.Acts.length : Int)
    · rw [if_pos (by simpa using hi)]
      obtain ⟨x, hx⟩ := T_idx h0 hi
      rw [drop_idx hx] at hb ⊢
      simp only [sumOf] at hb ⊢
      rw [hx, Option.bind_some, wrap_add h0 hi hl, wrapi (by omega) (by omega), sum_acts hl k _ (i + 1) (by omega) (by omega) (by omega) (by omega)]
      congr 1; omega
    · rw [if_neg (by simpa using hi), drop_end hi]; simp [sumOf]
theorem sum_states {c : aCode} (hl : (c.States.length : Int) ≤ maxL) : ∀ (k : Nat) (v i : Int), 0 ≤ i → 0 ≤ v → ((c.States.length : Int) - i).toNat < k → v + sumOf (fun a : aNode => a.Code.length) (c.States.drop i.toNat) ≤ 1152921504606846976 → code_Check.l2 k c v i = some (v + sumOf (fun a : aNode => a.Code.length) (c.States.drop i.toNat))
  | 0, v, i, _, _, hk, _ => by omega
  | k + 1, v, i, h0, hv, hk, hb => by
    rw [code_Check.l2]
    by_cases hi : i < (c.States.length : Int)
    · rw [if_pos (by simpa using hi)]
      obtain ⟨x, hx⟩ := T_idx h0 hi
      rw [drop_idx hx] at hb ⊢
      simp only [sumOf] at hb ⊢
      rw [hx, Option.bind_some, wrap_add h0 hi hl, wrapi (by omega) (by omega), sum_states hl k _ (i + 1) (by omega) (by omega) (by omega) (by omega)]
      congr 1; omega
    · rw [if_neg (by simpa using hi), drop_end hi]; simp [sumOf]
theorem sum_tables {c : aCode} (hl : (c.Tables.length : Int) ≤ maxL) : ∀ (k : Nat) (v i : Int), 0 ≤ i → 0 ≤ v → ((c.Tables.length : Int) - i).toNat < k → v + sumOf (fun a : aTable => a.Before.length) (c.Tables.drop i.toNat) ≤ 1152921504606846976 → code_Check.l3 k c v i = some (v + sumOf (fun a : aTable => a.Before.length) (c.Tables.drop i.toNat))
  | 0, v, i, _, _, hk, _ => by omega
  | k + 1, v, i, h0, hv, hk, hb => by
    rw [code_Check.l3]
    by_cases hi : i < (c.Tables.length : Int)
    · rw [if_pos (by simpa using hi)]
      obtain ⟨x, hx⟩ := T_idx h0 hi
      rw [drop_idx hx] at hb ⊢
      simp only [sumOf] at hb ⊢
      rw [hx, Option.bind_some, wrap_add h0 hi hl, wrapi (by omega) (by omega), sum_tables hl k _ (i + 1) (by omega) (by omega) (by omega) (by omega)]
      congr 1; omega
    · rw [if_neg (by simpa using hi), drop_end hi]; simp [sumOf]
/-- What is asked behind the sum. -/
def checkRest (p0 : aCode) (s3_ : Int) : Option Int := if (decide (s3_ > (65536 : Int))) = true then (some (8 : Int)) else (if (decide ((p0.Arrays.length : Int) > (256 : Int))) = true then (some (8 : Int)) else (if (decide ((p0.Tables.length : Int) > (256 : Int))) = true then (some (8 : Int)) else (if (decide ((p0.States.length : Int) > (4096 : Int))) = true then (some (8 : Int)) else ((code_look_slotted (code_look.mk p0)).bind fun t14 => if (!t14) = true then (some (8 : Int)) else ((code_once p0.Emits (p0.Heads.length : Int)).bind fun t17 => if (!t17) = true then (some (8 : Int)) else ((slices_ContainsFunc_17 p0.Arrays (fun x_ : aArr => code_Check_1 x_)).bind fun t20 => if t20 = true then (some (8 : Int)) else ((slices_ContainsFunc_17 p0.States (fun x_ : aNode => code_Check_2 x_ (code_look.mk p0))).bind fun t23 => if t23 = true then (some (8 : Int)) else ((slices_ContainsFunc_17 p0.Tables (fun x_ : aTable => code_Check_3 x_ (code_look.mk p0))).bind fun t26 => if t26 = true then (some (8 : Int)) else ((slices_ContainsFunc_17 p0.Acts (fun x_ : aAct => code_Check_4 x_ (code_look.mk p0))).bind fun t29 => if t29 = true then (some (8 : Int)) else ((code_look_code (code_look.mk p0) p0.Main false true).bind fun t32 => if (!t32) = true then (some (8 : Int)) else (some (0 : Int)))))))))))) 
theorem check_sum {c : aCode} (hc : Bd c) (ht : (total c : Int) ≤ 100000) : code_Check c = checkRest c (total c) := by
  unfold code_Check
  unfold total at ht ⊢
  have e1 := sum_acts hc.acts (((c.Acts.length : Int) - (0 : Int)).toNat + 1) (c.Main.length : Int) 0 (by omega) (by omega) (by omega) (by simp only [Int.toNat_zero, List.drop_zero]; omega)
  simp only [Int.toNat_zero, List.drop_zero] at e1
  rw [e1, Option.bind_some]
  have e2 := sum_states hc.states (((c.States.length : Int) - (0 : Int)).toNat + 1) ((c.Main.length : Int) + sumOf (fun a : aAct => a.Code.length) c.Acts) 0 (by omega) (by omega) (by omega) (by simp only [Int.toNat_zero, List.drop_zero]; omega)
  simp only [Int.toNat_zero, List.drop_zero] at e2
  rw [e2, Option.bind_some]
  have e3 := sum_tables hc.tables (((c.Tables.length : Int) - (0 : Int)).toNat + 1) ((c.Main.length : Int) + sumOf (fun a : aAct => a.Code.length) c.Acts + sumOf (fun a : aNode => a.Code.length) c.States) 0 (by omega) (by omega) (by omega) (by simp only [Int.toNat_zero, List.drop_zero]; omega)
  simp only [Int.toNat_zero, List.drop_zero] at e3
  rw [e3, Option.bind_some]
  simp only [Int.natCast_add]
  rfl
theorem n8_iff {b : Bool} {B : Option Int} : (if b = true then some (8 : Int) else B) = some 0 ↔ b = false ∧ B = some 0 := by cases b <;> simp
theorem b8_iff {a : Option Bool} {B : Option Int} : (a.bind fun t => if t = true then some (8 : Int) else B) = some 0 ↔ a = some false ∧ B = some 0 := by
  cases a with
  | none => simp
  | some t => cases t <;> simp
theorem c8_iff {a : Option Bool} {B : Option Int} : (a.bind fun t => if (!t) = true then some (8 : Int) else B) = some 0 ↔ a = some true ∧ B = some 0 := by
  cases a with
  | none => simp
  | some t => cases t <;> simp
theorem x_Check {c c' : aCode} (e : Ext c c') (hc : Bd c) (hc' : Bd c') (ht : (total c : Int) ≤ 100000) (h : code_Check c = some 0) : code_Check c' = some 0 := by
  have hle : total c' ≤ total c := by
    have h1 : c'.Main.length ≤ c.Main.length := by rcases e.main with h | h <;> simp [h]
    have h2 := sum_le (w := fun a : aAct => a.Code.length) e.actsL fun i a' ha => let ⟨a, q1, _, q2⟩ := e.acts i a' ha; ⟨a, q1, by rcases q2 with h | h <;> simp [h]⟩
    have h3 := sum_le (w := fun a : aTable => a.Before.length) e.tablesL fun i a' ha => let ⟨a, q1, _, q2⟩ := e.tables i a' ha; ⟨a, q1, by rcases q2 with h | h <;> simp [h]⟩
    unfold total; rw [e.states]; omega
  rw [check_sum hc ht] at h
  rw [check_sum hc' (by omega)]
  unfold checkRest at h ⊢
  rw [n8_iff, n8_iff, n8_iff, n8_iff, c8_iff, c8_iff, b8_iff, b8_iff, b8_iff, b8_iff, c8_iff] at h ⊢
  obtain ⟨a1, a2, a3, a4, a5, a6, a7, a8, a9, a10, a11, _⟩ := h
  refine ⟨by simp at a1 ⊢; omega, by rw [e.arrays]; exact a2, by rw [e.tablesL]; exact a3, by rw [e.states]; exact a4, x_slotted e hc a5, by rw [e.emits, e.heads]; exact a6, by rw [e.arrays]; exact a7, ?_, ?_, ?_, ?_, rfl⟩
  · rw [e.states, CF_false hc.states] at *
    intro n hn
    have := a8 n hn
    unfold code_Check_2 at this ⊢
    rw [bind_not] at this ⊢
    obtain ⟨q1, q2, q3⟩ := hc.state n hn
    exact x_node e q1 q2 q3 this
  · rw [CF_false hc.tables] at a9
    rw [CF_false hc'.tables]
    intro t' ht'
    obtain ⟨i, hi⟩ := List.mem_iff_getElem?.1 ht'
    obtain ⟨t, q1, q2, q3⟩ := e.tables i t' hi
    have hm := List.mem_of_getElem? q1
    have := a9 t hm
    unfold code_Check_3 at this ⊢
    rw [bind_not] at this ⊢
    obtain ⟨r1, r2, r3, r4, r5⟩ := hc.table t hm
    rw [q2]; exact x_table e r1 r5 q3 this
  · rw [CF_false hc.acts] at a10
    rw [CF_false hc'.acts]
    intro a' ha'
    obtain ⟨i, hi⟩ := List.mem_iff_getElem?.1 ha'
    obtain ⟨a, q1, q2, q3⟩ := e.acts i a' hi
    have hm := List.mem_of_getElem? q1
    have := a10 a hm
    unfold code_Check_4 at this ⊢
    rw [bind_not] at this ⊢
    rcases q3 with h | h
    · rw [h]; exact x_code e (hc.act a hm).2.2 this
    · rw [h]; exact code_nil
  · rcases e.main with h | h
    · rw [h]; exact x_code e hc.main.2 a11
    · rw [h]; exact code_nil
end Go.Pt
