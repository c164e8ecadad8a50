import Derived.Test.YtpaggjifaelcnaaGreatPL14
/-
  CodeParts, the plain law, 15: likewise: slots.
-/
set_option linter.unusedVariables false
set_option linter.unusedSimpArgs false
set_option linter.unusedSectionVars false
namespace Go.Pt
open Go Go.Pm

theorem sl1_rt {l : code_look} : ∀ (k : Nat) (i : Int) (m : List (Int × Int)) (r : Bool), code_look_slotted.l1 k l i m = some (.rt r) → r = false
  | 0, i, m, r, h => by simp [code_look_slotted.l1] at h
  | k + 1, i, m, r, h => by
    rw [code_look_slotted.l1] at h
    split at h
    · obtain ⟨_, _, h⟩ := bs h
      obtain ⟨_, _, h⟩ := bs h
      split at h
      · simp at h; exact h
      · obtain ⟨_, _, h⟩ := bs h
        split at h
        · simp at h; exact h
        · exact sl1_rt k _ _ r h
    · simp at h
theorem if_rt {l : code_look} {s : List aAct} : ∀ (k : Nat) (i : Int) (m : List (Int × Int)) (r : Int × List (Int × Int)), 0 ≤ i → (s.length : Int) ≤ maxL → slices_IndexFunc.l1 k s l i m = some (.rt r) → 0 ≤ r.1
  | 0, i, m, r, _, _, h => by simp [slices_IndexFunc.l1] at h
  | k + 1, i, m, r, h0, hl, h => by
    rw [slices_IndexFunc.l1] at h
    split at h <;> rename_i hi
    · obtain ⟨_, _, h⟩ := bs h
      obtain ⟨_, _, h⟩ := bs h
      split at h
      · simp at h; subst h; exact h0
      · rw [wrap_add h0 (of_decide_eq_true hi) hl] at h
        exact if_rt k _ _ r (by omega) hl h
    · simp at h
section
variable {c c' : aCode} (e : Ext c c') (hc : Bd c)
include e hc
theorem x_sl2 {h : aHead} : ∀ (k : Nat) (v i r : Int), code_look_slotted.l2 k ⟨c⟩ h v i = some r → code_look_slotted.l2 k ⟨c'⟩ h v i = some r
  | 0, v, i, r, q => by simp [code_look_slotted.l2] at q
  | k + 1, v, i, r, q => by
    rw [code_look_slotted.l2] at q ⊢
    split at q <;> rename_i h1
    · rw [if_pos h1]
      obtain ⟨n, hn, q1⟩ := bs q
      obtain ⟨w, hw, q2⟩ := bs q1
      rw [hn, Option.bind_some, x_idx e hw, Option.bind_some]
      exact x_sl2 k _ _ _ q2
    · rw [if_neg h1]; exact q
theorem x_sl1 : ∀ (k : Nat) (i : Int) (m s : List (Int × Int)), code_look_slotted.l1 k ⟨c⟩ i m = some (.go s) → code_look_slotted.l1 k ⟨c'⟩ i m = some (.go s)
  | 0, i, m, s, q => by simp [code_look_slotted.l1] at q
  | k + 1, i, m, s, q => by
    rw [code_look_slotted.l1] at q ⊢
    simp only [e.heads]
    split at q <;> rename_i h1
    · rw [if_pos h1]
      obtain ⟨h, hh, q1⟩ := bs q
      obtain ⟨t, ht, q2⟩ := bs q1
      rw [hh, Option.bind_some]
      split at q2 <;> rename_i h2
      · simp at q2
      · obtain ⟨b, m'⟩ := t
        have : b = true := by cases b <;> simp_all
        subst this
        rw [x_own e (hc.head h (idx_mem hh)) ht, Option.bind_some, if_neg h2]
        obtain ⟨v, hv, q3⟩ := bs q2
        rw [x_sl2 e hc _ _ _ _ hv, Option.bind_some]
        split at q3 <;> rename_i h3
        · simp at q3
        · rw [if_neg h3]; exact x_sl1 k _ _ _ q3
    · rw [if_neg h1]; exact q
theorem x_if : ∀ (k : Nat) (i : Int) (m s : List (Int × Int)), slices_IndexFunc.l1 k c.Acts ⟨c⟩ i m = some (.go s) → slices_IndexFunc.l1 k c'.Acts ⟨c'⟩ i m = some (.go s)
  | 0, i, m, s, q => by simp [slices_IndexFunc.l1] at q
  | k + 1, i, m, s, q => by
    rw [slices_IndexFunc.l1] at q ⊢
    rw [e.actsL]
    split at q <;> rename_i h1
    · rw [if_pos h1]
      obtain ⟨a, ha, q1⟩ := bs q
      obtain ⟨a', ha', hp⟩ := x_acts e ha
      obtain ⟨t, ht, q2⟩ := bs q1
      rw [ha', Option.bind_some]
      split at q2 <;> rename_i h2
      · simp at q2
      · have : code_look_slotted_2 a' ⟨c'⟩ m = some t := by
          unfold code_look_slotted_2 at ht ⊢
          obtain ⟨⟨b, m'⟩, ho, q3⟩ := bs ht
          have hbt : b = true := by
            have h3 : (!b) = t.1 := congrArg Prod.fst (Option.some.inj q3)
            cases b
            · exact absurd h3.symm h2
            · rfl
          subst hbt
          rw [hp, x_own e (hc.act a (idx_mem ha)).1 ho, Option.bind_some]; exact q3
        rw [this, Option.bind_some, if_neg h2]
        exact x_if k _ _ _ q2
    · rw [if_neg h1]; exact q
theorem x_slotted (h : code_look_slotted ⟨c⟩ = some true) : code_look_slotted ⟨c'⟩ = some true := by
  unfold code_look_slotted at h ⊢
  rw [CFi_eq] at h ⊢
  have hl' : (c'.Slots.length : Int) ≤ maxL := by have := e.len; simp only [maxL]; omega
  rw [nite_iff] at h ⊢
  refine ⟨by simp; have := e.len; omega, ?_⟩
  obtain ⟨y, hy, q⟩ := bs h.2
  rw [nite_iff] at q
  obtain ⟨rfl, q⟩ := q
  have hw : slices_ContainsFunc_17 c'.Slots (fun x_ : Int => code_look_slotted_1 x_) = some false := by
    rw [CF_false hl']
    obtain ⟨t, ht, htw⟩ := e.slots
    rw [ht]
    intro x hx
    rcases List.mem_append.1 hx with hx | hx
    · exact (CF_false hc.slots).1 hy x hx
    · have := htw x hx
      unfold code_look_slotted_1
      rw [if_neg (by simp; omega)]
      simp; omega
  rw [hw, Option.bind_some, if_neg (by simp)]
  simp only [e.heads, e.meta_, e.actsL]
  rw [nite_iff, nite_iff] at q ⊢
  refine ⟨q.1, q.2.1, ?_⟩
  obtain ⟨⟨b, m⟩, ho, q1⟩ := bs q.2.2
  rw [nite_iff] at q1
  have hb : b = true := by cases b <;> simp_all
  subst hb
  rw [x_own e hc.meta_ ho, Option.bind_some, if_neg (by simp)]
  obtain ⟨m0, hm0, q2⟩ := bs q1.2
  rw [hm0, Option.bind_some]
  rw [nand_iff] at q2 ⊢
  refine ⟨x_wide e q2.1, ?_⟩
  obtain ⟨m1, hm1, q3⟩ := bs q2.2
  rw [hm1, Option.bind_some]
  rw [nand_iff] at q3 ⊢
  refine ⟨x_wide e q3.1, ?_⟩
  obtain ⟨ex, hex, q4⟩ := bs q3.2
  cases ex with
  | rt r => have := sl1_rt _ _ _ _ hex; subst this; simp [Ex.elim] at q4
  | go s =>
    rw [x_sl1 e hc _ _ _ _ hex, Option.bind_some]
    simp only [Ex.elim] at q4 ⊢
    obtain ⟨t, ht, q5⟩ := bs q4
    unfold slices_ContainsFunc slices_IndexFunc at ht ⊢
    rw [e.actsL]
    obtain ⟨p, hp, q6⟩ := bs ht
    obtain ⟨ex2, hex2, q7⟩ := bs hp
    cases ex2 with
    | rt r =>
      have := if_rt _ _ _ _ (by omega) hc.acts hex2
      simp only [Ex.elim, Option.some.injEq] at q7
      subst q7
      simp only [Option.some.injEq] at q6
      subst q6
      simp at q5; omega
    | go s2 =>
      rw [x_if e hc _ _ _ _ hex2, Option.bind_some]
      simp only [Ex.elim, Option.some.injEq] at q7 ⊢
      subst q7
      rfl
end
end Go.Pt
