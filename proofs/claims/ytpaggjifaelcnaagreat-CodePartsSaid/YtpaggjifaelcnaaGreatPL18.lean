import Derived.Test.YtpaggjifaelcnaaGreatPL17
/-
  CodeParts, the plain law, 18: the law.
-/
set_option linter.unusedVariables false
set_option linter.unusedSimpArgs false
namespace Go.Pt
open Go Go.Pm

theorem slots_le {c : aCode} (hc : Bd c) (h : code_look_slotted ⟨c⟩ = some true) : c.Slots.length ≤ 65536 := by
  unfold code_look_slotted at h
  rw [nite_iff] at h
  have := h.1
  simp at this; omega
theorem check_slotted {c : aCode} (hc : Bd c) (ht : (total c : Int) ≤ 100000) (h : code_Check c = some 0) : code_look_slotted ⟨c⟩ = some true := by
  rw [check_sum hc ht] at h
  unfold checkRest at h
  rw [n8_iff, n8_iff, n8_iff, n8_iff, c8_iff] at h
  exact h.2.2.2.2.1
theorem law {c : aCode} {w : Int} (h : In c) (hw : 0 ≤ w ∧ w ≤ 255) : pointsmanlaw12_CodeParts c w = some true := by
  unfold pointsmanlaw12_CodeParts
  obtain ⟨r, hr, _, _, hq⟩ := sz_code h.bm
  rw [hr, Option.bind_some, lives_true]
  have hb := h.bm.bd
  by_cases hbig : r > 100000
  · rw [if_pos (by simpa using hbig)]; rfl
  rw [if_neg (by simpa using hbig)]
  have htot : (total c : Int) ≤ 100000 := by have := hq (by omega); omega
  obtain ⟨y, hy⟩ := T_Check hb
  rw [hy, Option.bind_some]
  by_cases hy1 : ¬ y = 0
  · rw [if_pos (by simpa using hy1)]; rfl
  have hy0 : y = 0 := Decidable.not_not.1 hy1
  subst hy0
  rw [if_neg (by simp), tw_code h, Option.bind_some]
  have hsl := slots_le hb (check_slotted hb htot hy)
  have hT : ∀ s, pointsmanlaw12_CodeParts.l3 (((c.Tables.length : Int) - (0 : Int)).toNat + 1) (0 : Int) c.Tables = some s → RelT c.Tables s := fun s hs => by
    obtain ⟨s', h1, h2⟩ := loopT hb.tables (((c.Tables.length : Int) - (0 : Int)).toNat + 1) 0 c.Tables (by omega) (by omega) (RelT.refl _)
    rw [hs] at h1; cases h1; exact h2
  obtain ⟨sT, hsT, hrT⟩ := loopT hb.tables (((c.Tables.length : Int) - (0 : Int)).toNat + 1) 0 c.Tables (by omega) (by omega) (RelT.refl _)
  obtain ⟨sA, hsA, hrA⟩ := loopA hb.acts (((c.Acts.length : Int) - (0 : Int)).toNat + 1) 0 c.Acts (by omega) (by omega) (RelA.refl _)
  by_cases hlt : (c.Slots.length : Int) < 65536
  · rw [if_pos (by simpa using hlt), if_pos (h.slots.app (Nat.le_refl _))]
    have hwid : IntKind.wrap .i64 ((1 : Int) + (Int.tmod (IntKind.wrap .i64 w) (128 : Int))) = 1 + Int.tmod w 128 ∧ 0 ≤ Int.tmod w 128 ∧ Int.tmod w 128 < 128 := by
      rw [wrapi (n := w) (by omega) (by omega)]
      have h1 : 0 ≤ Int.tmod w 128 := Int.tmod_nonneg _ hw.1
      have h2 : Int.tmod w 128 < 128 := Int.tmod_lt_of_pos _ (by decide)
      exact ⟨wrapi (by omega) (by omega), h1, h2⟩
    rw [hwid.1]
    have hs2 : ∀ x ∈ [1 + Int.tmod w 128], 1 ≤ x ∧ x ≤ 128 := by intro x hx; simp at hx; subst hx; omega
    have hl2 : (c.Slots ++ [1 + Int.tmod w 128]).length ≤ 65536 := by simp; omega
    have hl3 : ((c.Slots ++ [1 + Int.tmod w 128]).length : Int) ≤ maxL := by simp only [maxL]; omega
    have c1 := x_Check (ext_of rfl hs2 hl2 (.inl rfl) (RelA.refl _) (RelT.refl _)) hb (bd_ext hb hl3 (.inl rfl) (RelA.refl _) (RelT.refl _)) htot hy
    rw [c1, Option.bind_some, if_neg (by simp), hsT, Option.bind_some, hsA, Option.bind_some]
    have c2 := x_Check (ext_of rfl hs2 hl2 (.inr rfl) hrA hrT) hb (bd_ext hb hl3 (.inr rfl) hrA hrT) htot hy
    rw [c2]; rfl
  · rw [if_neg (by simpa using hlt)]
    simp only [l1_eq, l2_eq]
    rw [hsT, Option.bind_some, hsA, Option.bind_some]
    have c2 := x_Check (ext_of (sl := c.Slots) (t := []) (by simp) (by simp) hsl (.inr rfl) hrA hrT) hb (bd_ext hb hb.slots (.inr rfl) hrA hrT) htot hy
    rw [c2]; rfl
end Go.Pt
