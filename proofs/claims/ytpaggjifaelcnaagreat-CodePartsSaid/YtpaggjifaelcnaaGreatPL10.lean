import Derived.Test.YtpaggjifaelcnaaGreatPL9
/-
  CodeParts, the plain law, 10: what may be still may be where slots are put behind and code is emptied: instructions.
-/
set_option linter.unusedVariables false
set_option linter.unusedSimpArgs false
namespace Go.Pt
open Go Go.Pm

theorem and_iff {a B : Option Bool} : (a.bind fun t => if t = true then B else some false) = some true ↔ a = some true ∧ B = some true := by
  cases a with
  | none => simp
  | some t => cases t <;> simp
theorem ite_iff {b : Bool} {B : Option Bool} : (if b = true then B else some false) = some true ↔ b = true ∧ B = some true := by cases b <;> simp
theorem nite_iff {b : Bool} {B : Option Bool} : (if b = true then some false else B) = some true ↔ b = false ∧ B = some true := by cases b <;> simp
theorem nand_iff {a B : Option Bool} : (a.bind fun t => if (!t) = true then some false else B) = some true ↔ a = some true ∧ B = some true := by
  cases a with
  | none => simp
  | some t => cases t <;> simp
theorem bind_id {a : Option Bool} : (a.bind fun t => some t) = a := by cases a <;> rfl
theorem bind_not {a : Option Bool} : (a.bind fun t => some (!t)) = some false ↔ a = some true := by
  cases a with
  | none => simp
  | some t => cases t <;> simp
theorem bind_not' {a : Option Bool} : (a.bind fun t => some (!t)) = some true ↔ a = some false := by
  cases a with
  | none => simp
  | some t => cases t <;> simp
theorem slot_iff {l : code_look} {n : Int} : code_look_slot l n = some true ↔ ∃ x, idx l.c.Slots n = some x := by
  constructor
  · exact fun h => slot_idx h
  · rintro ⟨x, hx⟩
    rw [slot_eq]
    have := idx_lt hx
    simp [this]
theorem wide_iff {l : code_look} {n w : Int} : code_look_wide l n w = some true ↔ idx l.c.Slots n = some w := by
  unfold code_look_wide
  rw [and_iff, slot_iff]
  constructor
  · rintro ⟨⟨x, hx⟩, h⟩
    rw [hx] at h
    simp at h
    rw [hx, h]
  · intro h
    exact ⟨⟨w, h⟩, by rw [h]; simp⟩
theorem idx_app {α : Type} {xs t : List α} {i : Int} {x : α} (h : idx xs i = some x) : idx (xs ++ t) i = some x := by
  obtain ⟨h0, h1, h2⟩ := idx_some h
  unfold idx
  rw [if_pos h0, List.getElem?_append_left (by omega), h2]

/-- Slots put behind, code emptied here and there. -/
structure Ext (c c' : aCode) : Prop where
  slots : ∃ t, c'.Slots = c.Slots ++ t ∧ ∀ w ∈ t, 1 ≤ w ∧ w ≤ 128
  len : c'.Slots.length ≤ 65536
  heads : c'.Heads = c.Heads
  meta_ : c'.Meta = c.Meta
  states : c'.States = c.States
  emits : c'.Emits = c.Emits
  arrays : c'.Arrays = c.Arrays
  main : c'.Main = c.Main ∨ c'.Main = []
  actsL : c'.Acts.length = c.Acts.length
  acts : ∀ (i : Nat) a', c'.Acts[i]? = some a' → ∃ a, c.Acts[i]? = some a ∧ a'.Params = a.Params ∧ (a'.Code = a.Code ∨ a'.Code = [])
  tablesL : c'.Tables.length = c.Tables.length
  tables : ∀ (i : Nat) t', c'.Tables[i]? = some t' → ∃ t, c.Tables[i]? = some t ∧ t' = { t with Before := t'.Before } ∧ (t'.Before = t.Before ∨ t'.Before = [])

section
variable {c c' : aCode} (e : Ext c c')
include e
theorem x_idx {n x : Int} (h : idx c.Slots n = some x) : idx c'.Slots n = some x := by
  obtain ⟨t, ht, _⟩ := e.slots
  rw [ht]; exact idx_app h
theorem x_slot {n : Int} (h : code_look_slot ⟨c⟩ n = some true) : code_look_slot ⟨c'⟩ n = some true := by
  obtain ⟨x, hx⟩ := slot_iff.1 h
  exact slot_iff.2 ⟨x, x_idx e hx⟩
theorem x_wide {n w : Int} (h : code_look_wide ⟨c⟩ n w = some true) : code_look_wide ⟨c'⟩ n w = some true := wide_iff.2 (x_idx e (wide_iff.1 h))
theorem x_head {n : Int} : code_look_head ⟨c'⟩ n = code_look_head ⟨c⟩ n := by rw [head_eq, head_eq, e.heads]
theorem x_array {n k : Int} : code_look_array ⟨c'⟩ n k = code_look_array ⟨c⟩ n k := by unfold code_look_array; simp only [e.arrays]
theorem x_slots {s : List Int} (hl : (s.length : Int) ≤ maxL) (h : code_look_slots ⟨c⟩ s = some true) : code_look_slots ⟨c'⟩ s = some true :=
  (slots_true hl).2 fun x hx => x_slot e ((slots_true hl).1 h x hx)
theorem x_op {x : aIns} {p : code_place} (h : code_look_op ⟨c⟩ x p = some true) : code_look_op ⟨c'⟩ x p = some true := by
  unfold code_look_op at h ⊢
  rw [nand_iff] at h ⊢
  refine ⟨x_slot e h.1, ?_⟩
  replace h := h.2
  rw [nand_iff] at h ⊢
  refine ⟨x_slot e h.1, ?_⟩
  replace h := h.2
  rw [nite_iff] at h ⊢
  refine ⟨h.1, ?_⟩
  replace h := h.2
  rw [nite_iff] at h ⊢
  refine ⟨h.1, ?_⟩
  replace h := h.2
  obtain ⟨ex, hex, h⟩ := bs h
  obtain ⟨b, hb, hex⟩ := bs hex
  rw [hb, Option.bind_some]
  have fin : ∀ s1 : aBits, ((idx c.Slots x.A).bind fun t62 => (bits_Do x.By (aBits.mk t62 0 0) s1 x.N x.M).bind fun t64 => if (t64.2.1 == (0 : Int)) = true then ((code_look_wide ⟨c⟩ x.To t64.1.W).bind fun t69 => some t69) else (some false)) = some true →
      ((idx c'.Slots x.A).bind fun t62 => (bits_Do x.By (aBits.mk t62 0 0) s1 x.N x.M).bind fun t64 => if (t64.2.1 == (0 : Int)) = true then ((code_look_wide ⟨c'⟩ x.To t64.1.W).bind fun t69 => some t69) else (some false)) = some true := by
    intro s1 h
    obtain ⟨a, ha, h⟩ := bs h
    obtain ⟨r, hr, h⟩ := bs h
    rw [x_idx e ha, Option.bind_some, hr, Option.bind_some]
    rw [ite_iff, bind_id] at h ⊢
    exact ⟨h.1, x_wide e h.2⟩
  split at hex
  · split at hex
    · cases hex; simp [Ex.elim] at h
    · rename_i h1 h2
      cases hex
      rw [if_pos h1, if_neg h2, Option.bind_some]
      simp only [Ex.elim] at h ⊢
      split at h <;> rename_i h3
      · rw [if_pos h3]
        rw [nite_iff] at h ⊢
        refine ⟨h.1, ?_⟩
        replace h := h.2
        split at h <;> rename_i h4
        · rw [if_pos h4]; exact fin _ h
        · rw [if_neg h4]; exact fin _ h
      · rw [if_neg h3]
        split at h <;> rename_i h4
        · rw [if_pos h4]
          split at h <;> rename_i h5
          · rw [if_pos h5, nite_iff] at *
            exact ⟨h.1, fin _ h.2⟩
          · rw [if_neg h5]; exact fin _ h
        · rw [if_neg h4]; exact fin _ h
  · rename_i h1
    obtain ⟨y, hy, hex⟩ := bs hex
    split at hex
    · cases hex; simp [Ex.elim] at h
    · rename_i h2
      have : y = true := by cases y <;> simp_all
      subst this
      obtain ⟨w, hw, hex⟩ := bs hex
      cases hex
      rw [if_neg h1, x_slot e hy, Option.bind_some, if_neg h2, x_idx e hw, Option.bind_some, Option.bind_some]
      simp only [Ex.elim] at h ⊢
      split at h <;> rename_i h3
      · rw [if_pos h3]
        rw [nite_iff] at h ⊢
        refine ⟨h.1, ?_⟩
        replace h := h.2
        split at h <;> rename_i h4
        · rw [if_pos h4]; exact fin _ h
        · rw [if_neg h4]; exact fin _ h
      · rw [if_neg h3]
        split at h <;> rename_i h4
        · rw [if_pos h4]
          split at h <;> rename_i h5
          · rw [if_pos h5, nite_iff] at *
            exact ⟨h.1, fin _ h.2⟩
          · rw [if_neg h5]; exact fin _ h
        · rw [if_neg h4]; exact fin _ h
end
end Go.Pt
