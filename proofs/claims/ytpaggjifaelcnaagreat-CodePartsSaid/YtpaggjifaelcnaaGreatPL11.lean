import Derived.Test.YtpaggjifaelcnaaGreatPL10
/-
  CodeParts, the plain law, 11: likewise: rows, code, nodes, tables.
-/
set_option linter.unusedVariables false
set_option linter.unusedSimpArgs false
namespace Go.Pt
open Go Go.Pm

theorem idx_get {α : Type} {xs : List α} {i : Int} {x : α} : idx xs i = some x ↔ 0 ≤ i ∧ xs[i.toNat]? = some x := by
  unfold idx
  by_cases h : 0 ≤ i <;> simp [h]
section
variable {c c' : aCode} (e : Ext c c')
include e
theorem x_acts {n : Int} {a : aAct} (h : idx c.Acts n = some a) : ∃ a', idx c'.Acts n = some a' ∧ a'.Params = a.Params := by
  obtain ⟨h0, h1⟩ := idx_get.1 h
  have hlt := (List.getElem?_eq_some_iff.1 h1).1
  have hlt' : n.toNat < c'.Acts.length := by rw [e.actsL]; exact hlt
  obtain ⟨a2, h2, h3, _⟩ := e.acts n.toNat c'.Acts[n.toNat] (List.getElem?_eq_getElem hlt')
  rw [h1] at h2; cases h2
  exact ⟨_, idx_get.2 ⟨h0, List.getElem?_eq_getElem hlt'⟩, h3⟩
theorem x_EF {a b : List Int} : ∀ (k : Nat) (i : Int), (∀ x ∈ a, code_look_slot ⟨c⟩ x = some true) →
    slices_EqualFunc_int_int_int.l1 k a b (fun x_ : Int × Int => code_look_alike_1 x_.1 x_.2 ⟨c⟩) i = some (.go ()) → slices_EqualFunc_int_int_int.l1 k a b (fun x_ : Int × Int => code_look_alike_1 x_.1 x_.2 ⟨c'⟩) i = some (.go ())
  | 0, i, _, h => by simp [slices_EqualFunc_int_int_int.l1] at h
  | k + 1, i, hs, h => by
    rw [slices_EqualFunc_int_int_int.l1] at h ⊢
    split at h <;> rename_i h1
    · rw [if_pos h1]
      obtain ⟨x, hx, h⟩ := bs h
      obtain ⟨y, hy, h⟩ := bs h
      obtain ⟨b, hb, h⟩ := bs h
      rw [hx, Option.bind_some, hy, Option.bind_some]
      split at h <;> rename_i h2
      · simp at h
      · have : b = true := by cases b <;> simp_all
        subst this
        have : code_look_alike_1 x y ⟨c'⟩ = some true := by
          unfold code_look_alike_1 at hb ⊢
          obtain ⟨w, hw, hb⟩ := bs hb
          rw [bind_id] at hb
          rw [x_idx e hw, Option.bind_some, bind_id]
          exact x_wide e hb
        rw [this, Option.bind_some, if_neg h2]
        exact x_EF k _ hs h
    · rw [if_neg h1]
theorem x_alike {a b : List Int} (hl : (a.length : Int) ≤ maxL) (h : code_look_alike ⟨c⟩ a b = some true) : code_look_alike ⟨c'⟩ a b = some true := by
  unfold code_look_alike at h ⊢
  rw [and_iff, bind_id] at h ⊢
  refine ⟨x_slots e hl h.1, ?_⟩
  have hs := (slots_true hl).1 h.1
  replace h := h.2
  unfold slices_EqualFunc_int_int_int_int at h ⊢
  rw [nite_iff] at h ⊢
  refine ⟨h.1, ?_⟩
  obtain ⟨ex, hex, h⟩ := bs h.2
  cases ex with
  | rt r =>
    have : ∀ (k : Nat) (i : Int) (r : Bool) (f : Int × Int → Option Bool), slices_EqualFunc_int_int_int.l1 k a b f i = some (.rt r) → r = false := by
      intro k
      induction k with
      | zero => intro i r f h; simp [slices_EqualFunc_int_int_int.l1] at h
      | succ k ih =>
        intro i r f h
        rw [slices_EqualFunc_int_int_int.l1] at h
        split at h
        · obtain ⟨x, _, h⟩ := bs h
          obtain ⟨y, _, h⟩ := bs h
          obtain ⟨z, _, h⟩ := bs h
          split at h
          · simp at h; exact h
          · exact ih _ _ _ h
        · simp at h
    have := this _ _ _ _ hex
    subst this; simp [Ex.elim] at h
  | go u => rw [x_EF e _ _ hs hex]; rfl
theorem x_row : ∀ r ∈ rowL, ∀ x p, insBd x → r.fine (⟨c⟩, x, p) = some true → r.fine (⟨c'⟩, x, p) = some true := by
  intro r hr x p hx h
  simp only [rowL, code_rows, List.mem_cons, List.not_mem_nil, or_false] at hr
  have hs : (x.L.length : Int) ≤ maxL := hx
  rcases hr with rfl | rfl | rfl | rfl | rfl | rfl | rfl | rfl | rfl | rfl | rfl | rfl | rfl | rfl | rfl | rfl | rfl | rfl | rfl | rfl | rfl
  · replace h : code_rows_1 ⟨c⟩ x p = some true := h
    show code_rows_1 ⟨c'⟩ x p = some true
    unfold code_rows_1 at h ⊢; rw [and_iff, bind_id] at h ⊢; exact ⟨h.1, x_wide e h.2⟩
  · replace h : code_rows_2 ⟨c⟩ x p = some true := h
    show code_rows_2 ⟨c'⟩ x p = some true
    unfold code_rows_2 at h ⊢; rw [and_iff] at h ⊢
    refine ⟨x_slot e h.1, ?_⟩
    obtain ⟨w, hw, h⟩ := bs h.2
    rw [bind_id] at h
    rw [x_idx e hw, Option.bind_some, bind_id]; exact x_wide e h
  · exact x_op (p := p) e h
  · replace h : code_rows_3 ⟨c⟩ x p = some true := h
    show code_rows_3 ⟨c'⟩ x p = some true
    unfold code_rows_3 at h ⊢
    obtain ⟨w, hw, h⟩ := bs h
    rw [hw, Option.bind_some]
    rw [ite_iff, and_iff, ite_iff, ite_iff, bind_id] at h ⊢
    exact ⟨h.1, x_wide e h.2.1, h.2.2.1, h.2.2.2.1, x_slots e hs h.2.2.2.2⟩
  · replace h : code_rows_4 ⟨c⟩ x p = some true := h
    show code_rows_4 ⟨c'⟩ x p = some true
    unfold code_rows_4 at h ⊢; rw [and_iff, bind_id] at h ⊢; exact ⟨x_wide e h.1, by rw [x_head e]; exact h.2⟩
  · replace h : code_rows_5 ⟨c⟩ x p = some true := h
    show code_rows_5 ⟨c'⟩ x p = some true
    unfold code_rows_5 at h ⊢; rw [x_head e]; exact h
  · replace h : code_rows_6 ⟨c⟩ x p = some true := h
    show code_rows_6 ⟨c'⟩ x p = some true
    unfold code_rows_6 at h ⊢; rw [x_head e]; exact h
  · replace h : code_rows_7 ⟨c⟩ x p = some true := h
    show code_rows_7 ⟨c'⟩ x p = some true
    unfold code_rows_7 at h ⊢; rw [and_iff, bind_id] at h ⊢; exact ⟨x_slot e h.1, by rw [x_array e]; exact h.2⟩
  · replace h : code_rows_8 ⟨c⟩ x p = some true := h
    show code_rows_8 ⟨c'⟩ x p = some true
    unfold code_rows_8 at h ⊢; rw [and_iff, and_iff] at h ⊢
    refine ⟨x_slot e h.1, by rw [x_array e]; exact h.2.1, ?_⟩
    obtain ⟨w, hw, h⟩ := bs h.2.2
    rw [bind_id] at h
    simp only [e.arrays]
    rw [hw, Option.bind_some, bind_id]; exact x_wide e h
  · replace h : code_rows_9 ⟨c⟩ x p = some true := h
    show code_rows_9 ⟨c'⟩ x p = some true
    unfold code_rows_9 at h ⊢; rw [and_iff, and_iff] at h ⊢
    refine ⟨x_slot e h.1, by rw [x_array e]; exact h.2.1, ?_⟩
    obtain ⟨w, hw, h⟩ := bs h.2.2
    rw [bind_id] at h
    simp only [e.arrays]
    rw [hw, Option.bind_some, bind_id]; exact x_wide e h
  · replace h : code_rows_10 ⟨c⟩ x p = some true := h
    show code_rows_10 ⟨c'⟩ x p = some true
    unfold code_rows_10 at h ⊢; rw [and_iff, and_iff, bind_id] at h ⊢
    exact ⟨x_slot e h.1, by rw [x_array e]; exact h.2.1, x_wide e h.2.2⟩
  · replace h : code_rows_11 ⟨c⟩ x p = some true := h
    show code_rows_11 ⟨c'⟩ x p = some true
    unfold code_rows_11 at h ⊢; rw [bind_id] at h ⊢; exact x_slot e h
  · exact h
  · exact h
  · exact h
  · replace h : code_rows_12 ⟨c⟩ x p = some true := h
    show code_rows_12 ⟨c'⟩ x p = some true
    unfold code_rows_12 at h ⊢; rw [ite_iff, ite_iff, bind_id] at h ⊢; exact ⟨h.1, h.2.1, x_slots e hs h.2.2⟩
  · exact h
  · replace h : code_rows_14 ⟨c⟩ x p = some true := h
    show code_rows_14 ⟨c'⟩ x p = some true
    unfold code_rows_14 at h ⊢; simp only [e.tablesL]; exact h
  · replace h : code_rows_15 ⟨c⟩ x p = some true := h
    show code_rows_15 ⟨c'⟩ x p = some true
    unfold code_rows_15 at h ⊢; rw [ite_iff, and_iff] at h ⊢
    refine ⟨h.1, by simp only [e.actsL]; exact h.2.1, ?_⟩
    obtain ⟨a, ha, h⟩ := bs h.2.2
    obtain ⟨a', ha', hp⟩ := x_acts e ha
    rw [bind_id] at h
    rw [ha', Option.bind_some, bind_id, hp]; exact x_alike e hs h
  · exact h
  · replace h : code_rows_17 ⟨c⟩ x p = some true := h
    show code_rows_17 ⟨c'⟩ x p = some true
    unfold code_rows_17 at h ⊢; rw [ite_iff, ite_iff, bind_id] at h ⊢; exact ⟨h.1, h.2.1, x_wide e h.2.2⟩
end
end Go.Pt
