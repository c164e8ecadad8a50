import Derived.Test.YtpaggjifaelcnaaGreatPL13
/-
  CodeParts, the plain law, 14: likewise: tables, slots.
-/
set_option linter.unusedVariables false
set_option linter.unusedSimpArgs false
namespace Go.Pt
open Go Go.Pm

theorem tl1_eq (t : aTable) (b : List aIns) : ∀ (k : Nat) (v i : Int), code_look_table.l1 k { t with Before := b } v i = code_look_table.l1 k t v i
  | 0, _, _ => rfl
  | k + 1, v, i => by rw [code_look_table.l1, code_look_table.l1]; simp only [tl1_eq t b k]
theorem tl1_rt {t : aTable} : ∀ (k : Nat) (v i : Int) (r : Bool), code_look_table.l1 k t v i = some (.rt r) → r = false
  | 0, v, i, r, h => by simp [code_look_table.l1] at h
  | k + 1, v, i, r, h => by
    rw [code_look_table.l1] at h
    split at h
    · obtain ⟨_, _, h⟩ := bs h
      split at h
      · simp at h; exact h
      · split at h
        · simp at h; exact h
        · split at h <;> exact tl1_rt k _ _ r h
    · simp at h
section
variable {c c' : aCode} (e : Ext c c')
include e
theorem x_EB {a : List aBits} {b : List Int} : ∀ (k : Nat) (i : Int),
    slices_EqualFunc_int_api_Bits_int.l1 k a b (fun x_ : aBits × Int => code_look_table_1 x_.1 x_.2 ⟨c⟩) i = some (.go ()) → slices_EqualFunc_int_api_Bits_int.l1 k a b (fun x_ : aBits × Int => code_look_table_1 x_.1 x_.2 ⟨c'⟩) i = some (.go ())
  | 0, i, h => by simp [slices_EqualFunc_int_api_Bits_int.l1] at h
  | k + 1, i, h => by
    rw [slices_EqualFunc_int_api_Bits_int.l1] at h ⊢
    split at h <;> rename_i h1
    · rw [if_pos h1]
      obtain ⟨x, hx, q1⟩ := bs h
      obtain ⟨y, hy, q2⟩ := bs q1
      obtain ⟨z, hz, q3⟩ := bs q2
      rw [hx, Option.bind_some, hy, Option.bind_some]
      split at q3 <;> rename_i h2
      · simp at q3
      · have : z = true := by cases z <;> simp_all
        subst this
        have : code_look_table_1 x y ⟨c'⟩ = some true := by
          unfold code_look_table_1 at hz ⊢
          rw [and_iff, bind_id] at hz ⊢
          exact ⟨hz.1, x_wide e hz.2⟩
        rw [this, Option.bind_some, if_neg h2]
        exact x_EB k _ q3
    · rw [if_neg h1]
theorem x_EBf {a : List aBits} {b : List Int} (h : slices_EqualFunc_api_Bits_int_api_Bits_int a b (fun x_ : aBits × Int => code_look_table_1 x_.1 x_.2 ⟨c⟩) = some true) : slices_EqualFunc_api_Bits_int_api_Bits_int a b (fun x_ : aBits × Int => code_look_table_1 x_.1 x_.2 ⟨c'⟩) = some true := by
  unfold slices_EqualFunc_api_Bits_int_api_Bits_int at h ⊢
  rw [nite_iff] at h ⊢
  refine ⟨h.1, ?_⟩
  obtain ⟨ex, hex, q⟩ := bs h.2
  cases ex with
  | rt r =>
    have : ∀ (k : Nat) (i : Int) (r : Bool) (f : aBits × Int → Option Bool), slices_EqualFunc_int_api_Bits_int.l1 k a b f i = some (.rt r) → r = false := by
      intro k
      induction k with
      | zero => intro i r f h; simp [slices_EqualFunc_int_api_Bits_int.l1] at h
      | succ k ih =>
        intro i r f h
        rw [slices_EqualFunc_int_api_Bits_int.l1] at h
        split at h
        · obtain ⟨x, _, h⟩ := bs h
          obtain ⟨y, _, h⟩ := bs h
          obtain ⟨z, _, h⟩ := bs h
          split at h
          · simp at h; exact h
          · exact ih _ _ _ h
        · simp at h
    have := this _ _ _ _ hex
    subst this; simp [Ex.elim] at q
  | go u => rw [x_EB e _ _ hex]; rfl
theorem x_table {t : aTable} {b : List aIns} (h1 : (t.Keys.length : Int) ≤ maxL) (h5 : codeBd t.Before) (hb : b = t.Before ∨ b = []) (h : code_look_table ⟨c⟩ t = some true) : code_look_table ⟨c'⟩ { t with Before := b } = some true := by
  unfold code_look_table at h ⊢
  simp only [tl1_eq]
  obtain ⟨ex, hex, q⟩ := bs h
  rw [hex, Option.bind_some]
  cases ex with
  | rt r => have := tl1_rt _ _ _ _ hex; subst this; simp [Ex.elim] at q
  | go s1 =>
    simp only [Ex.elim] at q ⊢
    rw [nite_iff, nite_iff, nite_iff, nand_iff, nand_iff, nite_iff, nite_iff, nand_iff, nand_iff] at q ⊢
    obtain ⟨a1, a2, a3, a4, a5, a6, a7, a8, a9, a10⟩ := q
    refine ⟨a1, a2, a3, x_slots e h1 a4, ?_, a6, a7, by simp only [e.actsL]; exact a8, a9, ?_⟩
    · rcases hb with rfl | rfl
      · exact x_code e h5.2 a5
      · exact code_nil
    · obtain ⟨a, ha, q⟩ := bs a10
      obtain ⟨a', ha', hp⟩ := x_acts e ha
      rw [bind_id] at q
      rw [ha', Option.bind_some, bind_id, hp]
      exact x_EBf e q
theorem x_own {seen m : List (Int × Int)} {s : List Int} {a b : Int} (hl : (s.length : Int) ≤ maxL) (h : code_look_own ⟨c⟩ seen s a b = some (true, m)) : code_look_own ⟨c'⟩ seen s a b = some (true, m) := by
  obtain ⟨h1, h2, h3, h4⟩ := own_slots hl h
  unfold code_look_own
  rw [if_neg (by simpa using h1), if_neg (by simpa using h2), (slots_true hl).2 fun x hx => x_slot e (h3 x hx), Option.bind_some, if_neg (by simp)]
  exact h4
end
end Go.Pt
