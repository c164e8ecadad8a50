import Derived.Test.YtpaggjifaelcnaaGreatPL1
/-
  CodeParts, the plain law, 2: the library's functions on lists; what is looked at.
-/
set_option linter.unusedVariables false
set_option linter.unusedSimpArgs false
namespace Go.Pt
open Go Go.Pm

/-! IndexFunc, ContainsFunc -/
theorem drop_idx {α : Type} {s : List α} {i : Int} {x : α} (h : idx s i = some x) : s.drop i.toNat = x :: s.drop (i + 1).toNat := by
  obtain ⟨h0, h1, h2⟩ := idx_some h
  have h3 : (i + 1).toNat = i.toNat + 1 := by omega
  rw [h3]
  obtain ⟨hlt, he⟩ := List.getElem?_eq_some_iff.1 h2
  rw [List.drop_eq_getElem_cons hlt, he]
theorem drop_end {α : Type} {s : List α} {i : Int} (h : ¬ i < s.length) : s.drop i.toNat = [] := List.drop_eq_nil_iff.2 (by omega)

section
variable {α : Type} {s : List α} {f : α → Option Bool}
theorem IF_go (hl : (s.length : Int) ≤ maxL) : ∀ (k : Nat) (i : Int), 0 ≤ i → ((s.length : Int) - i).toNat < k → (slices_IndexFunc_49.l1 k s f i = some (.go ()) ↔ ∀ x ∈ s.drop i.toNat, f x = some false)
  | 0, i, _, hk => by omega
  | k + 1, i, h0, hk => by
    rw [slices_IndexFunc_49.l1]
    by_cases hi : i < (s.length : Int)
    · rw [if_pos (by simpa using hi)]
      obtain ⟨x, hx⟩ := T_idx h0 hi
      rw [hx, Option.bind_some, drop_idx hx, wrap_add h0 hi hl]
      simp only [List.forall_mem_cons]
      cases hf : f x with
      | none => simp
      | some b =>
        cases b with
        | true => simp
        | false => simpa using IF_go hl k (i + 1) (by omega) (by omega)
    · rw [if_neg (by simpa using hi), drop_end hi]; simp
theorem IF_T (hl : (s.length : Int) ≤ maxL) : ∀ (k : Nat) (i : Int), 0 ≤ i → ((s.length : Int) - i).toNat < k → (∀ x ∈ s, T (f x)) → T (slices_IndexFunc_49.l1 k s f i)
  | 0, i, _, hk, _ => by omega
  | k + 1, i, h0, hk, h => by
    rw [slices_IndexFunc_49.l1]
    refine T_ite (fun hi => ?_) (fun _ => T_some)
    have hi := of_decide_eq_true hi
    refine T_bind (T_idx h0 hi) fun x hx => T_bind (h x (idx_mem hx)) fun b hb => T_ite (fun _ => T_some) (fun _ => ?_)
    rw [wrap_add h0 hi hl]
    exact IF_T hl k (i + 1) (by omega) (by omega) h
theorem IF_rt (hl : (s.length : Int) ≤ maxL) : ∀ (k : Nat) (i : Int) (r : Int), 0 ≤ i → slices_IndexFunc_49.l1 k s f i = some (.rt r) → ∃ x, idx s r = some x ∧ f x = some true
  | 0, i, r, _, hk => by simp [slices_IndexFunc_49.l1] at hk
  | k + 1, i, r, h0, hk => by
    rw [slices_IndexFunc_49.l1] at hk
    by_cases hi : i < (s.length : Int)
    · rw [if_pos (by simpa using hi)] at hk
      obtain ⟨x, hx⟩ := T_idx h0 hi
      rw [hx, Option.bind_some, wrap_add h0 hi hl] at hk
      cases hf : f x with
      | none => rw [hf] at hk; simp at hk
      | some b =>
        rw [hf, Option.bind_some] at hk
        cases b with
        | true => simp at hk; subst hk; exact ⟨x, hx, hf⟩
        | false => exact IF_rt hl k (i + 1) r (by omega) (by simpa using hk)
    · rw [if_neg (by simpa using hi)] at hk; simp at hk
theorem IFunc_T (hl : (s.length : Int) ≤ maxL) (h : ∀ x ∈ s, T (f x)) : T (slices_IndexFunc_49 s f) := by
  unfold slices_IndexFunc_49
  exact T_bind (IF_T hl _ 0 (by omega) (by omega) h) fun e _ => T_elim (fun _ _ => T_some) (fun _ _ => T_some)
theorem IFunc_val (hl : (s.length : Int) ≤ maxL) {r : Int} (h : slices_IndexFunc_49 s f = some r) : (r = -1 ∧ ∀ x ∈ s, f x = some false) ∨ ∃ x, idx s r = some x ∧ f x = some true := by
  unfold slices_IndexFunc_49 at h
  cases he : slices_IndexFunc_49.l1 (((s.length : Int) - (0 : Int)).toNat + 1) s f (0 : Int) with
  | none => rw [he] at h; simp at h
  | some e =>
    rw [he, Option.bind_some] at h
    cases e with
    | rt r' => simp [Ex.elim] at h; subst h; exact .inr (IF_rt hl _ 0 r' (by omega) he)
    | go u => simp [Ex.elim] at h; exact .inl ⟨h.symm, by simpa using (IF_go hl _ 0 (by omega) (by omega)).1 he⟩
theorem CF_T (hl : (s.length : Int) ≤ maxL) (h : ∀ x ∈ s, T (f x)) : T (slices_ContainsFunc_17 s f) := by
  unfold slices_ContainsFunc_17
  exact T_bind (IFunc_T hl h) fun _ _ => T_some
theorem CF_false (hl : (s.length : Int) ≤ maxL) : slices_ContainsFunc_17 s f = some false ↔ ∀ x ∈ s, f x = some false := by
  constructor
  · intro h
    unfold slices_ContainsFunc_17 at h
    cases he : slices_IndexFunc_49 s f with
    | none => rw [he] at h; simp at h
    | some r =>
      rw [he, Option.bind_some] at h
      rcases IFunc_val hl he with ⟨_, h2⟩ | ⟨x, hx, _⟩
      · exact h2
      · have := (idx_lt hx).1
        simp at h; omega
  · intro h
    have hg := (IF_go (f := f) hl (((s.length : Int) - (0 : Int)).toNat + 1) 0 (by omega) (by omega)).2 (by simpa using h)
    unfold slices_ContainsFunc_17 slices_IndexFunc_49
    rw [hg]; rfl
end
theorem IFi_eq (s : List Int) (f : Int → Option Bool) : ∀ (k : Nat) (i : Int), slices_IndexFunc_int.l1 k s f i = slices_IndexFunc_49.l1 k s f i
  | 0, _ => rfl
  | k + 1, i => by rw [slices_IndexFunc_int.l1, slices_IndexFunc_49.l1]; simp only [IFi_eq s f k]
theorem CFi_eq (s : List Int) (f : Int → Option Bool) : slices_ContainsFunc_int_int s f = slices_ContainsFunc_17 s f := by
  unfold slices_ContainsFunc_int_int slices_ContainsFunc_17 slices_IndexFunc_int_int slices_IndexFunc_49
  rw [IFi_eq]

/-! Index, Contains -/
theorem Ix_T {s : List Int} {v : Int} (hl : (s.length : Int) ≤ maxL) : ∀ (k : Nat) (i : Int), 0 ≤ i → ((s.length : Int) - i).toNat < k → T (slices_Index_int.l1 k s v i)
  | 0, i, _, hk => by omega
  | k + 1, i, h0, hk => by
    rw [slices_Index_int.l1]
    refine T_ite (fun hi => ?_) (fun _ => T_some)
    have hi := of_decide_eq_true hi
    refine T_bind (T_idx h0 hi) fun x hx => T_ite (fun _ => T_some) (fun _ => ?_)
    rw [wrap_add h0 hi hl]
    exact Ix_T hl k (i + 1) (by omega) (by omega)
theorem Ixr_eq (s : List Int) (v : Int) : ∀ (k : Nat) (i : Int), slices_Index_rune.l1 k s v i = slices_Index_int.l1 k s v i
  | 0, _ => rfl
  | k + 1, i => by rw [slices_Index_rune.l1, slices_Index_int.l1]; simp only [Ixr_eq s v k]
theorem Cn_T {s : List Int} {v : Int} (hl : (s.length : Int) ≤ maxL) : T (slices_Contains_int_int s v) := by
  unfold slices_Contains_int_int slices_Index_int_int
  exact T_bind (T_bind (Ix_T hl _ 0 (by omega) (by omega)) fun e _ => T_elim (fun _ _ => T_some) (fun _ _ => T_some)) fun _ _ => T_some
theorem Cnr_T {s : List Int} {v : Int} (hl : (s.length : Int) ≤ maxL) : T (slices_Contains_rune_rune s v) := by
  unfold slices_Contains_rune_rune slices_Index_rune_rune
  rw [Ixr_eq]
  exact T_bind (T_bind (Ix_T hl _ 0 (by omega) (by omega)) fun e _ => T_elim (fun _ _ => T_some) (fun _ _ => T_some)) fun _ _ => T_some
theorem Cn_true {s : List Int} {v : Int} (h : slices_Contains_int_int s v = some true) : v ∈ s := by
  unfold slices_Contains_int_int slices_Index_int_int at h
  have key : ∀ (k : Nat) (i : Int) (e : Ex Int Unit), slices_Index_int.l1 k s v i = some e → (∃ r, e = .rt r ∧ v ∈ s) ∨ e = .go () := by
    intro k
    induction k with
    | zero => intro i e h; simp [slices_Index_int.l1] at h
    | succ k ih =>
      intro i e h
      rw [slices_Index_int.l1] at h
      split at h
      · cases hx : idx s i with
        | none => rw [hx] at h; simp at h
        | some x =>
          rw [hx, Option.bind_some] at h
          split at h
          · rename_i heq
            cases h
            have : v = x := by simpa using heq
            subst this
            exact .inl ⟨i, rfl, idx_mem hx⟩
          · exact ih _ _ h
      · cases h; exact .inr rfl
  cases he : slices_Index_int.l1 (((s.length : Int) - (0 : Int)).toNat + 1) s v (0 : Int) with
  | none => rw [he] at h; simp at h
  | some e =>
    rw [he] at h
    rcases key _ _ _ he with ⟨r, rfl, hm⟩ | rfl
    · exact hm
    · simp [Ex.elim] at h
/-- What is found lies within. -/
theorem within_eq (n m : Int) : code_within n m = some (decide (0 ≤ n) && decide (n < m)) := by
  unfold code_within
  by_cases h : 0 ≤ n <;> simp [h]
end Go.Pt
