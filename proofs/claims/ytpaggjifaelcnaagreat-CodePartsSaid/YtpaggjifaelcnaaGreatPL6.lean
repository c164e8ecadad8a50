import Derived.Test.YtpaggjifaelcnaaGreatPL5
/-
  CodeParts, the plain law, 6: 'slotted' and 'Check' answer.
-/
set_option linter.unusedVariables false
set_option linter.unusedSimpArgs false
namespace Go.Pt
open Go Go.Pm

theorem T_slotted {c : aCode} (hc : Bd c) : T (code_look_slotted ⟨c⟩) := by
  unfold code_look_slotted
  rw [CFi_eq]
  refine T_ite (fun _ => T_some) fun _ => T_bind (CF_T hc.slots fun x _ => ?_) fun _ _ => T_ite (fun _ => T_some) fun _ => T_ite (fun _ => T_some) fun _ => T_ite (fun _ => T_some) fun _ =>
    T_bind (T_own hc.meta_) fun t9 h9 => T_ite (fun _ => T_some) fun hb9 => ?_
  · unfold code_look_slotted_1; exact T_ite (fun _ => T_some) fun _ => T_some
  obtain ⟨b, m⟩ := t9
  have : b = true := by cases b <;> simp_all
  subst this
  obtain ⟨hm, _, _, _⟩ := own_slots hc.meta_ h9
  refine T_bind (T_idx (by omega) (by simp only; omega)) fun _ _ => T_bind (T_wide _ _ _) fun _ _ => T_ite (fun _ => T_some) fun _ => T_bind (T_idx (by omega) (by simp only; omega)) fun _ _ => T_bind (T_wide _ _ _) fun _ _ => T_ite (fun _ => T_some) fun _ => T_bind ?_ fun e _ => T_elim (fun _ _ => T_some) fun s1 _ => T_bind ?_ fun _ _ => T_some
  · have key : ∀ (k : Nat) (i : Int) (m : List (Int × Int)), 0 ≤ i → ((c.Heads.length : Int) - i).toNat < k → T (code_look_slotted.l1 k ⟨c⟩ i m) := by
      intro k
      induction k with
      | zero => intro i m _ hk; omega
      | succ k ih =>
        intro i m h0 hk
        rw [code_look_slotted.l1]
        refine T_ite (fun hi => ?_) (fun _ => T_some)
        have hi := of_decide_eq_true hi
        simp only at hi
        refine T_bind (T_idx h0 hi) fun h hh => T_bind (T_own (hc.head h (idx_mem hh))) fun t25 h25 => T_ite (fun _ => T_some) fun hb => T_bind ?_ fun _ _ => T_ite (fun _ => T_some) fun _ => ?_
        · obtain ⟨b, m'⟩ := t25
          have : b = true := by cases b <;> simp_all
          subst this
          obtain ⟨_, _, hsl, _⟩ := own_slots (hc.head h (idx_mem hh)) h25
          have hl := hc.head h (idx_mem hh)
          have key2 : ∀ (k : Nat) (v i : Int), 0 ≤ i → ((h.Slots.length : Int) - i).toNat < k → T (code_look_slotted.l2 k ⟨c⟩ h v i) := by
            intro k
            induction k with
            | zero => intro v i _ hk; omega
            | succ k ih2 =>
              intro v i h0 hk
              rw [code_look_slotted.l2]
              refine T_ite (fun hi => ?_) (fun _ => T_some)
              have hi := of_decide_eq_true hi
              refine T_bind (T_idx h0 hi) fun n hn => T_bind (slot_idx (hsl n (idx_mem hn))) fun _ _ => ?_
              rw [wrap_add h0 hi hl]
              exact ih2 _ (i + 1) (by omega) (by omega)
          exact key2 _ 0 0 (by omega) (by omega)
        · rw [wrap_add h0 hi hc.heads]
          exact ih (i + 1) _ (by omega) (by omega)
    exact key _ 0 m (by omega) (by first | omega | (simp only; omega))
  · unfold slices_ContainsFunc
    refine T_bind ?_ fun _ _ => T_some
    unfold slices_IndexFunc
    refine T_bind ?_ fun _ _ => T_elim (fun _ _ => T_some) (fun _ _ => T_some)
    have key : ∀ (k : Nat) (i : Int) (m : List (Int × Int)), 0 ≤ i → ((c.Acts.length : Int) - i).toNat < k → T (slices_IndexFunc.l1 k c.Acts ⟨c⟩ i m) := by
      intro k
      induction k with
      | zero => intro i m _ hk; omega
      | succ k ih =>
        intro i m h0 hk
        rw [slices_IndexFunc.l1]
        refine T_ite (fun hi => ?_) (fun _ => T_some)
        have hi := of_decide_eq_true hi
        refine T_bind (T_idx h0 hi) fun a ha => T_bind ?_ fun _ _ => T_ite (fun _ => T_some) fun _ => ?_
        · unfold code_look_slotted_2
          exact T_bind (T_own (hc.act a (idx_mem ha)).1) fun _ _ => T_some
        · rw [wrap_add h0 hi hc.acts]
          exact ih (i + 1) _ (by omega) (by omega)
    exact key _ 0 s1 (by omega) (by first | omega | (simp only; omega))

theorem T_Check {c : aCode} (hc : Bd c) : T (code_Check c) := by
  unfold code_Check
  refine T_bind ?_ fun s1 _ => T_bind ?_ fun s2 _ => T_bind ?_ fun s3 _ => T_ite (fun _ => T_some) fun _ => T_ite (fun _ => T_some) fun _ => T_ite (fun _ => T_some) fun _ => T_ite (fun _ => T_some) fun _ =>
    T_bind (T_slotted hc) fun _ _ => T_ite (fun _ => T_some) fun _ => T_bind (T_once hc.emits) fun _ _ => T_ite (fun _ => T_some) fun _ => T_bind (CF_T hc.arrays fun a _ => ?_) fun _ _ => T_ite (fun _ => T_some) fun _ =>
    T_bind (CF_T hc.states fun n hn => ?_) fun _ _ => T_ite (fun _ => T_some) fun _ => T_bind (CF_T hc.tables fun t ht => ?_) fun _ _ => T_ite (fun _ => T_some) fun _ => T_bind (CF_T hc.acts fun a ha => ?_) fun _ _ => T_ite (fun _ => T_some) fun _ =>
    T_bind (T_code hc.main) fun _ _ => T_ite (fun _ => T_some) fun _ => T_some
  · have key : ∀ (k : Nat) (v i : Int), 0 ≤ i → ((c.Acts.length : Int) - i).toNat < k → T (code_Check.l1 k c v i) := by
      intro k
      induction k with
      | zero => intro v i _ hk; omega
      | succ k ih =>
        intro v i h0 hk
        rw [code_Check.l1]
        refine T_ite (fun hi => ?_) (fun _ => T_some)
        have hi := of_decide_eq_true hi
        rw [wrap_add h0 hi hc.acts]
        exact T_bind (T_idx h0 hi) fun _ _ => ih _ (i + 1) (by omega) (by omega)
    exact key _ _ 0 (by omega) (by omega)
  · have key : ∀ (k : Nat) (v i : Int), 0 ≤ i → ((c.States.length : Int) - i).toNat < k → T (code_Check.l2 k c v i) := by
      intro k
      induction k with
      | zero => intro v i _ hk; omega
      | succ k ih =>
        intro v i h0 hk
        rw [code_Check.l2]
        refine T_ite (fun hi => ?_) (fun _ => T_some)
        have hi := of_decide_eq_true hi
        rw [wrap_add h0 hi hc.states]
        exact T_bind (T_idx h0 hi) fun _ _ => ih _ (i + 1) (by omega) (by omega)
    exact key _ _ 0 (by omega) (by omega)
  · have key : ∀ (k : Nat) (v i : Int), 0 ≤ i → ((c.Tables.length : Int) - i).toNat < k → T (code_Check.l3 k c v i) := by
      intro k
      induction k with
      | zero => intro v i _ hk; omega
      | succ k ih =>
        intro v i h0 hk
        rw [code_Check.l3]
        refine T_ite (fun hi => ?_) (fun _ => T_some)
        have hi := of_decide_eq_true hi
        rw [wrap_add h0 hi hc.tables]
        exact T_bind (T_idx h0 hi) fun _ _ => ih _ (i + 1) (by omega) (by omega)
    exact key _ _ 0 (by omega) (by omega)
  · unfold code_Check_1 code_array
    exact T_bind (T_ite (fun _ => T_ite (fun _ => T_some) fun _ => T_some) fun _ => T_ite (fun _ => T_some) fun _ => T_ite (fun _ => T_some) fun _ => T_some) fun _ _ => T_some
  · unfold code_Check_2
    have := hc.state n hn
    exact T_bind (T_node this.1 this.2.1 this.2.2) fun _ _ => T_some
  · unfold code_Check_3
    have := hc.table t ht
    exact T_bind (T_table this.1 this.2.1 this.2.2.1 this.2.2.2.1 this.2.2.2.2) fun _ _ => T_some
  · unfold code_Check_4
    exact T_bind (T_code (hc.act a ha).2) fun _ _ => T_some

theorem lives_true : pointsmanlaw12_lives = some true := by decide +kernel
end Go.Pt
