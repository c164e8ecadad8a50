import Derived.Test.YtpaggjifaelcnaaGreatPL4
/-
  CodeParts, the plain law, 5: slots, nodes, tables, all: each answers.
-/
set_option linter.unusedVariables false
set_option linter.unusedSimpArgs false
namespace Go.Pt
open Go Go.Pm

theorem T_own {l : code_look} {seen : List (Int × Int)} {s : List Int} {a b : Int} (hl : (s.length : Int) ≤ maxL) : T (code_look_own l seen s a b) := by
  unfold code_look_own
  refine T_ite (fun _ => T_some) fun _ => T_ite (fun _ => T_some) fun _ => T_bind (T_slots hl) fun _ _ => T_ite (fun _ => T_some) fun _ => T_bind ?_ fun _ _ => T_elim (fun _ _ => T_some) (fun _ _ => T_some)
  have key : ∀ (k : Nat) (i : Int) (m : List (Int × Int)), 0 ≤ i → ((s.length : Int) - i).toNat < k → T (code_look_own.l1 k s i m) := by
    intro k
    induction k with
    | zero => intro i m _ hk; omega
    | succ k ih =>
      intro i m h0 hk
      rw [code_look_own.l1]
      refine T_ite (fun hi => ?_) (fun _ => T_some)
      have hi := of_decide_eq_true hi
      refine T_bind (T_idx h0 hi) fun x hx => T_ite (fun _ => T_some) fun _ => ?_
      rw [wrap_add h0 hi hl]
      exact ih (i + 1) _ (by omega) (by omega)
  exact key _ 0 seen (by omega) (by omega)
theorem own_slots {l : code_look} {seen m : List (Int × Int)} {s : List Int} {a b : Int} (hl : (s.length : Int) ≤ maxL) (h : code_look_own l seen s a b = some (true, m)) :
    a ≤ s.length ∧ (s.length : Int) ≤ b ∧ (∀ x ∈ s, code_look_slot l x = some true) ∧ ((code_look_own.l1 (((s.length : Int) - (0 : Int)).toNat + 1) s (0 : Int) seen).bind fun e => e.elim (fun r => some r) (fun s1_ => some (true, s1_))) = some (true, m) := by
  unfold code_look_own at h
  split at h
  · simp at h
  · rename_i h1
    split at h
    · simp at h
    · rename_i h2
      obtain ⟨y, hy, h⟩ := bs h
      split at h
      · simp at h
      · rename_i hb
        have : y = true := by cases y <;> simp_all
        subst this
        simp at h1 h2
        exact ⟨h1, h2, (slots_true hl).1 hy, h⟩
theorem T_once {l : List Int} {n : Int} (hl : (l.length : Int) ≤ maxL) : T (code_once l n) := by
  unfold code_once
  refine T_bind ?_ fun _ _ => T_elim (fun _ _ => T_some) (fun _ _ => T_some)
  have key : ∀ (k : Nat) (i : Int), 0 ≤ i → ((l.length : Int) - i).toNat < k → T (code_once.l1 k l n i) := by
    intro k
    induction k with
    | zero => intro i _ hk; omega
    | succ k ih =>
      intro i h0 hk
      rw [code_once.l1]
      refine T_ite (fun hi => ?_) (fun _ => T_some)
      have hi := of_decide_eq_true hi
      have hsl : slc l 0 i = some ((l.take i.toNat).drop 0) := by unfold slc; rw [if_pos (by omega)]; rfl
      refine T_bind (T_idx h0 hi) fun x hx => T_bind (T_within _ _) fun _ _ => T_ite (fun _ => T_some) fun _ => T_bind ⟨_, hsl⟩ fun z hz => T_bind (Cn_T ?_) fun _ _ => T_ite (fun _ => T_some) fun _ => ?_
      · rw [hsl] at hz; cases hz
        simp; omega
      · rw [wrap_add h0 hi hl]
        exact ih (i + 1) (by omega) (by omega)
  exact key _ 0 (by omega) (by omega)

/-- Code of which no list is too long. -/
structure Bd (c : aCode) : Prop where
  slots : (c.Slots.length : Int) ≤ maxL
  heads : (c.Heads.length : Int) ≤ maxL
  head : ∀ h ∈ c.Heads, (h.Slots.length : Int) ≤ maxL
  meta_ : (c.Meta.length : Int) ≤ maxL
  states : (c.States.length : Int) ≤ maxL
  state : ∀ s ∈ c.States, (s.Heads.length : Int) ≤ maxL ∧ codeBd s.Code ∧ (s.Cases.length : Int) ≤ maxL
  main : codeBd c.Main
  acts : (c.Acts.length : Int) ≤ maxL
  act : ∀ a ∈ c.Acts, (a.Params.length : Int) ≤ maxL ∧ codeBd a.Code
  tables : (c.Tables.length : Int) ≤ maxL
  table : ∀ t ∈ c.Tables, (t.Keys.length : Int) ≤ maxL ∧ (t.Kinds.length : Int) ≤ maxL ∧ (t.Actions.length : Int) ≤ maxL ∧ (t.Args.length : Int) ≤ maxL ∧ codeBd t.Before
  emits : (c.Emits.length : Int) ≤ maxL
  arrays : (c.Arrays.length : Int) ≤ maxL

theorem T_node {l : code_look} {n : aNode} (h1 : (n.Heads.length : Int) ≤ maxL) (h2 : codeBd n.Code) (h3 : (n.Cases.length : Int) ≤ maxL) : T (code_look_node l n) := by
  unfold code_look_node
  have hto : ∀ k, T (code_look_node_1 k l) := fun k => by unfold code_look_node_1; exact T_ite (fun _ => T_some) fun _ => T_some
  have hc : T (slices_ContainsFunc_17 n.Cases (fun x_ : aJump => code_look_node_3 x_ (fun x_ : Int => code_look_node_1 x_ l) l n)) := CF_T h3 fun j _ => by
    unfold code_look_node_3
    exact T_bind (hto _) fun _ _ => T_ite (fun _ => T_some) fun _ => T_bind (T_bCheck _) fun _ _ => T_ite (fun _ => T_some) fun _ => T_bind (T_bCheck _) fun _ _ => T_ite (fun _ => T_some) fun _ => T_bind (T_wide _ _ _) fun _ _ => T_ite (fun _ => T_some) fun _ => T_bind (T_wide _ _ _) fun _ _ => T_some
  rw [CFi_eq]
  have e1 : T ((slices_ContainsFunc_17 n.Cases (fun x_ : aJump => code_look_node_3 x_ (fun x_ : Int => code_look_node_1 x_ l) l n)).bind fun t => some (!t)) := T_bind hc fun _ _ => T_some
  refine T_bind (CF_T h1 fun x _ => ?_) fun _ _ => T_ite (fun _ => T_some) fun _ => T_bind (T_code h2) fun _ _ => T_ite (fun _ => T_some) fun _ => T_bind (hto _) fun _ _ => T_ite (fun _ => T_some) fun _ =>
    T_ite (fun _ => T_bind (T_slot _ _) fun _ _ => T_ite (fun _ => T_some) fun _ => T_ite (fun _ => T_ite (fun _ => T_some) fun _ => e1) fun _ => e1) fun _ => T_ite (fun _ => T_ite (fun _ => T_some) fun _ => e1) fun _ => e1
  unfold code_look_node_2; exact T_bind (T_head _ _) fun _ _ => T_some

theorem once_mem {l : List Int} {n x : Int} (hl : (l.length : Int) ≤ maxL) (h : code_once l n = some true) (hx : x ∈ l) : code_within x n = some true := by
  unfold code_once at h
  have key : ∀ (k : Nat) (i : Int), 0 ≤ i → code_once.l1 k l n i = some (.go ()) → ∀ x ∈ l.drop i.toNat, code_within x n = some true := by
    intro k
    induction k with
    | zero => intro i _ h; simp [code_once.l1] at h
    | succ k ih =>
      intro i h0 h
      rw [code_once.l1] at h
      split at h
      · rename_i hi
        have hi := of_decide_eq_true hi
        obtain ⟨y, hy, h⟩ := bs h
        obtain ⟨b, hb, h⟩ := bs h
        split at h
        · simp at h
        · rename_i hbt
          have : b = true := by cases b <;> simp_all
          subst this
          obtain ⟨z, hz, h⟩ := bs h
          obtain ⟨c, hc, h⟩ := bs h
          split at h
          · simp at h
          · rw [wrap_add h0 hi hl] at h
            rw [drop_idx hy]
            intro x hx
            rcases List.mem_cons.1 hx with rfl | hx
            · exact hb
            · exact ih (i + 1) (by omega) h x hx
      · rename_i hi
        have hi : ¬ i < (l.length : Int) := by simpa using hi
        rw [drop_end hi]; simp
  obtain ⟨e, he, h⟩ := bs h
  cases e with
  | rt r =>
    -- the loop's early answer is 'false'
    have : ∀ (k : Nat) (i : Int) (r : Bool), code_once.l1 k l n i = some (.rt r) → r = false := by
      intro k
      induction k with
      | zero => intro i r h; simp [code_once.l1] at h
      | succ k ih =>
        intro i r h
        rw [code_once.l1] at h
        split at h
        · obtain ⟨y, hy, h⟩ := bs h
          obtain ⟨b, hb, h⟩ := bs h
          split at h
          · simp at h; exact h
          · obtain ⟨z, hz, h⟩ := bs h
            obtain ⟨c, hc, h⟩ := bs h
            split at h
            · simp at h; exact h
            · exact ih _ _ h
        · simp at h
    have := this _ _ _ he
    subst this; simp [Ex.elim] at h
  | go u => exact key _ 0 (by omega) he x (by simpa using hx)

theorem T_table {l : code_look} {t : aTable} (h1 : (t.Keys.length : Int) ≤ maxL) (h2 : (t.Kinds.length : Int) ≤ maxL) (h3 : (t.Actions.length : Int) ≤ maxL) (h4 : (t.Args.length : Int) ≤ maxL) (h5 : codeBd t.Before) : T (code_look_table l t) := by
  unfold code_look_table
  refine T_bind ?_ fun e _ => T_elim (fun _ _ => T_some) (fun s1 _ => T_ite (fun _ => T_some) fun _ => T_ite (fun _ => T_some) fun _ => T_ite (fun _ => T_some) fun _ => T_bind (T_slots h1) fun _ _ => T_ite (fun _ => T_some) fun _ => T_bind (T_code h5) fun _ _ => T_ite (fun _ => T_some) fun _ => T_ite (fun _ => T_some) fun _ => T_ite (fun _ => T_some) fun _ =>
    T_bind (T_once h3) fun y hy => T_ite (fun _ => T_some) fun hb => T_bind (Cn_T h3) fun z hz => T_ite (fun _ => T_some) fun hc => ?_)
  · have key : ∀ (k : Nat) (i v : Int), 0 ≤ i → ((t.Kinds.length : Int) - i).toNat < k → T (code_look_table.l1 k t v i) := by
      intro k
      induction k with
      | zero => intro i v _ hk; omega
      | succ k ih =>
        intro i v h0 hk
        rw [code_look_table.l1]
        refine T_ite (fun hi => ?_) (fun _ => T_some)
        have hi := of_decide_eq_true hi
        rw [wrap_add h0 hi h2]
        exact T_bind (T_idx h0 hi) fun _ _ => T_ite (fun _ => T_some) fun _ => T_ite (fun _ => T_some) fun _ => T_ite (fun _ => ih (i + 1) _ (by omega) (by omega)) fun _ => ih (i + 1) _ (by omega) (by omega)
    exact key _ 0 0 (by omega) (by omega)
  · have : y = true := by cases y <;> simp_all
    subst this
    have : z = true := by cases z <;> simp_all
    subst this
    refine T_bind (within_idx (once_mem h3 hy (Cn_true hz))) fun _ _ => T_bind (EBunc_T h4 fun b _ n _ => ?_) fun _ _ => T_some
    unfold code_look_table_1; exact T_bind (T_bCheck _) fun _ _ => T_ite (fun _ => T_bind (T_wide _ _ _) fun _ _ => T_some) fun _ => T_some
end Go.Pt
