import Derived.Test.YtpaggjifaelcnaaGreatPL16
/-
  CodeParts, the plain law, 17: the law.
-/
set_option linter.unusedVariables false
set_option linter.unusedSimpArgs false
namespace Go.Pt
open Go Go.Pm

def RelT (l l' : List aTable) : Prop := l'.length = l.length ∧ ∀ (i : Nat) t', l'[i]? = some t' → ∃ t, l[i]? = some t ∧ t' = { t with Before := t'.Before } ∧ (t'.Before = t.Before ∨ t'.Before = [])
def RelA (l l' : List aAct) : Prop := l'.length = l.length ∧ ∀ (i : Nat) a', l'[i]? = some a' → ∃ a, l[i]? = some a ∧ a'.Params = a.Params ∧ (a'.Code = a.Code ∨ a'.Code = [])
theorem RelT.refl (l) : RelT l l := ⟨rfl, fun i t h => ⟨t, h, rfl, .inl rfl⟩⟩
theorem RelA.refl (l) : RelA l l := ⟨rfl, fun i t h => ⟨t, h, rfl, .inl rfl⟩⟩
theorem loopT {l : List aTable} (hl : (l.length : Int) ≤ maxL) : ∀ (k : Nat) (i : Int) (cur : List aTable), 0 ≤ i → ((cur.length : Int) - i).toNat < k → RelT l cur → ∃ s, pointsmanlaw12_CodeParts.l3 k i cur = some s ∧ RelT l s
  | 0, i, cur, _, hk, _ => by omega
  | k + 1, i, cur, h0, hk, hr => by
    rw [pointsmanlaw12_CodeParts.l3]
    by_cases hi : i < (cur.length : Int)
    · rw [if_pos (by simpa using hi)]
      obtain ⟨x, hx⟩ := T_idx h0 hi
      rw [hx, Option.bind_some, wrap_add h0 hi (by rw [hr.1]; exact hl)]
      refine loopT hl k (i + 1) _ (by omega) (by simp; omega) ⟨by simp [hr.1], fun j t' hj => ?_⟩
      rw [List.getElem?_set] at hj
      split at hj
      · rename_i hij
        split at hj
        · cases hj
          subst hij
          obtain ⟨t, q1, q2, q3⟩ := hr.2 _ x (idx_some hx).2.2
          refine ⟨t, q1, ?_, .inr rfl⟩
          rw [q2]
        · cases hj
      · exact hr.2 j t' hj
    · rw [if_neg (by simpa using hi)]; exact ⟨cur, rfl, hr⟩
theorem loopA {l : List aAct} (hl : (l.length : Int) ≤ maxL) : ∀ (k : Nat) (i : Int) (cur : List aAct), 0 ≤ i → ((cur.length : Int) - i).toNat < k → RelA l cur → ∃ s, pointsmanlaw12_CodeParts.l4 k i cur = some s ∧ RelA l s
  | 0, i, cur, _, hk, _ => by omega
  | k + 1, i, cur, h0, hk, hr => by
    rw [pointsmanlaw12_CodeParts.l4]
    by_cases hi : i < (cur.length : Int)
    · rw [if_pos (by simpa using hi)]
      obtain ⟨x, hx⟩ := T_idx h0 hi
      rw [hx, Option.bind_some, wrap_add h0 hi (by rw [hr.1]; exact hl)]
      refine loopA hl k (i + 1) _ (by omega) (by simp; omega) ⟨by simp [hr.1], fun j t' hj => ?_⟩
      rw [List.getElem?_set] at hj
      split at hj
      · rename_i hij
        split at hj
        · cases hj
          subst hij
          obtain ⟨t, q1, q2, q3⟩ := hr.2 _ x (idx_some hx).2.2
          exact ⟨t, q1, q2, .inr rfl⟩
        · cases hj
      · exact hr.2 j t' hj
    · rw [if_neg (by simpa using hi)]; exact ⟨cur, rfl, hr⟩
theorem l1_eq : ∀ (k : Nat) (i : Int) (cur : List aTable), pointsmanlaw12_CodeParts.l1 k i cur = pointsmanlaw12_CodeParts.l3 k i cur
  | 0, _, _ => rfl
  | k + 1, i, cur => by rw [pointsmanlaw12_CodeParts.l1, pointsmanlaw12_CodeParts.l3]; simp only [l1_eq k]
theorem l2_eq : ∀ (k : Nat) (i : Int) (cur : List aAct), pointsmanlaw12_CodeParts.l2 k i cur = pointsmanlaw12_CodeParts.l4 k i cur
  | 0, _, _ => rfl
  | k + 1, i, cur => by rw [pointsmanlaw12_CodeParts.l2, pointsmanlaw12_CodeParts.l4]; simp only [l2_eq k]

theorem bd_ext {c : aCode} (hc : Bd c) {sl : List Int} {m : List aIns} {as : List aAct} {ts : List aTable} (hs : (sl.length : Int) ≤ maxL) (hm : m = c.Main ∨ m = []) (ha : RelA c.Acts as) (ht : RelT c.Tables ts) : Bd ⟨sl, c.Heads, c.Meta, c.States, m, as, ts, c.Emits, c.Arrays⟩ where
  slots := hs
  heads := hc.heads
  head := hc.head
  meta_ := hc.meta_
  states := hc.states
  state := hc.state
  main := by rcases hm with rfl | rfl; exact hc.main; exact ⟨by simp [maxL], by simp⟩
  acts := by show (as.length : Int) ≤ maxL; rw [ha.1]; exact hc.acts
  act a' h' := by
    obtain ⟨i, hi⟩ := List.mem_iff_getElem?.1 h'
    obtain ⟨a, q1, q2, q3⟩ := ha.2 i a' hi
    have := hc.act a (List.mem_of_getElem? q1)
    refine ⟨by rw [q2]; exact this.1, ?_⟩
    rcases q3 with h | h
    · rw [h]; exact this.2
    · rw [h]; exact ⟨by simp [maxL], by simp⟩
  tables := by show (ts.length : Int) ≤ maxL; rw [ht.1]; exact hc.tables
  table t' h' := by
    obtain ⟨i, hi⟩ := List.mem_iff_getElem?.1 h'
    obtain ⟨t, q1, q2, q3⟩ := ht.2 i t' hi
    have := hc.table t (List.mem_of_getElem? q1)
    have hb : codeBd t'.Before := by
      rcases q3 with h | h
      · rw [h]; exact this.2.2.2.2
      · rw [h]; exact ⟨by simp [maxL], by simp⟩
    rw [q2]
    exact ⟨this.1, this.2.1, this.2.2.1, this.2.2.2.1, hb⟩
  emits := hc.emits
  arrays := hc.arrays
theorem ext_of {c : aCode} {sl t : List Int} {m : List aIns} {as : List aAct} {ts : List aTable} (hs : sl = c.Slots ++ t) (ht : ∀ w ∈ t, 1 ≤ w ∧ w ≤ 128) (hl : sl.length ≤ 65536) (hm : m = c.Main ∨ m = []) (ha : RelA c.Acts as) (hT : RelT c.Tables ts) : Ext c ⟨sl, c.Heads, c.Meta, c.States, m, as, ts, c.Emits, c.Arrays⟩ :=
  ⟨⟨t, hs, ht⟩, hl, rfl, rfl, rfl, rfl, rfl, hm, ha.1, ha.2, hT.1, hT.2⟩
end Go.Pt
