import Derived.Test.YtpaggjifaelcnaaGreatPL11
/-
  CodeParts, the plain law, 12: likewise: code, nodes, tables.
-/
set_option linter.unusedVariables false
set_option linter.unusedSimpArgs false
namespace Go.Pt
open Go Go.Pm

theorem code_rt {l : code_look} {s : List aIns} {p m : Bool} {rows : List code_row} : ∀ (k : Nat) (i : Int) (r : Bool), code_look_code.l1 k l s p m rows i = some (.rt r) → r = false
  | 0, i, r, h => by simp [code_look_code.l1] at h
  | k + 1, i, r, h => by
    rw [code_look_code.l1] at h
    split at h
    · obtain ⟨t4, _, h⟩ := bs h
      split at h
      · simp at h; exact h
      · split at h
        · obtain ⟨_, _, h⟩ := bs h
          split at h
          · simp at h; exact h
          · obtain ⟨_, _, h⟩ := bs h
            obtain ⟨_, _, h⟩ := bs h
            obtain ⟨_, _, h⟩ := bs h
            split at h
            · simp at h; exact h
            · obtain ⟨_, _, h⟩ := bs h
              obtain ⟨_, _, h⟩ := bs h
              obtain ⟨_, _, h⟩ := bs h
              split at h
              · simp at h; exact h
              · exact code_rt k _ r h
        · obtain ⟨_, _, h⟩ := bs h
          obtain ⟨_, _, h⟩ := bs h
          obtain ⟨_, _, h⟩ := bs h
          split at h
          · simp at h; exact h
          · obtain ⟨_, _, h⟩ := bs h
            obtain ⟨_, _, h⟩ := bs h
            obtain ⟨_, _, h⟩ := bs h
            split at h
            · simp at h; exact h
            · exact code_rt k _ r h
    · simp at h
section
variable {c c' : aCode} (e : Ext c c')
include e
theorem x_codel {s : List aIns} {p m : Bool} (hs : ∀ x ∈ s, insBd x) : ∀ (k : Nat) (i : Int), code_look_code.l1 k ⟨c⟩ s p m rowL i = some (.go ()) → code_look_code.l1 k ⟨c'⟩ s p m rowL i = some (.go ())
  | 0, i, h => by simp [code_look_code.l1] at h
  | k + 1, i, h => by
    rw [code_look_code.l1] at h ⊢
    split at h <;> rename_i h1
    · rw [if_pos h1]
      obtain ⟨t4, ht4, h⟩ := bs h
      rw [ht4, Option.bind_some]
      split at h <;> rename_i h2
      · simp at h
      · rw [if_neg h2]
        have step : ∀ {r r2 : code_row} {x x2 : aIns} {b1 b2 : Bool}, idx rowL t4 = some r2 → idx s i = some x2 → r2.fine (⟨c⟩, x2, ⟨i, (s.length : Int), m⟩) = some b2 → ¬ (!b2) = true → r2.fine (⟨c'⟩, x2, ⟨i, (s.length : Int), m⟩) = some true := by
          intro r r2 x x2 b1 b2 hr hx hb hb2
          have : b2 = true := by cases b2 <;> simp_all
          subst this
          exact x_row e r2 (idx_mem hr) x2 _ (hs x2 (idx_mem hx)) hb
        have tail : ∀ (r : code_row) (x : aIns), idx rowL t4 = some r → idx s i = some x →
            ((code_zero x r.has).bind fun t29 => if (!t29) = true then (some (.rt false)) else ((idx rowL t4).bind fun t32 => (idx s i).bind fun t34 => (t32.fine (⟨c⟩, t34, (code_place.mk i (s.length : Int) m))).bind fun t36 => if (!t36) = true then (some (Ex.rt false : Ex Bool Unit)) else (code_look_code.l1 k ⟨c⟩ s p m rowL (IntKind.wrap .i64 (i + 1))))) = some (.go ()) →
            ((code_zero x r.has).bind fun t29 => if (!t29) = true then (some (.rt false)) else ((idx rowL t4).bind fun t32 => (idx s i).bind fun t34 => (t32.fine (⟨c'⟩, t34, (code_place.mk i (s.length : Int) m))).bind fun t36 => if (!t36) = true then (some (Ex.rt false : Ex Bool Unit)) else (code_look_code.l1 k ⟨c'⟩ s p m rowL (IntKind.wrap .i64 (i + 1))))) = some (.go ()) := by
          intro r x hr hx q1
          rw [hr, hx] at q1 ⊢
          obtain ⟨z, hz, q2⟩ := bs q1
          rw [hz, Option.bind_some]
          split at q2 <;> rename_i h5
          · simp at q2
          · rw [if_neg h5]
            rw [Option.bind_some, Option.bind_some] at q2 ⊢
            obtain ⟨b, hb, q3⟩ := bs q2
            split at q3 <;> rename_i h6
            · simp at q3
            · rw [step (r := r) (x := x) (b1 := b) hr hx hb h6, Option.bind_some, if_neg (by simp)]
              exact x_codel hs k _ q3
        split at h <;> rename_i h3
        · rw [if_pos h3]
          obtain ⟨r, hr, q1⟩ := bs h
          rw [hr, Option.bind_some]
          split at q1 <;> rename_i h4
          · simp at q1
          · rw [if_neg h4]
            obtain ⟨x, hx, q2⟩ := bs q1
            rw [hx, Option.bind_some, Option.bind_some]
            rw [hr, Option.bind_some] at q2
            have := tail r x hr hx (by rw [hr, hx]; rw [hx] at q2; exact q2)
            rw [hr, hx] at this; exact this
        · rw [if_neg h3]
          obtain ⟨x, hx, q2⟩ := bs h
          obtain ⟨r, hr, q3⟩ := bs q2
          rw [hx, Option.bind_some, hr, Option.bind_some]
          have := tail r x hr hx (by rw [hr, hx]; rw [hr, hx] at q3; exact q3)
          rw [hr, hx] at this; exact this
    · rw [if_neg h1]
theorem x_code {s : List aIns} {p m : Bool} (hs : ∀ x ∈ s, insBd x) (h : code_look_code ⟨c⟩ s p m = some true) : code_look_code ⟨c'⟩ s p m = some true := by
  unfold code_look_code at h ⊢
  rw [rows_eq, Option.bind_some] at h ⊢
  obtain ⟨ex, hex, h⟩ := bs h
  cases ex with
  | rt r => have := code_rt _ _ _ hex; subst this; simp [Ex.elim] at h
  | go u => rw [x_codel e hs _ _ hex]; rfl
end
theorem code_nil {l : code_look} {p m : Bool} : code_look_code l [] p m = some true := by
  unfold code_look_code
  rw [rows_eq, Option.bind_some]
  have : code_look_code.l1 ((([] : List aIns).length : Int) - (0 : Int)).toNat.succ l [] p m rowL 0 = some (.go ()) := by
    rw [code_look_code.l1]; simp
  rw [show ((([] : List aIns).length : Int) - (0 : Int)).toNat + 1 = ((([] : List aIns).length : Int) - (0 : Int)).toNat.succ from rfl, this]; rfl
end Go.Pt
