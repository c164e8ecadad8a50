import Derived.Test.YtpaggjifaelcnaaGreatPL2
/-
  CodeParts, the plain law, 3: numbers, slots, rows: each answers.
-/
set_option linter.unusedVariables false
set_option linter.unusedSimpArgs false
namespace Go.Pt
open Go Go.Pm

theorem slot_eq (l : code_look) (n : Int) : code_look_slot l n = some (decide (0 ≤ n) && decide (n < l.c.Slots.length)) := by
  unfold code_look_slot; rw [within_eq]; rfl
theorem head_eq (l : code_look) (n : Int) : code_look_head l n = some (decide (0 ≤ n) && decide (n < l.c.Heads.length)) := by
  unfold code_look_head; rw [within_eq]; rfl
theorem T_slot (l n) : T (code_look_slot l n) := ⟨_, slot_eq l n⟩
theorem T_head (l n) : T (code_look_head l n) := ⟨_, head_eq l n⟩
theorem T_within (n m) : T (code_within n m) := ⟨_, within_eq n m⟩
theorem slot_idx {l : code_look} {n : Int} (h : code_look_slot l n = some true) : T (idx l.c.Slots n) := by
  rw [slot_eq] at h
  simp at h
  exact T_idx h.1 h.2
theorem T_wide (l n w) : T (code_look_wide l n w) := by
  unfold code_look_wide
  exact T_bind (T_slot l n) fun y hy => T_ite (fun hb => T_bind (slot_idx (hb ▸ hy)) fun _ _ => T_some) (fun _ => T_some)
theorem T_array (l n k) : T (code_look_array l n k) := by
  unfold code_look_array
  refine T_bind (T_within _ _) fun y hy => T_ite (fun hb => ?_) (fun _ => T_some)
  rw [within_eq] at hy
  cases hy
  simp at hb
  exact T_bind (T_idx hb.1 hb.2) fun _ _ => T_some
theorem array_idx {l : code_look} {n k : Int} (h : code_look_array l n k = some true) : T (idx l.c.Arrays n) := by
  unfold code_look_array at h
  rw [within_eq, Option.bind_some] at h
  split at h
  · rename_i hb; simp at hb; exact T_idx hb.1 hb.2
  · simp at h
theorem T_slots1 (n l) : T (code_look_slots_1 n l) := by
  unfold code_look_slots_1; exact T_bind (T_slot l n) fun _ _ => T_some
theorem T_slots {l : code_look} {s : List Int} (hl : (s.length : Int) ≤ maxL) : T (code_look_slots l s) := by
  unfold code_look_slots; rw [CFi_eq]
  exact T_bind (CF_T hl fun x _ => T_slots1 x l) fun _ _ => T_some
/-! numbers -/
theorem T_bwide (w) : T (bits_wide w) := by unfold bits_wide; exact T_ite (fun _ => T_some) (fun _ => T_some)
theorem bwide_true {w : Int} (h : bits_wide w = some true) : 1 ≤ w ∧ w ≤ 128 := by
  unfold bits_wide at h
  split at h
  · rename_i hb; simp at hb h; exact ⟨hb, h⟩
  · simp at h
theorem T_cut {w hi lo : Int} (h : 0 ≤ w) (h2 : w ≤ 4611686018427387904) : T (bits_cut w hi lo) := by
  unfold bits_cut
  refine T_ite (fun _ => ?_) (fun hb => ?_)
  · rw [if_pos (by simpa using h)]; exact T_some
  · have hb := of_decide_eq_false hb
    have : IntKind.wrap .i64 (w - 64) = w - 64 := by
      have := wrap_add (i := w - 65) (n := w - 64) 
      by_cases h65 : 65 ≤ w
      · have := wrap_add (i := w - 65) (n := w - 64) (by omega) (by omega) (by omega)
        rwa [show w - 65 + 1 = w - 64 by omega] at this
      · have : w = 64 := by omega
        subst this; decide
    rw [this, if_pos (by simp; omega)]; exact T_some
theorem T_bCheck (b) : T (bits_Check b) := by
  unfold bits_Check
  refine T_bind (T_bwide _) fun y hy => T_ite (fun hb => ?_) (fun _ => T_some)
  have := bwide_true (hb ▸ hy)
  exact T_bind (T_cut (by omega) (by omega)) fun _ _ => T_some
theorem T_one (b) : T (bits_one b) := by unfold bits_one; exact T_ite (fun _ => T_some) (fun _ => T_some)
theorem T_below {a b : aBits} (ha : a.Hi = 0 ∧ a.Lo = 0) (hb : b.Hi = 0 ∧ b.Lo = 0) : T (bits_below a b) := by
  unfold bits_below
  rw [ha.1, ha.2, hb.1, hb.2]
  exact ⟨_, rfl⟩
theorem T_by {b : aBits} (hb : b.Hi = 0 ∧ b.Lo = 0) : bits_by b = some 0 := by
  unfold bits_by; rw [hb.1, hb.2]; rfl
theorem wrap64 {n : Int} (h : 0 ≤ n) (h2 : n < 18446744073709551616) : IntKind.wrap .u64 n = n := by
  show (if (false && decide (n % 18446744073709551616 ≥ 9223372036854775808)) = true then n % 18446744073709551616 - 18446744073709551616 else n % 18446744073709551616) = n
  simp only [Bool.false_and, Bool.false_eq_true, if_false]; omega
theorem wrapi {n : Int} (h : -9223372036854775808 ≤ n) (h2 : n < 9223372036854775808) : IntKind.wrap .i64 n = n := by
  show (if (true && decide (n % 18446744073709551616 ≥ 9223372036854775808)) = true then n % 18446744073709551616 - 18446744073709551616 else n % 18446744073709551616) = n
  simp only [Bool.true_and, decide_eq_true_eq]; split <;> omega
theorem T_up {a : aBits} {n : Int} (hw : 1 ≤ a.W ∧ a.W ≤ 128) (hn : 0 ≤ n ∧ n ≤ 128) : T (bits_up a n) := by
  unfold bits_up
  refine T_ite (fun h => ?_) (fun h => ?_)
  · have h := of_decide_eq_true h
    rw [wrap64 (by omega) (by omega), if_pos (by simp; omega)]
    exact T_bind (T_cut (by omega) (by omega)) fun _ _ => T_some
  · have h := of_decide_eq_false h
    rw [wrap64 (by omega) (by omega), if_pos (by simp; omega), if_pos (by simp; omega), if_pos (by simp; omega)]
    exact T_bind (T_cut (by omega) (by omega)) fun _ _ => T_some
theorem T_down {a : aBits} {n : Int} (hw : 1 ≤ a.W ∧ a.W ≤ 128) (hn : 0 ≤ n ∧ n ≤ 128) : T (bits_down a n) := by
  unfold bits_down
  refine T_ite (fun h => ?_) (fun h => ?_)
  · have h := of_decide_eq_true h
    rw [wrap64 (by omega) (by omega), if_pos (by simp; omega)]
    exact T_bind (T_cut (by omega) (by omega)) fun _ _ => T_some
  · have h := of_decide_eq_false h
    rw [wrap64 (by omega) (by omega), if_pos (by simp; omega), if_pos (by simp; omega), if_pos (by simp; omega)]
    exact T_bind (T_cut (by omega) (by omega)) fun _ _ => T_some
theorem T_Of (w hi lo) : T (bits_Of w hi lo) := by
  unfold bits_Of
  refine T_bind (T_bwide _) fun y hy => T_ite (fun _ => T_some) (fun hb => ?_)
  have hb : y = true := by cases y <;> simp_all
  have := bwide_true (hb ▸ hy)
  exact T_bind (T_cut (by omega) (by omega)) fun _ _ => T_some
theorem bCheck_true {b : aBits} (h : bits_Check b = some true) : 1 ≤ b.W ∧ b.W ≤ 128 := by
  unfold bits_Check at h
  obtain ⟨y, hy⟩ := T_bwide b.W
  rw [hy, Option.bind_some] at h
  split at h
  · rename_i hb; exact bwide_true (hb ▸ hy)
  · simp at h
theorem T_alikes {a b : aBits} {op : Int} {l : List (Int × ((aBits × aBits) → Option aBits))} {F : (aBits × aBits) → Option aBits} (ha : a.Hi = 0 ∧ a.Lo = 0) (hb : b.Hi = 0 ∧ b.Lo = 0) (hw : 1 ≤ a.W ∧ a.W ≤ 128) (hl : bits_alikes = some l) (hF : mget (fun x y => x == y) op l = some F) : T (F (a, b)) := by
  obtain ⟨w, _, _⟩ := a; obtain ⟨w', _, _⟩ := b
  simp only at ha hb hw
  obtain ⟨rfl, rfl⟩ := ha; obtain ⟨rfl, rfl⟩ := hb
  have hc : ∀ hi lo, T (bits_cut w hi lo) := fun _ _ => T_cut (by omega) (by omega)
  cases hl
  have ha0 : m_Add64 0 0 0 = some (0, 0, ()) := by decide
  have hs0 : m_Sub64 0 0 0 = some (0, 0, ()) := by decide
  have hbe : T (bits_below ⟨w, 0, 0⟩ ⟨w', 0, 0⟩) := T_below ⟨rfl, rfl⟩ ⟨rfl, rfl⟩
  have hbe' : T (bits_below ⟨w', 0, 0⟩ ⟨w, 0, 0⟩) := T_below ⟨rfl, rfl⟩ ⟨rfl, rfl⟩
  replace hF : mget (fun x y : Int => x == y) op [(5, fun x_ : aBits × aBits => bits_alikes_1 x_.1 x_.2), (6, fun x_ => bits_alikes_2 x_.1 x_.2), (7, fun x_ => bits_alikes_3 x_.1 x_.2), (8, fun x_ => bits_alikes_4 x_.1 x_.2), (9, fun x_ => bits_alikes_5 x_.1 x_.2), (10, fun x_ => bits_alikes_6 x_.1 x_.2), (17, fun x_ => bits_alikes_7 x_.1 x_.2), (18, fun x_ => bits_alikes_8 x_.1 x_.2), (19, fun x_ => bits_alikes_9 x_.1 x_.2), (20, fun x_ => bits_alikes_10 x_.1 x_.2)] = some F := hF
  simp only [mget] at hF
  split at hF
  · cases hF; show T (bits_alikes_1 _ _); unfold bits_alikes_1; rw [ha0, Option.bind_some, ha0, Option.bind_some]; exact T_bind (hc _ _) fun _ _ => T_some
  split at hF
  · cases hF; show T (bits_alikes_2 _ _); unfold bits_alikes_2; rw [hs0, Option.bind_some, hs0, Option.bind_some]; exact T_bind (hc _ _) fun _ _ => T_some
  split at hF
  · cases hF; show T (bits_alikes_3 _ _); unfold bits_alikes_3 math_bits_Mul64; rw [Option.bind_some]; exact T_bind (hc _ _) fun _ _ => T_some
  split at hF
  · cases hF; show T (bits_alikes_4 _ _); unfold bits_alikes_4; exact T_bind (hc _ _) fun _ _ => T_some
  split at hF
  · cases hF; show T (bits_alikes_5 _ _); unfold bits_alikes_5; exact T_bind (hc _ _) fun _ _ => T_some
  split at hF
  · cases hF; show T (bits_alikes_6 _ _); unfold bits_alikes_6; exact T_bind (hc _ _) fun _ _ => T_some
  split at hF
  · cases hF; show T (bits_alikes_7 _ _); unfold bits_alikes_7; exact T_bind (T_one _) fun _ _ => T_some
  split at hF
  · cases hF; show T (bits_alikes_8 _ _); unfold bits_alikes_8; exact T_bind (T_one _) fun _ _ => T_some
  split at hF
  · cases hF; show T (bits_alikes_9 _ _); unfold bits_alikes_9; exact T_bind hbe fun _ _ => T_bind (T_one _) fun _ _ => T_some
  split at hF
  · cases hF; show T (bits_alikes_10 _ _); unfold bits_alikes_10; exact T_bind hbe' fun _ _ => T_bind (T_one _) fun _ _ => T_some
  cases hF
theorem T_others {a b : aBits} {op : Int} {l : List (Int × ((aBits × aBits) → Option aBits))} {F : (aBits × aBits) → Option aBits} (ha : a.Hi = 0 ∧ a.Lo = 0) (hb : b.Hi = 0 ∧ b.Lo = 0) (hw : 1 ≤ a.W ∧ a.W ≤ 128) (hw' : 1 ≤ b.W ∧ b.W ≤ 128) (hl : bits_others = some l) (hF : mget (fun x y => x == y) op l = some F) : T (F (a, b)) := by
  obtain ⟨w, _, _⟩ := a; obtain ⟨w', _, _⟩ := b
  simp only at ha hb hw hw'
  obtain ⟨rfl, rfl⟩ := ha; obtain ⟨rfl, rfl⟩ := hb
  have hby := T_by (b := ⟨w', 0, 0⟩) ⟨rfl, rfl⟩
  cases hl
  replace hF : mget (fun x y : Int => x == y) op [(12, fun x_ : aBits × aBits => bits_others_1 x_.1 x_.2), (13, fun x_ => bits_others_2 x_.1 x_.2), (14, fun x_ => bits_others_3 x_.1 x_.2 (aBits.mk 0 0 0)), (21, fun x_ => bits_others_4 x_.1 x_.2 (aBits.mk 0 0 0)), (22, fun x_ => bits_others_5 x_.1 x_.2 (aBits.mk 0 0 0))] = some F := hF
  simp only [mget] at hF
  split at hF
  · cases hF; show T (bits_others_1 _ _); unfold bits_others_1; rw [hby, Option.bind_some]; exact T_bind (T_up hw (by omega)) fun _ _ => T_some
  split at hF
  · cases hF; show T (bits_others_2 _ _); unfold bits_others_2; rw [hby, Option.bind_some]; exact T_bind (T_down hw (by omega)) fun _ _ => T_some
  split at hF
  · cases hF; show T (bits_others_3 _ _ _); unfold bits_others_3
    refine T_ite (fun _ => T_some) (fun h => ?_)
    have h := of_decide_eq_false h
    rw [wrapi (by simp only; omega) (by simp only; omega)] at h ⊢
    rw [wrap64 (by simp only; omega) (by simp only; omega)]
    exact T_bind (T_up ⟨by simp, by simp⟩ (by simp only at *; omega)) fun _ _ => T_bind (T_cut (by simp only at *; omega) (by simp only at *; omega)) fun _ _ => T_some
  split at hF
  · cases hF; show T (bits_others_4 _ _ _); unfold bits_others_4; exact T_ite (fun _ => T_some) (fun _ => T_ite (fun _ => T_some) fun _ => T_bind (T_one _) fun _ _ => T_some)
  split at hF
  · cases hF; show T (bits_others_5 _ _ _); unfold bits_others_5; exact T_ite (fun _ => T_some) (fun _ => T_ite (fun _ => T_some) fun _ => T_bind (T_one _) fun _ _ => T_some)
  cases hF
theorem both_checks {p1 p2 : aBits} {t46 s3 : Bool} (h46 : bits_Check p2 = some t46) (h : (if (!t46) = true then (some (!t46)) else ((bits_Check p1).bind fun t49 => some (!t49))) = some s3) (hs : s3 = false) : bits_Check p1 = some true ∧ bits_Check p2 = some true := by
  subst hs
  cases t46
  · simp at h
  · refine ⟨?_, h46⟩
    obtain ⟨y, hy⟩ := T_bCheck p1
    rw [hy] at h ⊢
    cases y <;> simp_all
theorem T_Do (op w w' n m : Int) : T (bits_Do op ⟨w, 0, 0⟩ ⟨w', 0, 0⟩ n m) := by
  unfold bits_Do
  refine T_bind ⟨_, rfl⟩ fun t5 h5 => T_bind ⟨_, rfl⟩ fun t7 h7 => T_ite (fun h => ?_) (fun _ => T_ite (fun h => ?_) (fun _ => ?_))
  · obtain ⟨F, hF⟩ := Option.isSome_iff_exists.1 h
    refine T_bind (T_bCheck _) fun t46 h46 => T_bind (T_ite (fun _ => T_some) fun _ => T_bind (T_bCheck _) fun _ _ => T_some) fun s3 hs3 => T_ite (fun _ => T_some) fun hs => T_ite (fun _ => T_some) fun _ => ?_
    obtain ⟨c1, c2⟩ := both_checks h46 hs3 hs
    refine T_bind ?_ fun _ _ => T_some
    simp only [hF, Option.getD_some]
    exact T_alikes ⟨rfl, rfl⟩ ⟨rfl, rfl⟩ (bCheck_true c1) h5 hF
  · obtain ⟨F, hF⟩ := Option.isSome_iff_exists.1 h
    refine T_bind (T_bCheck _) fun t46 h46 => T_bind (T_ite (fun _ => T_some) fun _ => T_bind (T_bCheck _) fun _ _ => T_some) fun s3 hs3 => T_ite (fun _ => T_some) fun hs => ?_
    obtain ⟨c1, c2⟩ := both_checks h46 hs3 hs
    refine T_bind ?_ fun _ _ => T_ite (fun _ => T_some) (fun _ => T_some)
    simp only [hF, Option.getD_some]
    exact T_others ⟨rfl, rfl⟩ ⟨rfl, rfl⟩ (bCheck_true c1) (bCheck_true c2) h7 hF
  · refine T_bind (T_bind (T_bCheck _) fun _ _ => T_some) fun s1 hs1 => T_ite (fun _ => T_some) fun hs => ?_
    have hw : 1 ≤ w ∧ w ≤ 128 := by
      subst hs
      obtain ⟨y, hy⟩ := T_bCheck (⟨w, 0, 0⟩ : aBits)
      rw [hy] at hs1
      have : y = true := by cases y <;> simp_all
      exact bCheck_true (this ▸ hy)
    have hcast : ∀ (x : Option (aBits × Int × Unit)), x = (if (op == (16 : Int)) = true then ((bits_Of n 0 0).bind fun t29 => some (t29.1, t29.2.1, ())) else (some ((aBits.mk 0 0 0), (1 : Int), ()))) → T x := by
      rintro _ rfl
      exact T_ite (fun _ => T_bind (T_Of _ _ _) fun _ _ => T_some) (fun _ => T_some)
    refine T_ite (fun _ => T_bind (T_cut (by simp only; omega) (by simp only; omega)) fun _ _ => T_some) fun _ => T_ite (fun _ => T_ite (fun h0 => T_ite (fun h1 => T_ite (fun h2 => ?_) fun _ => hcast _ rfl) fun _ => hcast _ rfl) fun _ => hcast _ rfl) fun _ => hcast _ rfl
    have h0 := of_decide_eq_true h0; have h1 := of_decide_eq_true h1; have h2 := of_decide_eq_true h2
    simp only at h2
    rw [wrap64 (by omega) (by omega), wrapi (n := n - m) (by omega) (by omega), wrapi (by omega) (by omega)]
    exact T_bind (T_down hw (by omega)) fun _ _ => T_bind (T_cut (by omega) (by omega)) fun _ _ => T_some
theorem T_op (l x p) : T (code_look_op l x p) := by
  unfold code_look_op
  have hs : ∀ {n : Int} {y : Bool}, code_look_slot l n = some y → (!y) = false → T (idx l.c.Slots n) := fun {n y} h hy => slot_idx (by cases y <;> simp_all)
  refine T_bind (T_slot _ _) fun t1 h1 => T_ite (fun _ => T_some) fun hb1 => T_bind (T_slot _ _) fun t4 h4 => T_ite (fun _ => T_some) fun hb4 => T_ite (fun _ => T_some) fun _ => T_ite (fun _ => T_some) fun _ => ?_
  refine T_bind ?_ fun e he => T_elim (fun _ _ => T_some) (fun s1 hs1 => ?_)
  · refine T_bind (T_ite (fun _ => T_some) fun _ => T_ite (fun _ => T_some) fun _ => T_some) fun _ _ => T_ite (fun _ => T_ite (fun _ => T_some) fun _ => T_some) fun _ => T_bind (T_slot _ _) fun y hy => T_ite (fun _ => T_some) fun hb => T_bind (hs hy hb) fun _ _ => T_some
  · have hs1' : ∃ w', s1 = ⟨w', 0, 0⟩ := by
      subst hs1
      obtain ⟨b, hb, he⟩ := bs he
      split at he
      · split at he
        · simp at he
        · simp at he; exact ⟨0, he.symm⟩
      · obtain ⟨y, hy, he⟩ := bs he
        split at he
        · simp at he
        · obtain ⟨z, hz, he⟩ := bs he
          simp at he; exact ⟨z, he.symm⟩
    obtain ⟨w', rfl⟩ := hs1'
    have fin : T ((idx l.c.Slots x.A).bind fun t62 => (bits_Do x.By (aBits.mk t62 0 0) ⟨w', 0, 0⟩ x.N x.M).bind fun t64 => if (t64.2.1 == (0 : Int)) = true then ((code_look_wide l x.To t64.1.W).bind fun t69 => some t69) else (some false)) :=
      T_bind (hs h1 hb1) fun _ _ => T_bind (T_Do _ _ _ _ _) fun _ _ => T_ite (fun _ => T_bind (T_wide _ _ _) fun _ _ => T_some) fun _ => T_some
    exact T_ite (fun _ => T_ite (fun _ => T_some) fun _ => T_ite (fun _ => fin) fun _ => fin) fun _ => T_ite (fun _ => T_ite (fun _ => T_ite (fun _ => T_some) fun _ => fin) fun _ => fin) fun _ => fin
end Go.Pt
