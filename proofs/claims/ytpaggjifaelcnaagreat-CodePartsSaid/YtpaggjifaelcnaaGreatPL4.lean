import Derived.Test.YtpaggjifaelcnaaGreatPL3
/-
  CodeParts, the plain law, 4: instructions, code: each answers.
-/
set_option linter.unusedVariables false
set_option linter.unusedSimpArgs false
namespace Go.Pt
open Go Go.Pm

theorem slots1_false {n l} : code_look_slots_1 n l = some false ↔ code_look_slot l n = some true := by
  unfold code_look_slots_1
  obtain ⟨y, hy⟩ := T_slot l n
  rw [hy]; cases y <;> simp
theorem slots_true {l : code_look} {s : List Int} (hl : (s.length : Int) ≤ maxL) : code_look_slots l s = some true ↔ ∀ x ∈ s, code_look_slot l x = some true := by
  unfold code_look_slots; rw [CFi_eq]
  have h := CF_false (s := s) (f := fun x_ : Int => code_look_slots_1 x_ l) hl
  obtain ⟨y, hy⟩ := CF_T (s := s) (f := fun x_ : Int => code_look_slots_1 x_ l) hl (fun x _ => T_slots1 x l)
  simp only [slots1_false] at h
  rw [← h, hy]
  cases y <;> simp
section
variable {f : Int × Int → Option Bool}
theorem EF_T {a b : List Int} (hl : (a.length : Int) ≤ maxL) (he : (a.length : Int) = b.length) (h : ∀ x ∈ a, ∀ y ∈ b, T (f (x, y))) : ∀ (k : Nat) (i : Int), 0 ≤ i → ((a.length : Int) - i).toNat < k → T (slices_EqualFunc_int_int_int.l1 k a b f i)
  | 0, i, _, hk => by omega
  | k + 1, i, h0, hk => by
    rw [slices_EqualFunc_int_int_int.l1]
    refine T_ite (fun hi => ?_) (fun _ => T_some)
    have hi := of_decide_eq_true hi
    refine T_bind (T_idx h0 hi) fun x hx => T_bind (T_idx h0 (by omega)) fun y hy => T_bind (h x (idx_mem hx) y (idx_mem hy)) fun _ _ => T_ite (fun _ => T_some) fun _ => ?_
    rw [wrap_add h0 hi hl]
    exact EF_T hl he h k (i + 1) (by omega) (by omega)
theorem EFunc_T {a b : List Int} (hl : (a.length : Int) ≤ maxL) (h : ∀ x ∈ a, ∀ y ∈ b, T (f (x, y))) : T (slices_EqualFunc_int_int_int_int a b f) := by
  unfold slices_EqualFunc_int_int_int_int
  refine T_ite (fun _ => T_some) fun hb => ?_
  have hb : (a.length : Int) = b.length := by simpa using hb
  exact T_bind (EF_T hl hb h _ 0 (by omega) (by omega)) fun _ _ => T_elim (fun _ _ => T_some) (fun _ _ => T_some)
end
theorem EB_T {f : aBits × Int → Option Bool} {a : List aBits} {b : List Int} (hl : (a.length : Int) ≤ maxL) (he : (a.length : Int) = b.length) (h : ∀ x ∈ a, ∀ y ∈ b, T (f (x, y))) : ∀ (k : Nat) (i : Int), 0 ≤ i → ((a.length : Int) - i).toNat < k → T (slices_EqualFunc_int_api_Bits_int.l1 k a b f i)
  | 0, i, _, hk => by omega
  | k + 1, i, h0, hk => by
    rw [slices_EqualFunc_int_api_Bits_int.l1]
    refine T_ite (fun hi => ?_) (fun _ => T_some)
    have hi := of_decide_eq_true hi
    refine T_bind (T_idx h0 hi) fun x hx => T_bind (T_idx h0 (by omega)) fun y hy => T_bind (h x (idx_mem hx) y (idx_mem hy)) fun _ _ => T_ite (fun _ => T_some) fun _ => ?_
    rw [wrap_add h0 hi hl]
    exact EB_T hl he h k (i + 1) (by omega) (by omega)
theorem EBunc_T {f : aBits × Int → Option Bool} {a : List aBits} {b : List Int} (hl : (a.length : Int) ≤ maxL) (h : ∀ x ∈ a, ∀ y ∈ b, T (f (x, y))) : T (slices_EqualFunc_api_Bits_int_api_Bits_int a b f) := by
  unfold slices_EqualFunc_api_Bits_int_api_Bits_int
  refine T_ite (fun _ => T_some) fun hb => ?_
  have hb : (a.length : Int) = b.length := by simpa using hb
  exact T_bind (EB_T hl hb h _ 0 (by omega) (by omega)) fun _ _ => T_elim (fun _ _ => T_some) (fun _ _ => T_some)

theorem T_alike {l : code_look} {a b : List Int} (hl : (a.length : Int) ≤ maxL) : T (code_look_alike l a b) := by
  unfold code_look_alike
  refine T_bind (T_slots hl) fun y hy => T_ite (fun hb => T_bind (EFunc_T hl fun m hm n _ => ?_) fun _ _ => T_some) fun _ => T_some
  unfold code_look_alike_1
  exact T_bind (slot_idx ((slots_true hl).1 (hb ▸ hy) m hm)) fun _ _ => T_bind (T_wide _ _ _) fun _ _ => T_some

/-- Instructions of which the lists are not too long. -/
def insBd (x : aIns) : Prop := (x.L.length : Int) ≤ maxL
def codeBd (s : List aIns) : Prop := (s.length : Int) ≤ maxL ∧ ∀ x ∈ s, insBd x

theorem T_Width (n) : T (sums_Width n) := by unfold sums_Width sums_rows; exact T_bind T_some fun _ _ => T_some
def rowL : List code_row := match code_rows with | some l => l | none => []
theorem rows_eq : code_rows = some rowL := rfl
theorem within_idx {α : Type} {n : Int} {s : List α} (h : code_within n (s.length : Int) = some true) : T (idx s n) := by
  rw [within_eq] at h; simp at h; exact T_idx h.1 h.2
theorem T_row : ∀ r ∈ rowL, ∀ l x p, insBd x → T (r.fine (l, x, p)) := by
  intro r hr l x p hx
  simp only [rowL, code_rows, List.mem_cons, List.not_mem_nil, or_false] at hr
  have hs : (x.L.length : Int) ≤ maxL := hx
  rcases hr with rfl | rfl | rfl | rfl | rfl | rfl | rfl | rfl | rfl | rfl | rfl | rfl | rfl | rfl | rfl | rfl | rfl | rfl | rfl | rfl | rfl
  · show T (code_rows_1 l x p); unfold code_rows_1; exact T_bind (T_bCheck _) fun _ _ => T_ite (fun _ => T_bind (T_wide _ _ _) fun _ _ => T_some) fun _ => T_some
  · show T (code_rows_2 l x p); unfold code_rows_2; exact T_bind (T_slot _ _) fun y hy => T_ite (fun hb => T_bind (slot_idx (hb ▸ hy)) fun _ _ => T_bind (T_wide _ _ _) fun _ _ => T_some) fun _ => T_some
  · exact T_op l x p
  · show T (code_rows_3 l x p); unfold code_rows_3; exact T_bind (T_Width _) fun _ _ => T_ite (fun _ => T_bind (T_wide _ _ _) fun _ _ => T_ite (fun _ => T_ite (fun _ => T_ite (fun _ => T_bind (T_slots hs) fun _ _ => T_some) fun _ => T_some) fun _ => T_some) fun _ => T_some) fun _ => T_some
  · show T (code_rows_4 l x p); unfold code_rows_4; exact T_bind (T_wide _ _ _) fun _ _ => T_ite (fun _ => T_bind (T_head _ _) fun _ _ => T_some) fun _ => T_some
  · show T (code_rows_5 l x p); unfold code_rows_5; exact T_bind (T_head _ _) fun _ _ => T_some
  · show T (code_rows_6 l x p); unfold code_rows_6; exact T_bind (T_head _ _) fun _ _ => T_some
  · show T (code_rows_7 l x p); unfold code_rows_7; exact T_bind (T_slot _ _) fun _ _ => T_ite (fun _ => T_bind (T_array _ _ _) fun _ _ => T_some) fun _ => T_some
  · show T (code_rows_8 l x p); unfold code_rows_8; exact T_bind (T_slot _ _) fun _ _ => T_ite (fun _ => T_bind (T_array _ _ _) fun y hy => T_ite (fun hb => T_bind (array_idx (hb ▸ hy)) fun _ _ => T_bind (T_wide _ _ _) fun _ _ => T_some) fun _ => T_some) fun _ => T_some
  · show T (code_rows_9 l x p); unfold code_rows_9; exact T_bind (T_slot _ _) fun _ _ => T_ite (fun _ => T_bind (T_array _ _ _) fun y hy => T_ite (fun hb => T_bind (array_idx (hb ▸ hy)) fun _ _ => T_bind (T_wide _ _ _) fun _ _ => T_some) fun _ => T_some) fun _ => T_some
  · show T (code_rows_10 l x p); unfold code_rows_10; exact T_bind (T_slot _ _) fun _ _ => T_ite (fun _ => T_bind (T_array _ _ _) fun y hy => T_ite (fun hb => T_bind (T_wide _ _ _) fun _ _ => T_some) fun _ => T_some) fun _ => T_some
  · show T (code_rows_11 l x p); unfold code_rows_11; exact T_bind (T_slot _ _) fun _ _ => T_some
  · exact T_some
  · exact T_some
  · exact T_some
  · show T (code_rows_12 l x p); unfold code_rows_12; exact T_ite (fun _ => T_ite (fun _ => T_bind (T_slots hs) fun _ _ => T_some) fun _ => T_some) fun _ => T_some
  · show T (code_rows_13 l x p); unfold code_rows_13; exact T_bind (T_within _ _) fun _ _ => T_some
  · show T (code_rows_14 l x p); unfold code_rows_14; exact T_ite (fun _ => T_bind (T_within _ _) fun _ _ => T_some) fun _ => T_some
  · show T (code_rows_15 l x p); unfold code_rows_15; exact T_ite (fun _ => T_bind (T_within _ _) fun y hy => T_ite (fun hb => T_bind (within_idx (hb ▸ hy)) fun _ _ => T_bind (T_alike hs) fun _ _ => T_some) fun _ => T_some) fun _ => T_some
  · show T (code_rows_16 l x p); unfold code_rows_16; exact T_ite (fun _ => T_some) fun _ => T_some
  · show T (code_rows_17 l x p); unfold code_rows_17; exact T_ite (fun _ => T_ite (fun _ => T_bind (T_wide _ _ _) fun _ _ => T_some) fun _ => T_some) fun _ => T_some
theorem row_runes : ∀ r ∈ rowL, (runesL r.has).length ≤ 8 := by
  intro r hr
  have : (rowL.all fun r => decide ((runesL r.has).length ≤ 8)) = true := by decide +kernel
  exact of_decide_eq_true (List.all_eq_true.1 this r hr)

theorem T_zero {x : aIns} {has : ByteArray} (h : (runesL has).length ≤ 8) : T (code_zero x has) := by
  unfold code_zero
  refine T_bind ?_ fun _ _ => T_elim (fun _ _ => T_some) (fun _ _ => T_some)
  have key : ∀ (k : Nat) (i : Int), 0 ≤ i → (8 - i).toNat < k → T (code_zero.l1 k x has i) := by
    intro k
    induction k with
    | zero => intro i _ hk; omega
    | succ k ih =>
      intro i h0 hk
      rw [code_zero.l1]
      refine T_ite (fun hi => ?_) (fun _ => T_some)
      have hi := of_decide_eq_true hi
      have hi8 : i < 8 := hi
      have hw : IntKind.wrap .i64 (i + 1) = i + 1 := wrap_add h0 hi8 (by decide)
      refine T_bind (T_idx h0 hi) fun t _ => T_ite (fun _ => ?_) (fun _ => by rw [hw]; exact ih (i + 1) (by omega) (by omega))
      rw [if_pos (by simp; omega)]
      refine T_bind (Cnr_T (by simp only [maxL]; omega)) fun _ _ => T_ite (fun _ => T_some) fun _ => by rw [hw]; exact ih (i + 1) (by omega) (by omega)
  exact key _ 0 (by omega) (by simp)

theorem T_code {l : code_look} {s : List aIns} {p m : Bool} (hs : codeBd s) : T (code_look_code l s p m) := by
  unfold code_look_code
  rw [rows_eq, Option.bind_some]
  refine T_bind ?_ fun _ _ => T_elim (fun _ _ => T_some) (fun _ _ => T_some)
  have hl := hs.1
  have key : ∀ (k : Nat) (i : Int), 0 ≤ i → ((s.length : Int) - i).toNat < k → T (code_look_code.l1 k l s p m rowL i) := by
    intro k
    induction k with
    | zero => intro i _ hk; omega
    | succ k ih =>
      intro i h0 hk
      rw [code_look_code.l1]
      refine T_ite (fun hi => ?_) (fun _ => T_some)
      have hi := of_decide_eq_true hi
      have hsi := T_idx (xs := s) h0 hi
      have hrl : (rowL.length : Int) ≤ maxL := by decide
      refine T_bind (IFunc_T hrl fun r _ => ?_) fun t4 h4 => T_ite (fun _ => T_some) fun hb => ?_
      · unfold code_look_code_1; exact T_bind hsi fun _ _ => T_some
      have hb := of_decide_eq_false hb
      obtain ⟨r, hr⟩ : T (idx rowL t4) := by
        rcases IFunc_val hrl h4 with ⟨h, _⟩ | ⟨r, hr, _⟩
        · omega
        · exact ⟨r, hr⟩
      obtain ⟨x, hx⟩ := hsi
      have hmem := idx_mem hr
      rw [wrap_add h0 hi hl]
      simp only [hr, hx, Option.bind_some]
      have rest : T ((code_zero x r.has).bind fun t29 => if (!t29) = true then (some (.rt false)) else ((r.fine (l, x, (code_place.mk i (s.length : Int) m))).bind fun t36 => if (!t36) = true then (some (Ex.rt false : Ex Bool Unit)) else (code_look_code.l1 k l s p m rowL (i + 1)))) :=
        T_bind (T_zero (row_runes r hmem)) fun _ _ => T_ite (fun _ => T_some) fun _ => T_bind (T_row r hmem l x _ (hs.2 x (idx_mem hx))) fun _ _ => T_ite (fun _ => T_some) fun _ => ih (i + 1) (by omega) (by omega)
      exact T_ite (fun _ => T_ite (fun _ => T_some) fun _ => rest) fun _ => rest
  exact key _ 0 (by omega) (by omega)
end Go.Pt
