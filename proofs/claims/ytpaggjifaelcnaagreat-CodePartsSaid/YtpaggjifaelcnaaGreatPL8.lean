import Derived.Test.YtpaggjifaelcnaaGreatPL7
/-
  CodeParts, the plain law, 8: the size of all.
-/
set_option linter.unusedVariables false
set_option linter.unusedSimpArgs false
namespace Go.Pt
open Go Go.Pm

theorem sz_tables {l : List aTable} (hl : (l.length : Int) ≤ maxM) (h : ∀ x ∈ l, (x.Name.size : Int) ≤ maxM ∧ (x.Keys.length : Int) ≤ maxM ∧ (x.Kinds.length : Int) ≤ maxM ∧ (x.Actions.length : Int) ≤ maxM ∧ (x.Args.length : Int) ≤ maxM ∧ codeBm x.Before) : Sz (pointsmanlaw01_TablesSize l) 2251799813685248 (sumOf (fun a : aTable => a.Before.length) l) := by
  unfold pointsmanlaw01_TablesSize
  rw [tables_eq]
  refine (loop_sz (w := fun a : aTable => a.Before.length) (M := 1407374883553280) (by omega) (by omega) hl (fun x hx => sz_table (h x hx).1 (h x hx).2.1 (h x hx).2.2.1 (h x hx).2.2.2.1 (h x hx).2.2.2.2.1 (h x hx).2.2.2.2.2) _ _ 0 (by omega) (by omega) (by simp only [maxM] at *; omega) (by omega)).bind fun s hs => ⟨s, rfl, hs.1, ?_, fun hq => ?_⟩
  · have := hs.2.1; simp only [maxM] at this; omega
  · have := hs.2.2 hq; simp only [Int.toNat_zero, List.drop_zero] at this; omega
theorem arrs_eq : ∀ (k : Nat) (l : List aArr) (v i : Int), pointsmanlaw01_ArrsSize.l1 k l v i = loopSize (fun a : aArr => some (a.Name.size : Int)) k l v i
  | 0, _, _, _ => rfl
  | k + 1, l, v, i => by rw [pointsmanlaw01_ArrsSize.l1, loopSize]; simp only [arrs_eq k, Option.bind_some]
theorem sz_arrs {l : List aArr} (hl : (l.length : Int) ≤ maxM) (h : ∀ x ∈ l, (x.Name.size : Int) ≤ maxM) : Sz (pointsmanlaw01_ArrsSize l) 562949953421312 0 := by
  unfold pointsmanlaw01_ArrsSize
  rw [arrs_eq]
  refine (loop_sz (w := fun _ => 0) (M := maxM) (by simp only [maxM]; omega) (by simp only [maxM]; omega) hl (fun x hx => ⟨_, rfl, by omega, h x hx, fun _ => by omega⟩) _ _ 0 (by omega) (by omega) (by simp only [maxM] at *; omega) (by omega)).bind fun s hs => ⟨s, rfl, hs.1, ?_, fun hq => hs.1⟩
  have := hs.2.1; simp only [maxM] at this; omega

/-- Code of which no list and no name is too long. -/
structure Bm (c : aCode) : Prop where
  slots : (c.Slots.length : Int) ≤ maxM
  heads : (c.Heads.length : Int) ≤ maxM
  head : ∀ h ∈ c.Heads, (h.Slots.length : Int) ≤ maxM
  meta_ : (c.Meta.length : Int) ≤ maxM
  states : (c.States.length : Int) ≤ maxM
  state : ∀ s ∈ c.States, (s.Heads.length : Int) ≤ maxM ∧ codeBm s.Code ∧ (s.Cases.length : Int) ≤ maxM
  main : codeBm c.Main
  acts : (c.Acts.length : Int) ≤ maxM
  act : ∀ a ∈ c.Acts, (a.Name.size : Int) ≤ maxM ∧ (a.Params.length : Int) ≤ maxM ∧ codeBm a.Code
  tables : (c.Tables.length : Int) ≤ maxM
  table : ∀ t ∈ c.Tables, (t.Name.size : Int) ≤ maxM ∧ (t.Keys.length : Int) ≤ maxM ∧ (t.Kinds.length : Int) ≤ maxM ∧ (t.Actions.length : Int) ≤ maxM ∧ (t.Args.length : Int) ≤ maxM ∧ codeBm t.Before
  emits : (c.Emits.length : Int) ≤ maxM
  arrays : (c.Arrays.length : Int) ≤ maxM
  array : ∀ a ∈ c.Arrays, (a.Name.size : Int) ≤ maxM
theorem codeBm.bd {s} (h : codeBm s) : codeBd s := ⟨by have := h.1; simp only [maxM, maxL] at *; omega, fun x hx => by have := h.2 x hx; simp only [insBd, maxM, maxL] at *; omega⟩
theorem Bm.bd {c} (h : Bm c) : Bd c := by
  have up : ∀ {n : Int}, n ≤ maxM → n ≤ maxL := fun {n} h => by simp only [maxM, maxL] at *; omega
  exact ⟨up h.slots, up h.heads, fun x hx => up (h.head x hx), up h.meta_, up h.states, fun x hx => ⟨up (h.state x hx).1, (h.state x hx).2.1.bd, up (h.state x hx).2.2⟩, h.main.bd, up h.acts, fun x hx => ⟨up (h.act x hx).2.1, (h.act x hx).2.2.bd⟩, up h.tables,
    fun x hx => let ⟨_, a, b, c, d, e⟩ := h.table x hx; ⟨up a, up b, up c, up d, e.bd⟩, up h.emits, up h.arrays⟩
def total (c : aCode) : Nat := c.Main.length + sumOf (fun a : aAct => a.Code.length) c.Acts + sumOf (fun a : aNode => a.Code.length) c.States + sumOf (fun a : aTable => a.Before.length) c.Tables
theorem sz_code {c : aCode} (h : Bm c) : Sz (pointsmanlaw01_CodeSize c) 36028797018963968 (total c) := by
  unfold pointsmanlaw01_CodeSize
  refine (step_sz (s := 1) (A := 1) (w := 0) (by omega) (by omega) (by simp only [maxM]; omega) ((sz_ints h.slots).mono (w' := 0) (Int.le_refl _) (by omega)) (fun _ => rfl)).bind fun s hs => ?_
  refine (step_sz hs (by simp only [maxM]; omega) (by omega) (sz_heads h.heads h.head) (fun _ => rfl)).bind fun s hs => ?_
  refine (step_sz hs (by simp only [maxM]; omega) (by simp only [maxM]; omega) ((sz_ints h.meta_).mono (w' := 0) (Int.le_refl _) (by omega)) (fun _ => rfl)).bind fun s hs => ?_
  refine (step_sz hs (by simp only [maxM]; omega) (by omega) (sz_nodes h.states h.state) (fun _ => rfl)).bind fun s hs => ?_
  refine (step_sz hs (by simp only [maxM]; omega) (by omega) (sz_inses h.main) (fun _ => rfl)).bind fun s hs => ?_
  refine (step_sz hs (by simp only [maxM]; omega) (by omega) (sz_acts h.acts h.act) (fun _ => rfl)).bind fun s hs => ?_
  refine (step_sz hs (by simp only [maxM]; omega) (by omega) (sz_tables h.tables h.table) (fun _ => rfl)).bind fun s hs => ?_
  refine (step_sz hs (by simp only [maxM]; omega) (by simp only [maxM]; omega) ((sz_ints h.emits).mono (w' := 0) (Int.le_refl _) (by omega)) (fun _ => rfl)).bind fun s hs => ?_
  refine (step_sz hs (by simp only [maxM]; omega) (by omega) (sz_arrs h.arrays h.array) (fun _ => rfl)).mono (by simp only [maxM]; omega) (by simp only [total]; omega)
end Go.Pt
