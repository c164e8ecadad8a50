import Derived.Test.YtpaggjifaelcnaaGreatPL8
/-
  CodeParts, the plain law, 9: twins are what they are twins of.
-/
set_option linter.unusedVariables false
set_option linter.unusedSimpArgs false
namespace Go.Pt
open Go Go.Pm

def Fits {α : Type} (b : Nat) (l : List α) : Prop := (l.length + 1) * b ≤ 140737488355328 ∧ 0 < b
def twinLoop {α : Type} (tw : α → Option α) (b : Nat) : Nat → List α → Int → List α → Option (List α)
  | 0, _, _, _ => none
  | k + 1, l, i, acc => if (decide (i < (l.length : Int))) = true then ((idx l i).bind fun t5 => (tw t5).bind fun t7 => if appFits b acc.length 1 = true then (twinLoop tw b k l (IntKind.wrap .i64 (i + (1 : Int))) (acc ++ [t7])) else none) else (some acc)
theorem Fits.len {α : Type} {b : Nat} {l : List α} (h : Fits b l) : (l.length : Int) + 1 ≤ 140737488355328 := by
  obtain ⟨h1, h2⟩ := h
  have : l.length + 1 ≤ (l.length + 1) * b := Nat.le_mul_of_pos_right _ h2
  omega
theorem Fits.app {α : Type} {b : Nat} {l : List α} (h : Fits b l) {n : Nat} (hn : n ≤ l.length) : appFits b n 1 = true := by
  unfold appFits
  simp only [Bool.and_eq_true, decide_eq_true_eq]
  have h1 := h.1
  have h2 := h.len
  have : (n + 1) * b ≤ (l.length + 1) * b := Nat.mul_le_mul_right _ (by omega)
  omega
theorem Fits.mk {α : Type} {b : Nat} {l : List α} (h : Fits b l) : mkFits b (IntKind.wrap .i64 ((l.length : Int) + (1 : Int))) = true := by
  have h2 := h.len
  rw [wrapi (by omega) (by omega)]
  unfold mkFits
  simp only [Bool.and_eq_true, decide_eq_true_eq]
  refine ⟨⟨by omega, ?_⟩, by omega⟩
  have h1 := h.1
  have : (((l.length + 1) * b : Nat) : Int) ≤ 140737488355328 := by omega
  simpa [Int.natCast_mul] using this
theorem twin_loop {α : Type} {tw : α → Option α} {b : Nat} {l : List α} (hf : Fits b l) (h : ∀ x ∈ l, tw x = some x) : ∀ (k : Nat) (i : Int), 0 ≤ i → i ≤ l.length → ((l.length : Int) - i).toNat < k → twinLoop tw b k l i (l.take i.toNat) = some l
  | 0, i, _, _, hk => by omega
  | k + 1, i, h0, h1, hk => by
    rw [twinLoop]
    by_cases hi : i < (l.length : Int)
    · rw [if_pos (by simpa using hi)]
      obtain ⟨x, hx⟩ := T_idx h0 hi
      rw [hx, Option.bind_some, h x (idx_mem hx), Option.bind_some, if_pos (hf.app (by simp; omega)), wrap_add h0 hi (by have := hf.len; omega)]
      have : l.take i.toNat ++ [x] = l.take (i + 1).toNat := by
        obtain ⟨_, _, h2⟩ := idx_some hx
        rw [show (i + 1).toNat = i.toNat + 1 by omega, List.take_add_one, h2]; rfl
      rw [this]
      exact twin_loop hf h k (i + 1) (by omega) (by omega) (by omega)
    · rw [if_neg (by simpa using hi), List.take_of_length_le (by omega)]
theorem twin_all {α : Type} {tw : α → Option α} {b : Nat} {l : List α} (sp : α) (hf : Fits b l) (h : ∀ x ∈ l, tw x = some x) :
    (if mkFits b (IntKind.wrap .i64 ((l.length : Int) + (1 : Int))) = true then ((twinLoop tw b (((l.length : Int) - (0 : Int)).toNat + 1) l (0 : Int) []).bind fun s1_ => if appFits b s1_.length 1 = true then (if (decide (0 ≤ (l.length : Int)) && decide ((l.length : Int) ≤ ((s1_ ++ [sp]).length : Int))) = true then (some ((s1_ ++ [sp]).take ((l.length : Int)).toNat)) else none) else none) else none) = some l := by
  rw [if_pos hf.mk]
  have := twin_loop hf h (((l.length : Int) - (0 : Int)).toNat + 1) 0 (by omega) (by omega) (by omega)
  simp only [Int.toNat_zero, List.take_zero] at this
  rw [this, Option.bind_some, if_pos (hf.app (Nat.le_refl _)), if_pos (by simp; omega)]
  simp

theorem tints_eq : ∀ (k : Nat) (l : List Int) (i : Int) (acc : List Int), pointsmanlaw01_TwinInts.l1 k l i acc = twinLoop some 8 k l i acc
  | 0, _, _, _ => rfl
  | k + 1, l, i, acc => by rw [pointsmanlaw01_TwinInts.l1, twinLoop]; simp only [tints_eq k, Option.bind_some]
theorem tw_ints {l : List Int} (h : Fits 8 l) : pointsmanlaw01_TwinInts l = some l := by
  unfold pointsmanlaw01_TwinInts; simp only [tints_eq]; exact twin_all _ h fun _ _ => rfl
theorem tkinds_eq : ∀ (k : Nat) (l : List Int) (i : Int) (acc : List Int), pointsmanlaw01_TwinKinds.l1 k l i acc = twinLoop some 1 k l i acc
  | 0, _, _, _ => rfl
  | k + 1, l, i, acc => by rw [pointsmanlaw01_TwinKinds.l1, twinLoop]; simp only [tkinds_eq k, Option.bind_some]
theorem tw_kinds {l : List Int} (h : Fits 1 l) : pointsmanlaw01_TwinKinds l = some l := by
  unfold pointsmanlaw01_TwinKinds; simp only [tkinds_eq]; exact twin_all _ h fun _ _ => rfl
theorem tnums_eq : ∀ (k : Nat) (l : List aBits) (i : Int) (acc : List aBits), pointsmanlaw01_TwinNumbers.l1 k l i acc = twinLoop some 24 k l i acc
  | 0, _, _, _ => rfl
  | k + 1, l, i, acc => by rw [pointsmanlaw01_TwinNumbers.l1, twinLoop]; simp only [tnums_eq k, Option.bind_some]
theorem tw_nums {l : List aBits} (h : Fits 24 l) : pointsmanlaw01_TwinNumbers l = some l := by
  unfold pointsmanlaw01_TwinNumbers; simp only [tnums_eq]; exact twin_all _ h fun _ _ => rfl
theorem tjumps_eq : ∀ (k : Nat) (l : List aJump) (i : Int) (acc : List aJump), pointsmanlaw01_TwinJumps.l1 k l i acc = twinLoop some 56 k l i acc
  | 0, _, _, _ => rfl
  | k + 1, l, i, acc => by rw [pointsmanlaw01_TwinJumps.l1, twinLoop]; simp only [tjumps_eq k, Option.bind_some]
theorem tw_jumps {l : List aJump} (h : Fits 56 l) : pointsmanlaw01_TwinJumps l = some l := by
  unfold pointsmanlaw01_TwinJumps; simp only [tjumps_eq]; exact twin_all _ h fun _ _ => rfl
theorem tarrs_eq : ∀ (k : Nat) (l : List aArr) (i : Int) (acc : List aArr), pointsmanlaw01_TwinArrs.l1 k l i acc = twinLoop some 32 k l i acc
  | 0, _, _, _ => rfl
  | k + 1, l, i, acc => by rw [pointsmanlaw01_TwinArrs.l1, twinLoop]; simp only [tarrs_eq k, Option.bind_some]
theorem tw_arrs {l : List aArr} (h : Fits 32 l) : pointsmanlaw01_TwinArrs l = some l := by
  unfold pointsmanlaw01_TwinArrs; simp only [tarrs_eq]; exact twin_all _ h fun _ _ => rfl
theorem theads_eq : ∀ (k : Nat) (l : List aHead) (i : Int) (acc : List aHead), pointsmanlaw01_TwinHeads.l1 k l i acc = twinLoop pointsmanlaw01_TwinHead 24 k l i acc
  | 0, _, _, _ => rfl
  | k + 1, l, i, acc => by rw [pointsmanlaw01_TwinHeads.l1, twinLoop]; simp only [theads_eq k]
theorem tw_heads {l : List aHead} (h : Fits 24 l) (hx : ∀ x ∈ l, Fits 8 x.Slots) : pointsmanlaw01_TwinHeads l = some l := by
  unfold pointsmanlaw01_TwinHeads; simp only [theads_eq]
  refine twin_all _ h fun x hm => ?_
  unfold pointsmanlaw01_TwinHead; rw [tw_ints (hx x hm)]; rfl
theorem tinses_eq : ∀ (k : Nat) (l : List aIns) (i : Int) (acc : List aIns), pointsmanlaw01_TwinInses.l1 k l i acc = twinLoop pointsmanlaw01_TwinIns 104 k l i acc
  | 0, _, _, _ => rfl
  | k + 1, l, i, acc => by rw [pointsmanlaw01_TwinInses.l1, twinLoop]; simp only [tinses_eq k]
def FitsC (l : List aIns) : Prop := Fits 104 l ∧ ∀ x ∈ l, Fits 8 x.L
theorem tw_inses {l : List aIns} (h : FitsC l) : pointsmanlaw01_TwinInses l = some l := by
  unfold pointsmanlaw01_TwinInses; simp only [tinses_eq]
  refine twin_all _ h.1 fun x hm => ?_
  unfold pointsmanlaw01_TwinIns; rw [tw_ints (h.2 x hm)]; rfl
theorem tnodes_eq : ∀ (k : Nat) (l : List aNode) (i : Int) (acc : List aNode), pointsmanlaw01_TwinNodes.l1 k l i acc = twinLoop pointsmanlaw01_TwinNode 88 k l i acc
  | 0, _, _, _ => rfl
  | k + 1, l, i, acc => by rw [pointsmanlaw01_TwinNodes.l1, twinLoop]; simp only [tnodes_eq k]
theorem tw_nodes {l : List aNode} (h : Fits 88 l) (hx : ∀ x ∈ l, Fits 8 x.Heads ∧ FitsC x.Code ∧ Fits 56 x.Cases) : pointsmanlaw01_TwinNodes l = some l := by
  unfold pointsmanlaw01_TwinNodes; simp only [tnodes_eq]
  refine twin_all _ h fun x hm => ?_
  obtain ⟨h1, h2, h3⟩ := hx x hm
  unfold pointsmanlaw01_TwinNode; rw [tw_ints h1, Option.bind_some, tw_inses h2, Option.bind_some, tw_jumps h3]; rfl
theorem tacts_eq : ∀ (k : Nat) (l : List aAct) (i : Int) (acc : List aAct), pointsmanlaw01_TwinActs.l1 k l i acc = twinLoop pointsmanlaw01_TwinAct 64 k l i acc
  | 0, _, _, _ => rfl
  | k + 1, l, i, acc => by rw [pointsmanlaw01_TwinActs.l1, twinLoop]; simp only [tacts_eq k]
theorem tw_acts {l : List aAct} (h : Fits 64 l) (hx : ∀ x ∈ l, Fits 8 x.Params ∧ FitsC x.Code) : pointsmanlaw01_TwinActs l = some l := by
  unfold pointsmanlaw01_TwinActs; simp only [tacts_eq]
  refine twin_all _ h fun x hm => ?_
  obtain ⟨h1, h2⟩ := hx x hm
  unfold pointsmanlaw01_TwinAct; rw [tw_ints h1, Option.bind_some, tw_inses h2]; rfl
theorem ttables_eq : ∀ (k : Nat) (l : List aTable) (i : Int) (acc : List aTable), pointsmanlaw01_TwinTables.l1 k l i acc = twinLoop pointsmanlaw01_TwinTable 152 k l i acc
  | 0, _, _, _ => rfl
  | k + 1, l, i, acc => by rw [pointsmanlaw01_TwinTables.l1, twinLoop]; simp only [ttables_eq k]
theorem tw_tables {l : List aTable} (h : Fits 152 l) (hx : ∀ x ∈ l, Fits 8 x.Keys ∧ Fits 1 x.Kinds ∧ Fits 8 x.Actions ∧ Fits 24 x.Args ∧ FitsC x.Before) : pointsmanlaw01_TwinTables l = some l := by
  unfold pointsmanlaw01_TwinTables; simp only [ttables_eq]
  refine twin_all _ h fun x hm => ?_
  obtain ⟨h1, h2, h3, h4, h5⟩ := hx x hm
  unfold pointsmanlaw01_TwinTable; rw [tw_ints h1, Option.bind_some, tw_kinds h2, Option.bind_some, tw_ints h3, Option.bind_some, tw_nums h4, Option.bind_some, tw_inses h5]; rfl

/-- What may come in. -/
structure In (c : aCode) : Prop where
  slots : Fits 8 c.Slots
  heads : Fits 24 c.Heads
  head : ∀ h ∈ c.Heads, Fits 8 h.Slots
  meta_ : Fits 8 c.Meta
  states : Fits 88 c.States
  state : ∀ s ∈ c.States, Fits 8 s.Heads ∧ FitsC s.Code ∧ Fits 56 s.Cases
  main : FitsC c.Main
  acts : Fits 64 c.Acts
  act : ∀ a ∈ c.Acts, (a.Name.size : Int) ≤ maxM ∧ Fits 8 a.Params ∧ FitsC a.Code
  tables : Fits 152 c.Tables
  table : ∀ t ∈ c.Tables, (t.Name.size : Int) ≤ maxM ∧ Fits 8 t.Keys ∧ Fits 1 t.Kinds ∧ Fits 8 t.Actions ∧ Fits 24 t.Args ∧ FitsC t.Before
  emits : Fits 8 c.Emits
  arrays : Fits 32 c.Arrays
  array : ∀ a ∈ c.Arrays, (a.Name.size : Int) ≤ maxM
theorem Fits.bm {α : Type} {b : Nat} {l : List α} (h : Fits b l) : (l.length : Int) ≤ maxM := by have := h.len; simp only [maxM]; omega
theorem FitsC.bm {l : List aIns} (h : FitsC l) : codeBm l := ⟨h.1.bm, fun x hx => (h.2 x hx).bm⟩
theorem In.bm {c} (h : In c) : Bm c :=
  ⟨h.slots.bm, h.heads.bm, fun x hx => (h.head x hx).bm, h.meta_.bm, h.states.bm, fun x hx => let ⟨a, b, c⟩ := h.state x hx; ⟨a.bm, b.bm, c.bm⟩, h.main.bm, h.acts.bm, fun x hx => let ⟨a, b, c⟩ := h.act x hx; ⟨a, b.bm, c.bm⟩, h.tables.bm,
    fun x hx => let ⟨n, a, b, c, d, e⟩ := h.table x hx; ⟨n, a.bm, b.bm, c.bm, d.bm, e.bm⟩, h.emits.bm, h.arrays.bm, h.array⟩
theorem tw_code {c : aCode} (h : In c) : pointsmanlaw01_TwinCode c = some c := by
  unfold pointsmanlaw01_TwinCode
  rw [tw_ints h.slots, Option.bind_some, tw_heads h.heads h.head, Option.bind_some, tw_ints h.meta_, Option.bind_some, tw_nodes h.states h.state, Option.bind_some, tw_inses h.main, Option.bind_some, tw_acts h.acts (fun x hx => (h.act x hx).2), Option.bind_some, tw_tables h.tables (fun x hx => (h.table x hx).2), Option.bind_some, tw_ints h.emits, Option.bind_some, tw_arrs h.arrays]
  rfl
end Go.Pt
