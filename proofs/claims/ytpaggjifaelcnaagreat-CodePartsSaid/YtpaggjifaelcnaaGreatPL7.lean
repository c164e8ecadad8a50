import Derived.Test.YtpaggjifaelcnaaGreatPL6
/-
  CodeParts, the plain law, 7: the size that is asked first, and what it bounds.
-/
set_option linter.unusedVariables false
set_option linter.unusedSimpArgs false
namespace Go.Pt
open Go Go.Pm

abbrev maxM : Int := 140737488355328
def loopSize {α : Type} (sz : α → Option Int) : Nat → List α → Int → Int → Option Int
  | 0, _, _, _ => none
  | k + 1, l, v, i => if (decide (i < (l.length : Int))) = true then (if (decide (v ≤ (1048576 : Int))) = true then ((idx l i).bind fun t3 => (sz t3).bind fun t5 => loopSize sz k l (IntKind.wrap .i64 (v + t5)) (IntKind.wrap .i64 (i + (1 : Int)))) else (some v)) else (some v)
def sumOf {α : Type} (w : α → Nat) : List α → Nat
  | [] => 0
  | x :: l => w x + sumOf w l
/-- A size: that it is, how great, what it is not below. -/
def Sz (o : Option Int) (M w : Int) : Prop := ∃ r, o = some r ∧ 0 ≤ r ∧ r ≤ M ∧ (r ≤ 1048576 → w ≤ r)
theorem loop_sz {α : Type} {sz : α → Option Int} {w : α → Nat} {M : Int} {l : List α} (hM : M ≤ 1152921504606846976) (hM0 : 0 ≤ M) (hl : (l.length : Int) ≤ maxM) (h : ∀ x ∈ l, Sz (sz x) M (w x)) :
    ∀ (k : Nat) (v i : Int), 0 ≤ i → 0 ≤ v → v ≤ maxM + 1048576 + M → ((l.length : Int) - i).toNat < k → Sz (loopSize sz k l v i) (maxM + 1048576 + M) (v + sumOf w (l.drop i.toNat))
  | 0, v, i, _, _, _, hk => by omega
  | k + 1, v, i, h0, hv, hv2, hk => by
    rw [loopSize]
    by_cases hi : i < (l.length : Int)
    · rw [if_pos (by simpa using hi)]
      by_cases hm : v ≤ 1048576
      · rw [if_pos (by simpa using hm)]
        obtain ⟨x, hx⟩ := T_idx h0 hi
        obtain ⟨r, hr, h1, h2, h3⟩ := h x (idx_mem hx)
        rw [hx, Option.bind_some, hr, Option.bind_some, wrap_add h0 hi (by simp only [maxM] at hl; omega), wrapi (by omega) (by omega)]
        obtain ⟨q, hq, h4, h5, h6⟩ := loop_sz hM hM0 hl h k (v + r) (i + 1) (by omega) (by omega) (by simp only [maxM]; omega) (by omega)
        refine ⟨q, hq, h4, h5, fun hq1 => ?_⟩
        have h7 := h6 hq1
        rw [drop_idx hx]
        simp only [sumOf]
        have h8 := h3 (by omega)
        omega
      · rw [if_neg (by simpa using hm)]
        exact ⟨v, rfl, hv, hv2, fun hq => absurd hq hm⟩
    · rw [if_neg (by simpa using hi), drop_end hi]
      exact ⟨v, rfl, hv, hv2, fun _ => by simp [sumOf]⟩
theorem Sz.T {o M w} (h : Sz o M w) : T o := let ⟨r, hr, _⟩ := h; ⟨r, hr⟩
theorem Sz.mono {o : Option Int} {M M' w w' : Int} (h : Sz o M w) (hM : M ≤ M') (hw : w' ≤ w) : Sz o M' w' := let ⟨r, h1, h2, h3, h4⟩ := h; ⟨r, h1, h2, by omega, fun h => by have := h4 h; omega⟩
/-- One part more of a size. -/
theorem step_sz {s : Int} {o : Option Int} {M A w W : Int} (hs : 0 ≤ s ∧ s ≤ A ∧ (s ≤ 1048576 → w ≤ s)) (hA : A ≤ 1152921504606846976) (hM : M ≤ 1152921504606846976) (h : Sz o M W) {f : Int → Option Int} (hf : ∀ t, f t = some (IntKind.wrap .i64 (s + t))) :
    Sz (if (decide (s ≤ (1048576 : Int))) = true then (o.bind f) else (some s)) (A + M) (w + W) := by
  obtain ⟨r, rfl, h1, h2, h3⟩ := h
  by_cases hm : s ≤ 1048576
  · rw [if_pos (by simpa using hm), Option.bind_some, hf, wrapi (by omega) (by omega)]
    exact ⟨_, rfl, by omega, by omega, fun hq => by have := hs.2.2 hm; have := h3 (by omega); omega⟩
  · rw [if_neg (by simpa using hm)]
    exact ⟨s, rfl, hs.1, by omega, fun hq => absurd hq hm⟩
theorem Sz.bind {o : Option Int} {M w M' w' : Int} {f : Int → Option Int} (h : Sz o M w) (k : ∀ s, (0 ≤ s ∧ s ≤ M ∧ (s ≤ 1048576 → w ≤ s)) → Sz (f s) M' w') : Sz (o.bind f) M' w' := by
  obtain ⟨r, rfl, h1, h2, h3⟩ := h
  exact k r ⟨h1, h2, h3⟩
theorem Sz.lit {n M : Int} (h : 0 ≤ n) (h2 : n ≤ M) {w : Int} (hw : w ≤ n) : Sz (some n) M w := ⟨n, rfl, h, h2, fun _ => hw⟩

theorem sz_ints {l : List Int} (hl : (l.length : Int) ≤ maxM) : Sz (pointsmanlaw01_IntsSize l) maxM l.length := ⟨_, rfl, by omega, hl, fun _ => Int.le_refl _⟩
theorem sz_head {x : aHead} (hl : (x.Slots.length : Int) ≤ maxM) : Sz (pointsmanlaw01_HeadSize x) (1 + maxM) 0 := by
  unfold pointsmanlaw01_HeadSize
  exact (step_sz (s := 1) (A := 1) (w := 1) (by omega) (by omega) (by simp only [maxM]; omega) (sz_ints hl) (fun _ => rfl)).mono (by omega) (by omega)
theorem heads_eq : ∀ (k : Nat) (l : List aHead) (v i : Int), pointsmanlaw01_HeadsSize.l1 k l v i = loopSize pointsmanlaw01_HeadSize k l v i
  | 0, _, _, _ => rfl
  | k + 1, l, v, i => by rw [pointsmanlaw01_HeadsSize.l1, loopSize]; simp only [heads_eq k]
theorem sz_heads {l : List aHead} (hl : (l.length : Int) ≤ maxM) (h : ∀ x ∈ l, (x.Slots.length : Int) ≤ maxM) : Sz (pointsmanlaw01_HeadsSize l) 562949953421312 0 := by
  unfold pointsmanlaw01_HeadsSize
  rw [heads_eq]
  refine (loop_sz (w := fun _ => 0) (M := 1 + maxM) (by simp only [maxM]; omega) (by simp only [maxM]; omega) hl (fun x hx => sz_head (h x hx)) _ _ 0 (by omega) (by omega) (by simp only [maxM] at *; omega) (by omega)).bind fun s hs => ⟨s, rfl, hs.1, ?_, fun hq => ?_⟩
  · have := hs.2.1; simp only [maxM] at this; omega
  · exact hs.1
theorem sz_ins {x : aIns} (hl : (x.L.length : Int) ≤ maxM) : Sz (pointsmanlaw01_InsSize x) (1 + maxM) 0 := by
  unfold pointsmanlaw01_InsSize
  exact (step_sz (s := 1) (A := 1) (w := 1) (by omega) (by omega) (by simp only [maxM]; omega) (sz_ints hl) (fun _ => rfl)).mono (by omega) (by omega)
theorem inses_eq : ∀ (k : Nat) (l : List aIns) (v i : Int), pointsmanlaw01_InsesSize.l1 k l v i = loopSize pointsmanlaw01_InsSize k l v i
  | 0, _, _, _ => rfl
  | k + 1, l, v, i => by rw [pointsmanlaw01_InsesSize.l1, loopSize]; simp only [inses_eq k]
/-- Code of which no list is too long. -/
def codeBm (s : List aIns) : Prop := (s.length : Int) ≤ maxM ∧ ∀ x ∈ s, (x.L.length : Int) ≤ maxM
theorem sz_inses {l : List aIns} (h : codeBm l) : Sz (pointsmanlaw01_InsesSize l) 562949953421312 l.length := by
  unfold pointsmanlaw01_InsesSize
  rw [inses_eq]
  refine (loop_sz (w := fun _ => 0) (M := 1 + maxM) (by simp only [maxM]; omega) (by simp only [maxM]; omega) h.1 (fun x hx => sz_ins (h.2 x hx)) _ _ 0 (by omega) (by omega) (by have := h.1; simp only [maxM] at *; omega) (by omega)).bind fun s hs => ⟨s, rfl, hs.1, ?_, fun hq => ?_⟩
  · have := hs.2.1; simp only [maxM] at this; omega
  · have := hs.2.2 hq; omega
theorem sz_act {x : aAct} (h0 : (x.Name.size : Int) ≤ maxM) (h1 : (x.Params.length : Int) ≤ maxM) (h2 : codeBm x.Code) : Sz (pointsmanlaw01_ActSize x) 1125899906842624 x.Code.length := by
  unfold pointsmanlaw01_ActSize
  have hn : IntKind.wrap .i64 (1 + (x.Name.size : Int)) = 1 + (x.Name.size : Int) := wrapi (by simp only [maxM] at h0; omega) (by simp only [maxM] at h0; omega)
  rw [hn]
  refine (step_sz (A := 1 + maxM) (w := 0) ⟨by omega, by simp only [maxM] at *; omega, fun _ => by omega⟩ (by simp only [maxM]; omega) (by simp only [maxM]; omega) (sz_ints h1) (fun _ => rfl)).bind fun s hs => ?_
  exact (step_sz (A := 1 + maxM + maxM) (w := 0) ⟨hs.1, hs.2.1, fun _ => hs.1⟩ (by simp only [maxM]; omega) (by omega) (sz_inses h2) (fun _ => rfl)).mono (by simp only [maxM]; omega) (by omega)
theorem acts_eq : ∀ (k : Nat) (l : List aAct) (v i : Int), pointsmanlaw01_ActsSize.l1 k l v i = loopSize pointsmanlaw01_ActSize k l v i
  | 0, _, _, _ => rfl
  | k + 1, l, v, i => by rw [pointsmanlaw01_ActsSize.l1, loopSize]; simp only [acts_eq k]
theorem sz_acts {l : List aAct} (hl : (l.length : Int) ≤ maxM) (h : ∀ x ∈ l, (x.Name.size : Int) ≤ maxM ∧ (x.Params.length : Int) ≤ maxM ∧ codeBm x.Code) : Sz (pointsmanlaw01_ActsSize l) 2251799813685248 (sumOf (fun a : aAct => a.Code.length) l) := by
  unfold pointsmanlaw01_ActsSize
  rw [acts_eq]
  refine (loop_sz (w := fun a : aAct => a.Code.length) (M := 1125899906842624) (by omega) (by omega) hl (fun x hx => sz_act (h x hx).1 (h x hx).2.1 (h x hx).2.2) _ _ 0 (by omega) (by omega) (by simp only [maxM] at *; omega) (by omega)).bind fun s hs => ⟨s, rfl, hs.1, ?_, fun hq => ?_⟩
  · have := hs.2.1; simp only [maxM] at this; omega
  · have := hs.2.2 hq; simp only [Int.toNat_zero, List.drop_zero] at this; omega
theorem sz_node {x : aNode} (h1 : (x.Heads.length : Int) ≤ maxM) (h2 : codeBm x.Code) (h3 : (x.Cases.length : Int) ≤ maxM) : Sz (pointsmanlaw01_NodeSize x) 1125899906842624 x.Code.length := by
  unfold pointsmanlaw01_NodeSize
  refine (step_sz (s := 1) (A := 1) (w := 0) (by omega) (by omega) (by simp only [maxM]; omega) (sz_ints h1) (fun _ => rfl)).bind fun s hs => ?_
  refine (step_sz (A := 1 + maxM) (w := 0) ⟨hs.1, hs.2.1, fun _ => hs.1⟩ (by simp only [maxM]; omega) (by omega) (sz_inses h2) (fun _ => rfl)).bind fun s hs => ?_
  have hj : Sz (pointsmanlaw01_JumpsSize x.Cases) maxM 0 := ⟨_, rfl, by omega, h3, fun _ => by omega⟩
  exact (step_sz ⟨hs.1, hs.2.1, hs.2.2⟩ (by simp only [maxM]; omega) (by simp only [maxM]; omega) hj (fun _ => rfl)).mono (by simp only [maxM]; omega) (by omega)
theorem nodes_eq : ∀ (k : Nat) (l : List aNode) (v i : Int), pointsmanlaw01_NodesSize.l1 k l v i = loopSize pointsmanlaw01_NodeSize k l v i
  | 0, _, _, _ => rfl
  | k + 1, l, v, i => by rw [pointsmanlaw01_NodesSize.l1, loopSize]; simp only [nodes_eq k]
theorem sz_nodes {l : List aNode} (hl : (l.length : Int) ≤ maxM) (h : ∀ x ∈ l, (x.Heads.length : Int) ≤ maxM ∧ codeBm x.Code ∧ (x.Cases.length : Int) ≤ maxM) : Sz (pointsmanlaw01_NodesSize l) 2251799813685248 (sumOf (fun a : aNode => a.Code.length) l) := by
  unfold pointsmanlaw01_NodesSize
  rw [nodes_eq]
  refine (loop_sz (w := fun a : aNode => a.Code.length) (M := 1125899906842624) (by omega) (by omega) hl (fun x hx => sz_node (h x hx).1 (h x hx).2.1 (h x hx).2.2) _ _ 0 (by omega) (by omega) (by simp only [maxM] at *; omega) (by omega)).bind fun s hs => ⟨s, rfl, hs.1, ?_, fun hq => ?_⟩
  · have := hs.2.1; simp only [maxM] at this; omega
  · have := hs.2.2 hq; simp only [Int.toNat_zero, List.drop_zero] at this; omega
theorem sz_table {x : aTable} (h0 : (x.Name.size : Int) ≤ maxM) (h1 : (x.Keys.length : Int) ≤ maxM) (h2 : (x.Kinds.length : Int) ≤ maxM) (h3 : (x.Actions.length : Int) ≤ maxM) (h4 : (x.Args.length : Int) ≤ maxM) (h5 : codeBm x.Before) : Sz (pointsmanlaw01_TableSize x) 1407374883553280 x.Before.length := by
  unfold pointsmanlaw01_TableSize
  have hn : IntKind.wrap .i64 (1 + (x.Name.size : Int)) = 1 + (x.Name.size : Int) := wrapi (by simp only [maxM] at h0; omega) (by simp only [maxM] at h0; omega)
  rw [hn]
  have hk : Sz (pointsmanlaw01_KindsSize x.Kinds) maxM 0 := ⟨_, rfl, by omega, h2, fun _ => by omega⟩
  have ha : Sz (pointsmanlaw01_NumbersSize x.Args) maxM 0 := ⟨_, rfl, by omega, h4, fun _ => by omega⟩
  refine (step_sz (A := 1 + maxM) (w := 0) ⟨by omega, by simp only [maxM] at *; omega, fun _ => by omega⟩ (by simp only [maxM]; omega) (by simp only [maxM]; omega) (sz_ints h1) (fun _ => rfl)).bind fun s hs => ?_
  refine (step_sz (A := 1 + maxM + maxM) (w := 0) ⟨hs.1, hs.2.1, fun _ => hs.1⟩ (by simp only [maxM]; omega) (by simp only [maxM]; omega) hk (fun _ => rfl)).bind fun s hs => ?_
  refine (step_sz (A := 1 + maxM + maxM + maxM) (w := 0) ⟨hs.1, hs.2.1, fun _ => hs.1⟩ (by simp only [maxM]; omega) (by simp only [maxM]; omega) (sz_ints h3) (fun _ => rfl)).bind fun s hs => ?_
  refine (step_sz (A := 1 + maxM + maxM + maxM + maxM) (w := 0) ⟨hs.1, hs.2.1, fun _ => hs.1⟩ (by simp only [maxM]; omega) (by simp only [maxM]; omega) ha (fun _ => rfl)).bind fun s hs => ?_
  exact (step_sz (A := 1 + maxM + maxM + maxM + maxM + maxM) (w := 0) ⟨hs.1, hs.2.1, fun _ => hs.1⟩ (by simp only [maxM]; omega) (by omega) (sz_inses h5) (fun _ => rfl)).mono (by simp only [maxM]; omega) (by omega)
theorem tables_eq : ∀ (k : Nat) (l : List aTable) (v i : Int), pointsmanlaw01_TablesSize.l1 k l v i = loopSize pointsmanlaw01_TableSize k l v i
  | 0, _, _, _ => rfl
  | k + 1, l, v, i => by rw [pointsmanlaw01_TablesSize.l1, loopSize]; simp only [tables_eq k]
end Go.Pt
