import Derived.Test.YtpaggjifaelcnaaGreatPL12
/-
  CodeParts, the plain law, 13: likewise: nodes, tables.
-/
set_option linter.unusedVariables false
set_option linter.unusedSimpArgs false
namespace Go.Pt
open Go Go.Pm

section
variable {c c' : aCode} (e : Ext c c')
include e
theorem x_to {k : Int} : code_look_node_1 k ⟨c'⟩ = code_look_node_1 k ⟨c⟩ := by unfold code_look_node_1; simp only [e.states]
theorem x_cases {n : aNode} {l : List aJump} (hl : (l.length : Int) ≤ maxL) (h : slices_ContainsFunc_17 l (fun x_ : aJump => code_look_node_3 x_ (fun x_ : Int => code_look_node_1 x_ ⟨c⟩) ⟨c⟩ n) = some false) :
    slices_ContainsFunc_17 l (fun x_ : aJump => code_look_node_3 x_ (fun x_ : Int => code_look_node_1 x_ ⟨c'⟩) ⟨c'⟩ n) = some false := by
  rw [CF_false hl] at h ⊢
  intro j hj
  have h := h j hj
  unfold code_look_node_3 at h ⊢
  simp only [x_to e]
  obtain ⟨a, ha, h1⟩ := bs h
  rw [show code_look_node_1 j.To ⟨c⟩ = some a from ha, Option.bind_some]
  split at h1 <;> rename_i g1
  · simp at h1
  rw [if_neg g1]
  obtain ⟨b, hb, h2⟩ := bs h1
  rw [hb, Option.bind_some]
  split at h2 <;> rename_i g2
  · simp at h2
  rw [if_neg g2]
  obtain ⟨d, hd, h3⟩ := bs h2
  rw [hd, Option.bind_some]
  split at h3 <;> rename_i g3
  · simp at h3
  rw [if_neg g3]
  obtain ⟨f, hf, h4⟩ := bs h3
  split at h4 <;> rename_i g4
  · simp at h4
  have : f = true := by cases f <;> simp_all
  subst this
  rw [x_wide e hf, Option.bind_some, if_neg (by simp)]
  rw [bind_not] at h4 ⊢
  exact x_wide e h4
theorem x_node {n : aNode} (h1 : (n.Heads.length : Int) ≤ maxL) (h2 : codeBd n.Code) (h3 : (n.Cases.length : Int) ≤ maxL) (h : code_look_node ⟨c⟩ n = some true) : code_look_node ⟨c'⟩ n = some true := by
  unfold code_look_node at h ⊢
  rw [CFi_eq] at h ⊢
  have hh : (fun x_ : Int => code_look_node_2 x_ ⟨c'⟩) = fun x_ : Int => code_look_node_2 x_ ⟨c⟩ := by funext x; unfold code_look_node_2; rw [x_head e]
  rw [hh]
  simp only [x_to e]
  obtain ⟨a, ha, g1⟩ := bs h
  rw [ha, Option.bind_some]
  rw [nite_iff] at g1 ⊢
  refine ⟨g1.1, ?_⟩
  have g2 := g1.2
  rw [nand_iff] at g2 ⊢
  refine ⟨x_code e h2.2 g2.1, ?_⟩
  have g3 := g2.2
  rw [nand_iff] at g3 ⊢
  refine ⟨g3.1, ?_⟩
  have g4 := g3.2
  have fin : ((slices_ContainsFunc_17 n.Cases (fun x_ : aJump => code_look_node_3 x_ (fun x_ : Int => code_look_node_1 x_ ⟨c⟩) ⟨c⟩ n)).bind fun t => some (!t)) = some true → ((slices_ContainsFunc_17 n.Cases (fun x_ : aJump => code_look_node_3 x_ (fun x_ : Int => code_look_node_1 x_ ⟨c⟩) ⟨c'⟩ n)).bind fun t => some (!t)) = some true := by
    intro q
    rw [bind_not'] at q ⊢
    have := x_cases e h3 q
    simp only [x_to e] at this
    exact this
  have fin2 : (if (decide (n.Slot < (0 : Int))) = true then (if (decide ((n.Cases.length : Int) > (0 : Int))) = true then (some false) else ((slices_ContainsFunc_17 n.Cases (fun x_ : aJump => code_look_node_3 x_ (fun x_ : Int => code_look_node_1 x_ ⟨c⟩) ⟨c⟩ n)).bind fun t => some (!t))) else ((slices_ContainsFunc_17 n.Cases (fun x_ : aJump => code_look_node_3 x_ (fun x_ : Int => code_look_node_1 x_ ⟨c⟩) ⟨c⟩ n)).bind fun t => some (!t))) = some true →
      (if (decide (n.Slot < (0 : Int))) = true then (if (decide ((n.Cases.length : Int) > (0 : Int))) = true then (some false) else ((slices_ContainsFunc_17 n.Cases (fun x_ : aJump => code_look_node_3 x_ (fun x_ : Int => code_look_node_1 x_ ⟨c⟩) ⟨c'⟩ n)).bind fun t => some (!t))) else ((slices_ContainsFunc_17 n.Cases (fun x_ : aJump => code_look_node_3 x_ (fun x_ : Int => code_look_node_1 x_ ⟨c⟩) ⟨c'⟩ n)).bind fun t => some (!t))) = some true := by
    intro q
    split at q <;> rename_i w1
    · rw [if_pos w1]
      rw [nite_iff] at q ⊢
      exact ⟨q.1, fin q.2⟩
    · rw [if_neg w1]; exact fin q
  split at g4 <;> rename_i w1
  · rw [if_pos w1]
    rw [nand_iff] at g4 ⊢
    exact ⟨x_slot e g4.1, fin2 g4.2⟩
  · rw [if_neg w1]; exact fin2 g4
end
end Go.Pt
