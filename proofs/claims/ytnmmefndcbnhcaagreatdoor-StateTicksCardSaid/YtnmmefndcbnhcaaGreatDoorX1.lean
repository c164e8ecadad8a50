import Derived.Test.YtnmmefndcbnhcaaGreatDoorX0
/-
  X, part 1: what is not gone through: entries without a text; grammar.Of, whichever way its loop goes.
-/
set_option linter.unusedVariables false
set_option maxRecDepth 1000000
namespace Go.U
open Go Go.RowKit

noncomputable section
/-- What is needed for grammar.Of. -/
def natE : T Nat' := .e
def cxE : Cx := cx kn0 17 natE
def ofFr (op : Nat) : Option AF := enterF cxE 430 [.i .u8 (Int.ofNat op)] .normal
def getS : Option AS → AS
  | some s => s
  | none => default
def ofHead (op : Nat) : AS := match ofFr op with
  | some fr => forget 19 [0, 6] [17, 18] (getS (runA cxE 7 ⟨fr, [], ⟨.e, 17⟩⟩))
  | none => default
def putIter (olds : List Nat) : AS → AS
  | ⟨fr, cs, ⟨t, n⟩⟩ => ⟨fr, cs, ⟨t.set 18 (.mapIter 17 15 olds 15), n⟩⟩
def ofS (op : Nat) (olds : List Nat) : AS := putIter olds (ofHead op)
def nxD : NX := { es := [], seen := [], to := fun _ => default, over := default }
def getN : Option NX → NX
  | some s => s
  | none => nxD
def ofN (op : Nat) (olds : List Nat) : NX := getN (nextAt cxE (ofS op olds))
def ofEs : List (A × A × Nat) := (ofN 5 []).es
def isOp (op : Nat) (e : A × A × Nat) : Bool := match e.2.1 with
  | .ag (.i _ n :: _) => decide (n = Int.ofNat op)
  | _ => false
def endIs (x : List Nat) (s : Option AS) : Bool := match s with
  | some s => match endOf cxE 430 s with
    | some (.s y, _) => strEqN x y
    | _ => false
  | none => false
def may (s : Option AS) : Bool := match s with
  | some s => mayForget cxE 19 [0, 6] [17, 18] s
  | none => false
/-- Of one operation: what the kernel finds out. -/
structure OfOk (op : Nat) (x : List Nat) (a b c : Nat) : Prop where
  fr : ∃ fr, ofFr op = some fr ∧ (runA cxE 7 ⟨fr, [], ⟨.e, 17⟩⟩).isSome = true ∧ may (runA cxE 7 ⟨fr, [], ⟨.e, 17⟩⟩) = true
  s0 : ofS op [] = ofHead op
  n : ∀ olds, nextAt cxE (ofS op olds) = some (ofN op olds)
  es : ∀ olds, (ofN op olds).es = ofEs
  seen : ∀ olds, (ofN op olds).seen = olds
  round : ∀ olds, (ofEs.filter fun e => !isOp op e).map (fun e => forget 19 [0, 6] [17, 18] (getS (runA cxE a ((ofN op olds).to e)))) = (ofEs.filter fun e => !isOp op e).map fun e => ofS op (e.2.2 :: olds)
  may : ∀ olds, ((ofEs.filter fun e => !isOp op e).all fun e => may (runA cxE a ((ofN op olds).to e))) = true
  stop : ∀ olds, ((ofEs.filter fun e => isOp op e).all fun e => endIs x (runA cxE b ((ofN op olds).to e))) = true
  over : ((ofEs.any (isOp op)) = true) ∨ ∀ olds, endIs x (runA cxE c (ofN op olds).over) = true
theorem ofEs_born : (ofEs.all fun e => ofEs.all fun e' => Nat.beq e.2.2 e'.2.2 == (match e.2.1, e'.2.1 with | .ag (.i _ n :: _), .ag (.i _ m :: _) => decide (n = m) | _, _ => false)) = true := by kernel_rfl
end
theorem endIs_some {x : List Nat} {s : Option AS} (h : endIs x s = true) : ∃ s', s = some s' ∧ ∃ h', endOf cxE 430 s' = some (.s x, h') := by
  unfold endIs at h
  split at h
  · rename_i s'
    split at h
    · rename_i y h' he
      exact ⟨s', rfl, h', by rw [he, strEqN_eq h]⟩
    · cases h
  · cases h
theorem may_some {s : Option AS} (h : may s = true) : ∃ s', s = some s' ∧ mayForget cxE 19 [0, 6] [17, 18] s' = true := by
  unfold may at h
  split at h
  · exact ⟨_, rfl, h⟩
  · cases h
theorem OfOk.run {op : Nat} {x : List Nat} {a b c : Nat} (H : OfOk op x a b c) : ∃ fr, enterF cxE 430 [.i .u8 (Int.ofNat op)] .normal = some fr ∧ Run cxE (fun s => ∃ h', endOf cxE 430 s = some (.s x, h')) ⟨fr, [], ⟨.e, cxE.G⟩⟩ := by
  obtain ⟨fr, h1, h2, h3⟩ := H.fr
  refine ⟨fr, h1, ?_⟩
  obtain ⟨s0, e0, m0⟩ := may_some h3
  have hh : forget 19 [0, 6] [17, 18] s0 = ofS op [] := by
    rw [H.s0]
    unfold ofHead
    rw [h1]
    show _ = forget 19 [0, 6] [17, 18] (getS (runA cxE 7 ⟨fr, [], ⟨.e, 17⟩⟩))
    rw [e0]; rfl
  refine .steps 7 e0 (.forget 19 [0, 6] [17, 18] m0 hh ?_)
  refine loop_run (ofS op) ofEs (isOp op) ?_ ?_ _ [] (Nat.le_refl _) (fun _ _ _ h => by cases h)
  · intro e he e' he' s1 s2 heq
    have := List.all_eq_true.1 (List.all_eq_true.1 ofEs_born e he) e' he'
    rw [heq, Nat.beq_refl] at this
    unfold isOp at s1 s2
    split at s1
    · rename_i k n r hx
      split at s2
      · rename_i k' n' r' hx'
        simp only [hx, hx'] at this
        simp at this s1 s2
        exact s2 (by rw [← this]; exact s1)
      · rename_i hx'
        rw [hx] at this
        split at this
        · rename_i q1 q2; exact absurd q2 (hx' _ _ _)
        · cases this
    · cases s1
  · intro olds
    refine ⟨ofN op olds, H.n olds, H.es olds, H.seen olds, fun e he hs hr => ?_, fun e he hs => ?_, fun hall => ?_⟩
    · have hm : e ∈ ofEs.filter fun e => !isOp op e := List.mem_filter.2 ⟨he, by rw [hs]; rfl⟩
      obtain ⟨s', e1, e2⟩ := may_some (List.all_eq_true.1 (H.may olds) e hm)
      have e3 := (List.map_inj_left.1 (H.round olds)) e hm
      rw [e1] at e3
      exact .steps a e1 (.forget 19 [0, 6] [17, 18] e2 e3 hr)
    · have hm : e ∈ ofEs.filter fun e => isOp op e := List.mem_filter.2 ⟨he, hs⟩
      obtain ⟨s', e1, e2⟩ := endIs_some (List.all_eq_true.1 (H.stop olds) e hm)
      exact .steps b e1 (.done e2)
    · rcases H.over with h | h
      · obtain ⟨e, he, hs⟩ := List.any_eq_true.1 h
        rw [hall e he] at hs; cases hs
      · obtain ⟨s', e1, e2⟩ := endIs_some (h olds)
        exact .steps c e1 (.done e2)
end Go.U
