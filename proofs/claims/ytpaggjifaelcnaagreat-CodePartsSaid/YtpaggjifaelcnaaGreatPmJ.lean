import Derived.Test.YtpaggjifaelcnaaGreatPmH
import Derived.Orders
/-
  PM, part J: regions that draw their order: each operation by itself.
-/
set_option linter.unusedVariables false
set_option linter.unusedSimpArgs false
namespace Go.Pm
open Go Go.RowKit

theorem St.drew {B : Base} {Γ : List Ent} {Δ : List Rs} {I : ISet} {a : Act} {w : World} (h : St B Γ Δ I a w) (n : Nat) : St B Γ Δ I a { w with drawn := n } := by
  have g : Grow I w I { w with drawn := n } := ⟨Nat.le_refl _, fun _ h => h, fun _ _ => rfl⟩
  obtain ⟨F, hS, hF⟩ := h.ws
  exact h.step g ⟨F, hS.mono g (fun _ _ => rfl), ⟨hF.os, hF.tape, hF.output, hF.le, hF.sub, hF.same, hF.only, hF.fp, hF.lt, hF.gl⟩⟩

/-- Nothing was put there. -/
def vUnd : Vd Unit := ⟨fun _ _ v _ => v = undef, fun _ h => h⟩
/-- Not this answer. -/
def NoY (b : Bool) (e : Ent) : Prop := ∀ I w v, e.V.P I w v e.x → v ≠ .bool b
theorem noy_b {b x : Bool} {s : Nat} (h : x = !b) : NoY b ⟨s, vBool, x⟩ := fun I w v hv => by
  rw [vBool_iff.1 hv]
  intro he
  have : x = b := by injection he
  rw [h] at this; cases b <;> simp at this
theorem noy_u {b : Bool} {s : Nat} : NoY b ⟨s, vUnd, ()⟩ := fun I w v hv => by
  have : v = undef := hv
  subst this; simp [undef]
theorem noy_yield {ops : Array Oper} {a : Act} {j s : Nat} {b : Bool} {v : Value} (hj : (ops[j]?).bind (·.dst) = some s) (hv : a.tmps[s]? = some v) (hn : v ≠ .bool b) : ¬ yielded ops a.tmps j = some b := by
  simp only [yielded, hj, Option.bind_some, hv]
  cases v <;> simp_all
section
variable {P : Program} {B : Base} {Γ : List Ent} {Δ : List Rs} {Q : Exit → Act → World → Prop}
/-- A guard that says no. -/
theorem g_n {ops : Array Oper} {d op t p af j b l} (e : Ent) (hj : (ops[j]?).bind (·.dst) = some e.s) (hs : look Γ e.s = some e) (hn : NoY b e) (hd : d < B.N) (k : RL P B ops (⟨d, vUnd, ()⟩ :: Γ) Δ l Q) :
    RL P B ops Γ Δ (⟨some d, op, t, p, af, some (j, b)⟩ :: l) Q := by
  intro I a w st
  obtain ⟨v, hv, hp⟩ := st.env _ _ hs
  have hy := noy_yield hj hv (hn I w v hp)
  unfold wpList
  rw [if_neg (by simp [Region.wanted, hy])]
  exact k I _ w (st.put0 hd rfl)
theorem g_n0 {ops : Array Oper} {op t p af j b l} (e : Ent) (hj : (ops[j]?).bind (·.dst) = some e.s) (hs : look Γ e.s = some e) (hn : NoY b e) (k : RL P B ops Γ Δ l Q) :
    RL P B ops Γ Δ (⟨none, op, t, p, af, some (j, b)⟩ :: l) Q := by
  intro I a w st
  obtain ⟨v, hv, hp⟩ := st.env _ _ hs
  have hy := noy_yield hj hv (hn I w v hp)
  unfold wpList
  rw [if_neg (by simp [Region.wanted, hy])]
  exact k I a w st
end

def without (d : Nat) : List Ent → List Ent
  | [] => []
  | e :: Γ => cond (Nat.beq e.s d) (without d Γ) (e :: without d Γ)
theorem look_without {d s : Nat} (h : s ≠ d) : ∀ Γ, look (without d Γ) s = look Γ s
  | [] => rfl
  | e :: Γ => by
    by_cases he : e.s = d
    · have : Nat.beq e.s d = true := by simp [he]
      simp only [without, this, cond_true, look_without h Γ, look]
      rw [beq_ne (by omega)]; rfl
    · simp only [without, beq_ne he, cond_false, look, look_without h Γ]
theorem look_without_self (d : Nat) : ∀ Γ, look (without d Γ) d = none
  | [] => rfl
  | e :: Γ => by
    by_cases he : e.s = d
    · have : Nat.beq e.s d = true := by simp [he]
      simp only [without, this, cond_true, look_without_self d Γ]
    · simp only [without, beq_ne he, cond_false, look, look_without_self d Γ]
theorem St.lose {B Γ Δ I a w d v} (h : St B Γ Δ I a w) : St B (without d Γ) Δ I (a.put (some d) v) w := by
  have h2 : St B (without d Γ) Δ I a w := h.sub fun s e he => by
    by_cases hs : s = d
    · subst hs; rw [look_without_self] at he; cases he
    · rwa [look_without hs] at he
  exact h2.forget (look_without_self d Γ)

def nodupB : List Nat → Bool
  | [] => true
  | x :: l => !l.contains x && nodupB l
theorem nodupB_ok : ∀ {l : List Nat}, nodupB l = true → l.Nodup
  | [], _ => List.nodup_nil
  | x :: l, h => by
    simp only [nodupB, Bool.and_eq_true, Bool.not_eq_true', List.contains_eq_mem, decide_eq_false_iff_not] at h
    exact List.nodup_cons.2 ⟨h.1, nodupB_ok h.2⟩
def edgesB : Nat → List Oper → Bool
  | _, [] => true
  | n, o :: l => (o.after.toList.all fun e => !Region.binds .any e || Nat.blt e.on n) && edgesB (n + 1) l
theorem edgesB_ok : ∀ {l : List Oper} {n i : Nat} {o : Oper}, edgesB n l = true → l[i]? = some o → ∀ e ∈ o.after, Region.binds .any e = true → e.on < n + i
  | o :: l, n, 0, o', h, ho, e, he, hb => by
    simp only [List.getElem?_cons_zero, Option.some.injEq] at ho
    subst ho
    simp only [edgesB, Bool.and_eq_true, List.all_eq_true] at h
    have := h.1 e (by simpa using he)
    rw [hb] at this
    exact lt (by simpa using this)
  | o :: l, n, i + 1, o', h, ho, e, he, hb => by
    simp only [edgesB, Bool.and_eq_true] at h
    have := edgesB_ok (n := n + 1) (i := i) h.2 (by simpa using ho) e he hb
    omega
  | [], _, _, _, _, ho, _, _, _ => by simp at ho

def dstsOf (l : List Oper) : List Nat := l.filterMap (·.dst)
section
variable {P : Program} {B : Base} {base : List Ent} {Δ : List Rs} {Q : Exit → Act → World → Prop}

theorem dst_inj {l : List Oper} (hn : (dstsOf l).Nodup) {i j : Nat} {o o' : Oper} {d : Nat} (hi : l[i]? = some o) (hj : l[j]? = some o') (h : o.dst = some d) (h' : o'.dst = some d) : i = j := by
  induction l generalizing i j with
  | nil => simp at hi
  | cons x l ih =>
    have hmem : ∀ {k : Nat} {y : Oper}, l[k]? = some y → y.dst = some d → d ∈ dstsOf l := fun hk hy => List.mem_filterMap.2 ⟨_, List.mem_of_getElem? hk, hy⟩
    have hn' : (dstsOf l).Nodup ∧ ∀ d, x.dst = some d → d ∉ dstsOf l := by
      unfold dstsOf at hn ⊢
      cases hx : x.dst with
      | none => simp only [List.filterMap_cons, hx] at hn; exact ⟨hn, by simp⟩
      | some c => simp only [List.filterMap_cons, hx] at hn; exact ⟨(List.nodup_cons.1 hn).2, by rintro _ ⟨⟩; exact (List.nodup_cons.1 hn).1⟩
    cases i with
    | zero =>
      cases j with
      | zero => rfl
      | succ j => simp at hi hj; subst hi; exact absurd (hmem hj h') (hn'.2 d h)
    | succ i =>
      cases j with
      | zero => simp at hi hj; subst hj; exact absurd (hmem hi h) (hn'.2 d h')
      | succ j => simp at hi hj; rw [ih hn'.1 hi hj]

theorem wp_noguard {o : Oper} {a : Act} {w : World} {K : Act → World → Prop} {Q : Exit → Act → World → Prop} (h : (⟨o.dst, o.op, o.type, o.pos, o.after, none⟩ : Oper).wp P a w K Q) : o.wp P a w K Q := by cases o; exact h

end
end Go.Pm
