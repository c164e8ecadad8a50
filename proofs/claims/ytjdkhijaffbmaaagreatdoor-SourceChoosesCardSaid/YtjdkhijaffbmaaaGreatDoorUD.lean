import Derived.Lib.Bytealg
import Derived.Maps.RangeRun
import Derived.Test.YtjdkhijaffbmaaaGreatDoorUC
/-
  U, part 37: a call that was gone through once, taken up elsewhere: the memory that it is given, and what comes back.
-/
set_option linter.unusedVariables false
set_option linter.unusedSimpArgs false
set_option linter.unusedSectionVars false
namespace Go.U
open Go Go.RowKit

section
variable {G c0 : Nat} {ψ : Psi} {ρ : Nat → Int} (hc : c0 ≤ MB)
theorem mV_one {a b : A} {r r' : T Nat} (h : mV G c0 a b r = some r') (hb : b.one = true) : a.one = true := by
  cases a with
  | ag l => unfold mV at h; split at h; cases hb; cases h
  | tu l => unfold mV at h; split at h; cases hb; cases h
  | _ => rfl
include hc
theorem mCells_sound : ∀ {l : List A} {t : T A} {j : Nat} {r r' : T Nat}, mCells G c0 l t j r = some r' → Ext r r' ∧ ∀ R, Ext r' R → ∀ q a, l[q]? = some a → ∃ b, t.get (j + q) = some b ∧ (b.one = true → a.one = true) ∧ ∀ v, VR ρ ψ b v → VR ρ (cPsi G c0 ψ R) a v
  | [], t, j, r, r', h => by cases h; exact ⟨Ext.refl _, fun R _ q a hq => by simp at hq⟩
  | a :: l, t, j, r, r', h => by
    unfold mCells at h
    split at h
    case h_2 => cases h
    rename_i b hb
    split at h
    case h_2 => cases h
    rename_i r1 hr1
    obtain ⟨h1, h2⟩ := mV_sound (ψ := ψ) (ρ := ρ) hc a b hr1
    obtain ⟨h3, h4⟩ := mCells_sound h
    refine ⟨h1.trans h3, fun R hR q a' hq => ?_⟩
    cases q with
    | zero =>
      simp only [List.getElem?_cons_zero, Option.some.injEq] at hq
      subst hq
      exact ⟨b, hb, mV_one hr1, h2 R (h3.trans hR)⟩
    | succ q =>
      obtain ⟨b', k1, k2⟩ := h4 R hR q a' (by simpa using hq)
      exact ⟨b', by rw [show j + (q + 1) = j + 1 + q by omega]; exact k1, k2⟩
theorem mEs_sound : ∀ {as bs : List (A × A × Nat)} {r r' : T Nat}, mEs G c0 as bs r = some r' → Ext r r' ∧ ∀ R, Ext r' R → ∀ es, EsR ρ ψ bs es → EsR ρ (cPsi G c0 ψ R) as es
  | [], bs, r, r', h => by
    unfold mEs at h
    split at h
    · cases h; exact ⟨Ext.refl _, fun R _ es he => he⟩
    · cases h
  | a :: as, bs, r, r', h => by
    unfold mEs at h
    split at h
    case h_2 => cases h
    rename_i b bs
    cases hb : Nat.beq a.2.2 b.2.2 with
    | false => rw [hb] at h; cases h
    | true =>
      rw [hb] at h
      simp only [cond_true] at h
      split at h
      case h_2 => cases h
      rename_i r1 hr1
      split at h
      case h_2 => cases h
      rename_i r2 hr2
      obtain ⟨h1, h2⟩ := mV_sound (ψ := ψ) (ρ := ρ) hc _ _ hr1
      obtain ⟨h3, h4⟩ := mV_sound (ψ := ψ) (ρ := ρ) hc _ _ hr2
      obtain ⟨h5, h6⟩ := mEs_sound h
      refine ⟨(h1.trans h3).trans h5, fun R hR es he => ?_⟩
      obtain ⟨b1, b2, b3⟩ := b
      obtain ⟨a1, a2, a3⟩ := a
      obtain ⟨e, l', k1, k2, k3, k4, k5⟩ := he
      exact ⟨e, l', k1, h2 R ((h3.trans h5).trans hR) _ k2, h4 R (h5.trans hR) _ k3, k4.trans (Nat.eq_of_beq_eq_true hb).symm, h6 R hR _ k5⟩
theorem mO_sound {co : CO} {o : AO} {r r' : T Nat} (h : mO G c0 co o r = some r') : Ext r r' ∧ ∀ R, Ext r' R → ∀ B ob, OR ρ ψ B o ob → OR ρ (cPsi G c0 ψ R) B co.kao ob := by
  cases co with
  | cells e ro l =>
    unfold mO at h
    simp only at h
    split at h
    case h_2 => cases h
    rename_i e' ro' n t
    cases hb : (Nat.beq e e' && Nat.beq l.length n) with
    | false => rw [hb] at h; cases h
    | true =>
      rw [hb] at h
      simp only [Bool.and_eq_true] at hb
      obtain ⟨h1, h2⟩ := mCells_sound (ψ := ψ) (ρ := ρ) hc h
      refine ⟨h1, fun R hR B ob ho => ?_⟩
      obtain ⟨arr, fr, k1, k2, k3, k4, k5⟩ := ho
      rw [← Nat.eq_of_beq_eq_true hb.1] at k1
      have hn := Nat.le_of_eq (Nat.eq_of_beq_eq_true hb.2)
      refine ⟨arr, fr, k1, k2, fun q => (by cases q), by omega, fun j a hj => ?_⟩
      rcases T.get_ofList hj with ⟨_, q2⟩ | ⟨_, q2⟩
      · rw [Nat.sub_zero] at q2
        obtain ⟨b, g1, g2, g3⟩ := h2 R hR j a q2
        rw [Nat.zero_add] at g1
        obtain ⟨c1, ⟨v, c2, c3⟩, c4⟩ := k5 j b g1
        exact ⟨g2 c1, ⟨v, c2, g3 v c3⟩, (List.getElem?_eq_some_iff.1 q2).1⟩
      · rw [T.get_e] at q2; cases q2
  | map es c =>
    unfold mO at h
    simp only at h
    split at h
    case h_2 => cases h
    rename_i es' c'
    cases hb : Nat.beq c c' with
    | false => rw [hb] at h; cases h
    | true =>
      rw [hb] at h
      obtain ⟨h1, h2⟩ := mEs_sound (ψ := ψ) (ρ := ρ) hc h
      refine ⟨h1, fun R hR B ob ho => ?_⟩
      obtain ⟨l, k1, k2⟩ := ho
      rw [Nat.eq_of_beq_eq_true hb]
      exact ⟨l, k1, h2 R hR l k2⟩
theorem mO_shape {e : TypeId} {ro : Bool} {l : List A} {o : AO} {r r' : T Nat} (h : mO G c0 (.cells e ro l) o r = some r') : ∃ ro' t, o = .cells e ro' l.length t := by
  unfold mO at h
  simp only at h
  split at h
  case h_2 => cases h
  rename_i e' ro' n t
  cases hb : (Nat.beq e e' && Nat.beq l.length n) with
  | false => rw [hb] at h; cases h
  | true =>
    simp only [Bool.and_eq_true] at hb
    rw [Nat.eq_of_beq_eq_true hb.1, Nat.eq_of_beq_eq_true hb.2]
    exact ⟨ro', t, rfl⟩
def Shape (co : CO) (o : AO) : Prop := ∀ e ro n t, co.kao = .cells e ro n t → ∃ ro' t', o = .cells e ro' n t'
theorem mO_sh {co : CO} {o : AO} {r r' : T Nat} (h : mO G c0 co o r = some r') : Shape co o := fun e ro n t e1 => by
  cases co with
  | cells e' ro' l => cases e1; exact mO_shape hc h
  | map es c => cases e1
theorem mObjs_sound {h : Hp} : ∀ {os : List CO} {i : Nat} {r r' : T Nat}, mObjs G c0 h i os r = some r' → Ext r r' ∧ ∀ R, Ext r' R → ∀ q co, os[q]? = some co → ∃ j o, R.get (i + q) = some j ∧ h.get j = some o ∧ Shape co o ∧ ∀ B ob, OR ρ ψ B o ob → OR ρ (cPsi G c0 ψ R) B co.kao ob
  | [], i, r, r', e => by cases e; exact ⟨Ext.refl _, fun R _ q co hq => by simp at hq⟩
  | o :: os, i, r, r', e => by
    unfold mObjs at e
    split at e
    case h_2 => cases e
    rename_i j hj
    split at e
    case h_2 => cases e
    rename_i o' ho'
    split at e
    case h_2 => cases e
    rename_i r1 hr1
    obtain ⟨h1, h2⟩ := mO_sound (ψ := ψ) (ρ := ρ) hc hr1
    obtain ⟨h3, h4⟩ := mObjs_sound e
    refine ⟨h1.trans h3, fun R hR q co hq => ?_⟩
    cases q with
    | zero =>
      simp only [List.getElem?_cons_zero, Option.some.injEq] at hq
      subst hq
      exact ⟨j, o', hR _ _ (h3 _ _ (h1 _ _ hj)), ho', mO_sh hc hr1, h2 R (h3.trans hR)⟩
    | succ q =>
      obtain ⟨j', o2, k1, k2⟩ := h4 R hR q co (by simpa using hq)
      exact ⟨j', o2, by rw [show i + (q + 1) = i + 1 + q by omega]; exact k1, k2⟩
theorem mGs_sound {h : Hp} : ∀ {os : List (Nat × CO)} {r r' : T Nat}, mGs G c0 h os r = some r' → Ext r r' ∧ ∀ R, Ext r' R → ∀ p ∈ os, p.1 < G ∧ ∃ o, h.get p.1 = some o ∧ Shape p.2 o ∧ ∀ B ob, OR ρ ψ B o ob → OR ρ (cPsi G c0 ψ R) B p.2.kao ob
  | [], r, r', e => by cases e; exact ⟨Ext.refl _, fun R _ p hp => by cases hp⟩
  | p :: os, r, r', e => by
    unfold mGs at e
    cases hb : Nat.blt p.1 G with
    | false => rw [hb] at e; cases e
    | true =>
      rw [hb] at e
      simp only [cond_true] at e
      split at e
      case h_2 => cases e
      rename_i o' ho'
      split at e
      case h_2 => cases e
      rename_i r1 hr1
      obtain ⟨h1, h2⟩ := mO_sound (ψ := ψ) (ρ := ρ) hc hr1
      obtain ⟨h3, h4⟩ := mGs_sound e
      refine ⟨h1.trans h3, fun R hR p' hp' => ?_⟩
      cases hp' with
      | head => exact ⟨by rw [Nat.blt_eq] at hb; exact hb, o', ho', mO_sh hc hr1, h2 R (h3.trans hR)⟩
      | tail _ hp' => exact h4 R hR p' hp'
end
theorem putGs_get : ∀ {l : List (Nat × CO)} {t : T AO} {i : Nat} {o : AO}, (putGs l t).get i = some o → (∃ p ∈ l, p.1 = i ∧ o = p.2.kao) ∨ t.get i = some o
  | [], t, i, o, h => .inr h
  | p :: l, t, i, o, h => by
    rcases putGs_get (l := l) h with ⟨q, q1, q2⟩ | q
    · exact .inl ⟨q, List.mem_cons_of_mem _ q1, q2⟩
    · rcases T.get_set q with ⟨h1, h2⟩ | ⟨_, h2⟩
      · exact .inl ⟨p, List.mem_cons_self .., h1.symm, h2.symm⟩
      · exact .inr h2
theorem canon_get {G : Nat} {ck : Chunk} {i : Nat} {o : AO} (h : (canon G ck).get i = some o) : (∃ q co, i = G + q ∧ ck.objs[q]? = some co ∧ o = co.kao) ∨ ∃ p ∈ ck.gs, p.1 = i ∧ o = p.2.kao := by
  have h : (T.ofList (ck.objs.map CO.kao) G (putGs ck.gs .e)).get i = some o := h
  rcases T.get_ofList h with ⟨h1, h2⟩ | ⟨_, h2⟩
  · rw [List.getElem?_map, Option.map_eq_some_iff] at h2
    obtain ⟨co, h3, rfl⟩ := h2
    exact .inl ⟨i - G, co, by omega, h3, rfl⟩
  · rcases putGs_get h2 with h3 | h3
    · exact .inr h3
    · rw [T.get_e] at h3; cases h3
/-! what comes back -/
section
variable {ψ ψ' : Psi} {ρ : Nat → Int} {f : Nat → Nat}
theorem rnFn_sound (hf : ∀ i B, ψ i = some B → ψ' (f i) = some B) {g g' : Fn} (h : FnR ψ g g') : FnR ψ' (rnFn f g) g' := by
  cases g <;> first | exact h | skip
  obtain ⟨B, h1, h2⟩ := h
  exact ⟨B, hf _ _ h1, h2⟩
theorem rnA_one (a : A) : (rnA f a).one = a.one := by
  unfold rnA
  split <;> first | rfl | skip
theorem rnAs_one : ∀ (l : List A), (rnAs f l).all A.one = l.all A.one
  | [] => by unfold rnAs; rfl
  | a :: l => by unfold rnAs; simp only [List.all_cons, rnA_one, rnAs_one l]
theorem rnAs_map : ∀ (l : List A), rnAs f l = l.map (rnA f)
  | [] => by unfold rnAs; rfl
  | a :: l => by unfold rnAs; rw [rnAs_map l]; rfl
mutual
theorem rnA_sound (hf : ∀ i B, ψ i = some B → ψ' (f i) = some B) : ∀ (a : A) (v : Value), VR ρ ψ a v → VR ρ ψ' (rnA f a) v
  | .p (some (i, o)), v, h => by obtain ⟨B, h1, h2⟩ := h; unfold rnA; exact ⟨B, hf _ _ h1, h2⟩
  | .sl (some (i, o, es)) n c ex, v, h => by obtain ⟨B, k, h1, h2⟩ := h; unfold rnA; exact ⟨B, k, hf _ _ h1, h2⟩
  | .m (some i), v, h => by obtain ⟨B, h1, h2⟩ := h; unfold rnA; exact ⟨B, hf _ _ h1, h2⟩
  | .ifc t x, v, h => by obtain ⟨u, h1, h2⟩ := h; unfold rnA; exact ⟨u, h1, rnA_sound hf x u h2⟩
  | .ag l, v, h => by obtain ⟨us, h1, h2, h3⟩ := h; unfold rnA; exact ⟨us, h1, rnAs_sound hf l us h2, by rw [rnAs_one]; exact h3⟩
  | .tu l, v, h => by obtain ⟨us, h1, h2⟩ := h; unfold rnA; exact ⟨us, h1, rnAs_sound hf l us h2⟩
  | .f fn x y, v, h => by obtain ⟨g, us, vs, h1, h2, h3, h4⟩ := h; unfold rnA; exact ⟨g, us, vs, rnFn_sound hf h1, h2, rnAs_sound hf x us h3, rnAs_sound hf y vs h4⟩
  | .p none, v, h => by unfold rnA; exact h
  | .sl none n c ex, v, h => by unfold rnA; exact h
  | .m none, v, h => by unfold rnA; exact h
  | .b x, v, h => by unfold rnA; exact h
  | .i k n, v, h => by unfold rnA; exact h
  | .y k e, v, h => by unfold rnA; exact h
  | .s l, v, h => by unfold rnA; exact h
  | .nf, v, h => by unfold rnA; exact h
  | .ni, v, h => by unfold rnA; exact h
  | .se, v, h => by unfold rnA; exact h
theorem rnAs_sound (hf : ∀ i B, ψ i = some B → ψ' (f i) = some B) : ∀ (as : List A) (vs : List Value), VRs ρ ψ as vs → VRs ρ ψ' (rnAs f as) vs
  | [], vs, h => by unfold rnAs; exact h
  | a :: as, vs, h => by obtain ⟨u, us, h1, h2, h3⟩ := h; unfold rnAs; exact ⟨u, us, h1, rnA_sound hf a u h2, rnAs_sound hf as us h3⟩
end
theorem rnEs_sound (hf : ∀ i B, ψ i = some B → ψ' (f i) = some B) : ∀ (as : List (A × A × Nat)) (es : List MapEntry), EsR ρ ψ as es → EsR ρ ψ' (rnEs f as) es
  | [], es, h => h
  | (a, b, c) :: as, es, ⟨e, l', h1, h2, h3, h4, h5⟩ => ⟨e, l', h1, rnA_sound hf _ _ h2, rnA_sound hf _ _ h3, h4, rnEs_sound hf as _ h5⟩
theorem isCells_get : ∀ {l : List A} {t : T A} {j : Nat}, isCells l t j = true → ∀ q a, l[q]? = some a → t.get (j + q) = some a
  | [], t, j, h, q, a, hq => by simp at hq
  | b :: l, t, j, h, q, a, hq => by
    unfold isCells at h
    split at h
    case h_2 => cases h
    rename_i c hc
    rw [Bool.and_eq_true] at h
    cases q with
    | zero =>
      simp only [List.getElem?_cons_zero, Option.some.injEq] at hq
      subst hq
      rw [sameV_eq h.1]; exact hc
    | succ q => rw [show j + (q + 1) = j + 1 + q by omega]; exact isCells_get h.2 q a (by simpa using hq)
theorem isEs_eq : ∀ {as bs : List (A × A × Nat)}, isEs as bs = true → as = bs
  | [], bs, h => by unfold isEs at h; split at h; rfl; cases h
  | (a1, a2, a3) :: as, bs, h => by
    unfold isEs at h
    split at h
    · rename_i b bs
      obtain ⟨b1, b2, b3⟩ := b
      simp only [Bool.and_eq_true] at h
      obtain ⟨h1, h2, h3, h4⟩ := h
      rw [Nat.eq_of_beq_eq_true h1, sameV_eq h2, sameV_eq h3, isEs_eq h4]
    · cases h
theorem isCO_sound (hf : ∀ i B, ψ i = some B → ψ' (f i) = some B) {co : CO} {o : AO} (h : isCO co o = true) {B : Blk} {ob : Obj} (ho : OR ρ ψ B o ob) : OR ρ ψ' B (co.rn f).ao ob := by
  cases co with
  | cells e ro l =>
    unfold isCO at h
    simp only at h
    split at h
    case h_2 => cases h
    rename_i e' ro' n t
    simp only [Bool.and_eq_true] at h
    obtain ⟨h1, h2, h3, h4⟩ := h
    obtain ⟨arr, fr, k1, k2, k3, k4, k5⟩ := ho
    rw [← Nat.eq_of_beq_eq_true h1] at k1
    have hn := Nat.le_of_eq (Nat.eq_of_beq_eq_true h3)
    have hlen : (rnAs f l).length = l.length := by rw [rnAs_map]; simp
    refine ⟨arr, fr, k1, k2, fun q => k3 ?_, by rw [hlen]; omega, fun j a hj => ?_⟩
    · subst q
      cases ro' with
      | false => rfl
      | true => cases h2
    · rcases T.get_ofList hj with ⟨_, q2⟩ | ⟨_, q2⟩
      · rw [Nat.sub_zero, rnAs_map, List.getElem?_map, Option.map_eq_some_iff] at q2
        obtain ⟨x, q3, rfl⟩ := q2
        have g1 := isCells_get h4 j x q3
        rw [Nat.zero_add] at g1
        obtain ⟨c1, ⟨v, c2, c3⟩, c4⟩ := k5 j x g1
        exact ⟨by rw [rnA_one]; exact c1, ⟨v, c2, rnA_sound hf _ _ c3⟩, by rw [hlen]; exact (List.getElem?_eq_some_iff.1 q3).1⟩
      · rw [T.get_e] at q2; cases q2
  | map es c =>
    unfold isCO at h
    simp only at h
    split at h
    case h_2 => cases h
    rename_i es' c'
    simp only [Bool.and_eq_true] at h
    obtain ⟨l, k1, k2⟩ := ho
    rw [← isEs_eq h.2] at k2
    rw [← Nat.eq_of_beq_eq_true h.1] at k1
    exact ⟨l, k1, rnEs_sound hf _ _ k2⟩
theorem isCO_shape {co : CO} {o : AO} (h : isCO co o = true) : ∀ e ro n t, (co.rn f).ao = .cells e ro n t → ∃ ro' t', o = .cells e ro' n t' := by
  intro e ro n t e1
  cases co with
  | map es c => cases e1
  | cells e' ro' l =>
    cases e1
    unfold isCO at h
    simp only at h
    split at h
    case h_2 => cases h
    rename_i e2 ro2 n2 t2
    simp only [Bool.and_eq_true] at h
    obtain ⟨h1, h2, h3, h4⟩ := h
    have hlen : (rnAs f l).length = l.length := by rw [rnAs_map]; simp
    rw [hlen, Nat.eq_of_beq_eq_true h1, Nat.eq_of_beq_eq_true h3]
    exact ⟨ro2, t2, rfl⟩
theorem putNew_get : ∀ {l : List (Nat × CO)} {t : T AO} {j : Nat} {o : AO}, (putNew f l t).get j = some o → (∃ p ∈ l, j = f p.1 ∧ o = (p.2.rn f).ao) ∨ t.get j = some o
  | [], t, j, o, h => .inr h
  | p :: l, t, j, o, h => by
    rcases putNew_get (l := l) h with ⟨q, q1, q2⟩ | q
    · exact .inl ⟨q, List.mem_cons_of_mem _ q1, q2⟩
    · rcases T.get_set q with ⟨h1, h2⟩ | ⟨_, h2⟩
      · exact .inl ⟨p, List.mem_cons_self .., h1, h2.symm⟩
      · exact .inr h2
theorem isNew_get {c0 : Nat} {h : Hp} : ∀ {l : List (Nat × CO)}, isNew c0 h l = true → ∀ p ∈ l, c0 ≤ p.1 ∧ ∃ o, h.get p.1 = some o ∧ isCO p.2 o = true
  | [], _, p, hp => by cases hp
  | q :: l, hn, p, hp => by
    unfold isNew at hn
    simp only [Bool.and_eq_true] at hn
    cases hp with
    | head =>
      refine ⟨Nat.le_of_ble_eq_true hn.1, ?_⟩
      have h2 := hn.2.1
      split at h2
      · rename_i o ho; exact ⟨o, ho, h2⟩
      · cases h2
    | tail _ hp => exact isNew_get hn.2.2 p hp
end
end Go.U
/-
  U, part 38: a call that was gone through once, taken up elsewhere.
-/
set_option linter.unusedVariables false
set_option linter.unusedSimpArgs false
set_option linter.unusedSectionVars false
namespace Go.U
open Go Go.RowKit

/-- What is said of a call that is not gone through. -/
def CallIs (C : Cx) (ρ : Nat → Int) (w0 : World) (K : Nat → Option Obj) (ψ : Psi) (w : World) (f : FuncId) (us : List Value) (a : A) (h' : Hp) : Prop :=
  (∀ w, (callFunc f us.toArray).run C.P w = .ok (.enter f us.toArray) w) ∧ Calls C.P f us.toArray w fun e w' => ∃ v ψ', e = .returned v ∧ ψ.le ψ' ∧ Mem C ρ w0 K ψ' h' w' ∧ VR ρ ψ' a v
theorem Calls.to {P : Program} {f : FuncId} {us : Array Value} {w : World} {R R' : Ending → World → Prop} (h : Calls P f us w R) (k : ∀ e w', R e w' → R' e w') : Calls P f us w R' :=
  fun cs => let ⟨e, w', fr, h1, h2⟩ := h cs; ⟨e, w', fr, k e w' h1, h2⟩
def SubOk (C : Cx) (ρ : Nat → Int) (G : Nat) (f : FuncId) (ck : Chunk) : Prop :=
  ∀ w0 K ψ h w args us a h', Mem C ρ w0 K ψ h w → VRs ρ ψ args us → natSub G ck args h = some (a, h') → CallIs C ρ w0 K ψ w f us a h'
theorem sub_sound {C C' : Cx} {ρ : Nat → Int} (hex : C'.ex = C.ex) (hP : C'.P = C.P) (hN : C'.N = C.N) {G : Nat} (hNG : C.N ≤ G) (hGC : G ≤ C.G) {ck : Chunk} (hG' : C'.G = G + ck.objs.length) (hc : G + ck.objs.length ≤ MB) (hok' : C'.Ok ρ) (nat' : ∀ w0, NatOk C' ρ w0) (hMix : C.P.follows .mixedOrders = true)
    {n : Nat} {f : FuncId} (hck : ChunkOk C' G n f ck) : SubOk C ρ G f ck := by
  intro w0 K ψ h w args us a h' m hu he
  unfold natSub at he
  split at he
  case h_2 => cases he
  rename_i R hR
  generalize hc0 : G + ck.objs.length = c0 at he hR hG' hc
  unfold mAll at hR
  split at hR
  case h_2 => cases hR
  rename_i r0 hr0
  split at hR
  case h_2 => cases hR
  rename_i r1 hr1
  obtain ⟨e0, f0⟩ := mVs_sound (ψ := ψ) (ρ := ρ) hc _ _ hr0
  obtain ⟨e1, f1⟩ := mGs_sound (ψ := ψ) (ρ := ρ) hc hr1
  obtain ⟨e2, f2⟩ := mObjs_sound (ψ := ψ) (ρ := ρ) hc hR
  have hvs : VRs ρ (cPsi G c0 ψ R) ck.args us := f0 R (e1.trans e2) us hu
  have g1 := f1 R e2
  have g2 := f2 R (Ext.refl R)
  have pG : ∀ i, i < G → cPsi G c0 ψ R i = ψ i := fun i hi => by unfold cPsi; rw [if_pos hi]
  have pO : ∀ q co, ck.objs[q]? = some co → ∃ j o, R.get (G + q) = some j ∧ h.get j = some o ∧ cPsi G c0 ψ R (G + q) = ψ j ∧ Shape co o ∧ ∀ B ob, OR ρ ψ B o ob → OR ρ (cPsi G c0 ψ R) B co.kao ob := fun q co hq => by
    obtain ⟨j, o, k1, k2, ksh, k3⟩ := g2 q co hq
    have hlt := (List.getElem?_eq_some_iff.1 hq).1
    refine ⟨j, o, k1, k2, ?_, ksh, k3⟩
    unfold cPsi
    rw [if_neg (by omega), if_pos (by omega), k1]; rfl
  have pN : ∀ i, c0 ≤ i → cPsi G c0 ψ R i = none := fun i hi => by unfold cPsi; rw [if_neg (by omega), if_neg (by omega)]
  have keyC : ∀ i o, (canon G ck).get i = some o → i < c0 := fun i o hi => by
    rcases canon_get hi with ⟨q, co, rfl, hq, _⟩ | ⟨p, hp, rfl, _⟩
    · have := (List.getElem?_eq_some_iff.1 hq).1; omega
    · have := (g1 p hp).1; omega
  have lowC : ∀ i, i < c0 → ∃ j B ob, cPsi G c0 ψ R i = some B ∧ ψ j = some B ∧ w.heap[B.b]? = some ob ∧ (i < G → j = i) ∧ (G ≤ i → R.get i = some j) := fun i hi => by
    rcases Nat.lt_or_ge i G with hg | hg
    · obtain ⟨B, o, k1, k2, k3⟩ := m.low i (by omega)
      exact ⟨i, B, o, (pG i hg).trans k1, k1, m.keep _ _ k2, fun _ => rfl, fun h => by omega⟩
    · have hq : i - G < ck.objs.length := by omega
      obtain ⟨j, o, k1, k2, k3, _, k4⟩ := pO (i - G) _ (List.getElem?_eq_getElem hq)
      rw [show G + (i - G) = i by omega] at k1 k3
      obtain ⟨B, ob, q1, q2, q3⟩ := m.obj j o k2
      exact ⟨j, B, ob, k3.trans q1, q1, q2, fun h => by omega, fun _ => k1⟩
  have mC : Mem C' ρ w (fun b => w.heap[b]?) (cPsi G c0 ψ R) (canon G ck) w := {
    ok := hok'
    os := rfl
    tape := rfl
    output := rfl
    keep := fun b o h => h
    g := by rw [hG', ← hc0]; exact Nat.le_refl _
    obj := fun i o hi => by
      rcases canon_get hi with ⟨q, co, rfl, hq, rfl⟩ | ⟨p, hp, rfl, rfl⟩
      · obtain ⟨j, o, k1, k2, k3, _, k4⟩ := pO q co hq
        obtain ⟨B, ob, q1, q2, q3⟩ := m.obj j o k2
        exact ⟨B, ob, k3.trans q1, q2, k4 B ob q3⟩
      · obtain ⟨hlt, o, k1, _, k2⟩ := g1 p hp
        obtain ⟨B, ob, q1, q2, q3⟩ := m.obj _ o k1
        exact ⟨B, ob, (pG _ hlt).trans q1, q2, k2 B ob q3⟩
    own := fun i B o hi hg _ => by have := keyC i o hg; omega
    low := fun i hi => by
      obtain ⟨j, B, ob, k1, _, k2, _⟩ := lowC i (by omega)
      exact ⟨B, ob, k1, k2, get_lt k2⟩
    sz0 := Nat.le_refl _
    glob := fun i hi => by
      rw [hN] at hi
      obtain ⟨B, k1, k2⟩ := m.glob i hi
      exact ⟨B, (pG i (by omega)).trans k1, k2⟩
    inj := fun i j B B' o o' _ hi _ hg _ _ _ => by have := keyC i o hg; omega
    fresh := fun i hi => pN i (by
      have : c0 ≤ (canon G ck).nx := by rw [← hc0]; exact Nat.le_refl _
      omega)
    lt := fun i B hi => by
      rcases Nat.lt_or_ge i c0 with hlt | hge
      · obtain ⟨j, B', ob, k1, k2, k3, _⟩ := lowC i hlt
        rw [hi] at k1; cases k1
        exact get_lt k3
      · rw [pN i hge] at hi; cases hi
    keys := fun i o hi => by
      have := keyC i o hi
      show i < G + ck.objs.length
      omega
    ext := fun i e ro n t B hi hB he => by
      rw [hex] at he
      rcases canon_get hi with ⟨q, co, rfl, hq, e1⟩ | ⟨p, hp, rfl, e1⟩
      · obtain ⟨j, o, k1, k2, k3, k4, _⟩ := pO q co hq
        obtain ⟨ro', t', rfl⟩ := k4 e ro n t e1.symm
        exact m.ext j e ro' n t' B k2 (k3.symm.trans hB) he
      · obtain ⟨hlt, o, k1, k4, _⟩ := g1 p hp
        obtain ⟨ro', t', rfl⟩ := k4 e ro n t e1.symm
        exact m.ext p.1 e ro' n t' B k1 ((pG _ hlt).symm.trans hB) he }
  unfold ChunkOk at hck
  cases hcall : callU C' n f ck.args (canon G ck) with
  | none => rw [hcall] at hck; cases hck
  | some p =>
  obtain ⟨x1, h1⟩ := p
  rw [hcall] at hck
  simp only [chunkIs, Bool.and_eq_true] at hck
  obtain ⟨s1, s2, s3, _⟩ := hck
  have hx := sameV_eq s1
  have hnx := Nat.eq_of_beq_eq_true s3
  have hnew := isNew_get s2
  rw [hc0] at hnew
  obtain ⟨r1', r2⟩ := call_run (nat' w) (by rw [hP]; exact hMix) mC hvs hcall
  rw [hP] at r1' r2
  refine ⟨r1', Calls.to r2 fun e w' => ?_⟩
  rintro ⟨v, ψ1, rfl, l1, m1, hv⟩
  cases he
  generalize hrf : rnI G c0 h.nx R = rf
  have rf1 : ∀ i, i < G → rf i = i := fun i hi => by rw [← hrf]; unfold rnI; rw [show Nat.blt i G = true by rw [Nat.blt_eq]; exact hi]; rfl
  have bF : ∀ {x y : Nat}, y ≤ x → Nat.blt x y = false := fun {x y} h => by
    cases hb : Nat.blt x y with
    | false => rfl
    | true => rw [Nat.blt_eq] at hb; omega
  have rf2 : ∀ i j, G ≤ i → i < c0 → R.get i = some j → rf i = j := fun i j h1 h2 h3 => by
    rw [← hrf]; unfold rnI
    rw [bF h1, show Nat.blt i c0 = true by rw [Nat.blt_eq]; exact h2, h3]; rfl
  have rf3 : ∀ i, c0 ≤ i → rf i = i - c0 + h.nx := fun i h1 => by
    rw [← hrf]; unfold rnI
    rw [bF (by omega : G ≤ i), bF h1]; rfl
  have hold : ∀ j B, ψ j = some B → j < h.nx := fun j B hj => by
    rcases Nat.lt_or_ge j h.nx with hlt | hge
    · exact hlt
    · rw [m.fresh j hge] at hj; cases hj
  let ψ2 : Psi := fun j => if j < h.nx then ψ j else ψ1 (j - h.nx + c0)
  have p2a : ∀ j, j < h.nx → ψ2 j = ψ j := fun j hj => if_pos hj
  have p2b : ∀ j, h.nx ≤ j → ψ2 j = ψ1 (j - h.nx + c0) := fun j hj => if_neg (by omega)
  have hle : ψ.le ψ2 := fun j B hj => by rw [p2a j (hold j B hj)]; exact hj
  have hf : ∀ i B, ψ1 i = some B → ψ2 (rf i) = some B := fun i B hi => by
    rcases Nat.lt_or_ge i c0 with hlt | hge
    · obtain ⟨j, B', ob, k1, k2, k3, k4, k5⟩ := lowC i hlt
      have := l1 _ _ k1
      rw [hi] at this; cases this
      rcases Nat.lt_or_ge i G with hg | hg
      · rw [rf1 i hg, p2a i (by have := k4 hg; subst this; exact hold _ _ k2)]
        have := k4 hg; subst this; exact k2
      · rw [rf2 i j hg hlt (k5 hg)]
        exact hle _ _ k2
    · rw [rf3 i hge, p2b _ (by omega), show i - c0 + h.nx - h.nx + c0 = i by omega]
      exact hi
  have hn1 : c0 ≤ h1.nx := by have := m1.g; rw [hG'] at this; exact this
  have keep' : ∀ b o, w.heap[b]? = some o → w'.heap[b]? = some o := fun b o hb => m1.keep b o hb
  have hnx0 : h.nx ≤ h.nx + (ck.nx - c0) := Nat.le_add_right ..
  have getN : ∀ j o, (⟨putNew rf ck.new h.o, h.nx + (ck.nx - c0)⟩ : Hp).get j = some o → (∃ i co o1, j = i - c0 + h.nx ∧ c0 ≤ i ∧ o = (co.rn rf).ao ∧ h1.get i = some o1 ∧ isCO co o1 = true) ∨ h.get j = some o := fun j o hj => by
    rcases putNew_get hj with ⟨p, hp, rfl, rfl⟩ | hj
    · obtain ⟨k1, o1, k2, k3⟩ := hnew p hp
      exact .inl ⟨p.1, p.2, o1, rf3 _ k1, k1, rfl, k2, k3⟩
    · exact .inr hj
  have psiN : ∀ i, c0 ≤ i → ψ2 (i - c0 + h.nx) = ψ1 i := fun i hi => by rw [p2b _ (by omega), show i - c0 + h.nx - h.nx + c0 = i by omega]
  refine ⟨v, ψ2, rfl, hle, ?_, ?_⟩
  · exact {
      ok := m.ok
      os := m1.os.trans m.os
      tape := m1.tape.trans m.tape
      output := m1.output.trans m.output
      keep := fun b o hb => keep' _ _ (m.keep b o hb)
      g := Nat.le_trans m.g hnx0
      obj := fun j o hj => by
        rcases getN j o hj with ⟨i, co, o1, rfl, hi, rfl, k2, k3⟩ | hj
        · obtain ⟨B, ob, q1, q2, q3⟩ := m1.obj i o1 k2
          exact ⟨B, ob, (psiN i hi).trans q1, q2, isCO_sound hf k3 q3⟩
        · obtain ⟨B, ob, q1, q2, q3⟩ := m.obj j o hj
          exact ⟨B, ob, hle _ _ q1, keep' _ _ q2, q3.mono hle⟩
      own := fun j B o hg hj hB => by
        rcases getN j o hj with ⟨i, co, o1, rfl, hi, rfl, k2, k3⟩ | hj
        · rw [psiN i hi] at hB
          have := m1.own i B o1 (by rw [hG']; exact hi) k2 hB
          cases hk : K B.b with
          | none => rfl
          | some o' => rw [m.keep _ _ hk] at this; cases this
        · rw [p2a j (m.keys j o hj)] at hB
          exact m.own j B o hg hj hB
      low := fun i hi => by
        obtain ⟨B, o, k1, k2, k3⟩ := m.low i hi
        exact ⟨B, o, hle _ _ k1, k2, k3⟩
      sz0 := Nat.le_trans m.sz0 m1.sz0
      glob := fun i hi => by
        obtain ⟨B, k1, k2⟩ := m.glob i hi
        exact ⟨B, hle _ _ k1, k2⟩
      inj := fun i j B B' o o' hne hi hj gi gj hB hB' => by
        rcases getN i o gi with ⟨i1, co1, o1, rfl, hi1, rfl, k2, k3⟩ | gi
        · rw [psiN i1 hi1] at hB
          rcases getN j o' gj with ⟨j1, co2, o2, rfl, hj1, rfl, k4, k5⟩ | gj
          · rw [psiN j1 hj1] at hB'
            exact m1.inj i1 j1 B B' o1 o2 (fun e => hne (by rw [e])) (by rw [hG']; exact hi1) (by rw [hG']; exact hj1) k2 k4 hB hB'
          · rw [p2a j (m.keys j o' gj)] at hB'
            have h1' := m1.own i1 B o1 (by rw [hG']; exact hi1) k2 hB
            have h2' := m.lt j B' hB'
            intro e
            rw [e] at h1'
            have : w.heap[B'.b]? = some w.heap[B'.b] := by simp [h2']
            rw [this] at h1'; cases h1'
        · rw [p2a i (m.keys i o gi)] at hB
          rcases getN j o' gj with ⟨j1, co2, o2, rfl, hj1, rfl, k4, k5⟩ | gj
          · rw [psiN j1 hj1] at hB'
            have h1' := m1.own j1 B' o2 (by rw [hG']; exact hj1) k4 hB'
            have h2' := m.lt i B hB
            intro e
            rw [← e] at h1'
            have : w.heap[B.b]? = some w.heap[B.b] := by simp [h2']
            rw [this] at h1'; cases h1'
          · rw [p2a j (m.keys j o' gj)] at hB'
            exact m.inj i j B B' o o' hne hi hj gi gj hB hB'
      fresh := fun j hj => by
        have hj : h.nx + (ck.nx - c0) ≤ j := hj
        rw [p2b j (by omega)]
        exact m1.fresh _ (by omega)
      lt := fun j B hj => by
        rcases Nat.lt_or_ge j h.nx with hlt | hge
        · rw [p2a j hlt] at hj
          exact Nat.lt_of_lt_of_le (m.lt j B hj) m1.sz0
        · rw [p2b j hge] at hj
          exact m1.lt _ B hj
      keys := fun j o hj => by
        show j < h.nx + (ck.nx - c0)
        rcases getN j o hj with ⟨i, co, o1, rfl, hi, rfl, k2, k3⟩ | hj
        · have := m1.keys i o1 k2; omega
        · have := m.keys j o hj; omega
      ext := fun j e ro n t B hj hB he => by
        rcases getN j _ hj with ⟨i, co, o1, rfl, hi, e1, k2, k3⟩ | hj
        · obtain ⟨ro', t', rfl⟩ := isCO_shape (f := rf) k3 e ro n t e1.symm
          rw [psiN i hi] at hB
          exact m1.ext i e ro' n t' B k2 hB (by rw [hex]; exact he)
        · rw [p2a j (m.keys j _ hj)] at hB
          exact m.ext j e ro n t B hj hB he }
  · rw [hx]
    exact rnA_sound hf _ _ hv
theorem subs_sound {C : Cx} {ρ : Nat → Int} {G : Nat} {f : FuncId} : ∀ {cks : List Chunk}, (∀ ck ∈ cks, SubOk C ρ G f ck) → ∀ w0 K ψ h w args us a h', Mem C ρ w0 K ψ h w → VRs ρ ψ args us → natSubs G cks args h = some (a, h') → CallIs C ρ w0 K ψ w f us a h'
  | [], _, w0, K, ψ, h, w, args, us, a, h', _, _, e => by cases e
  | ck :: cks, hk, w0, K, ψ, h, w, args, us, a, h', m, hu, e => by
    unfold natSubs at e
    split at e
    · rename_i p hp
      cases e
      exact hk ck (List.mem_cons_self ..) w0 K ψ h w args us a h' m hu hp
    · exact subs_sound (fun ck hck => hk ck (List.mem_cons_of_mem _ hck)) w0 K ψ h w args us a h' m hu e
end Go.U
/-
  U, part 39: functions that are not gone through: what the program has no text of.
-/
set_option linter.unusedVariables false
set_option linter.unusedSimpArgs false
set_option linter.unusedSectionVars false
namespace Go.U
open Go Go.RowKit

/-- What a function comes to, whatever lies about. -/
def FnOk (C : Cx) (ρ : Nat → Int) (f : FuncId) (g : List A → Hp → Option (A × Hp)) : Prop :=
  ∀ w0 K ψ h w args us a h', Mem C ρ w0 K ψ h w → VRs ρ ψ args us → g args h = some (a, h') →
    (∃ v w' ψ', (callFunc f us.toArray).run C.P w = .ok (.value v) w' ∧ ψ.le ψ' ∧ Mem C ρ w0 K ψ' h' w' ∧ VR ρ ψ' a v) ∨ CallIs C ρ w0 K ψ w f us a h'
theorem NatOk.of {C : Cx} {ρ : Nat → Int} (h : ∀ f g, C.nat.get f = some g → FnOk C ρ f g.f) (w0 : World) : NatOk C ρ w0 := by
  intro f g hg K ψ h' w args us a h'' m hu he
  rcases h f g hg w0 K ψ h' w args us a h'' m hu he with h1 | ⟨h1, h2⟩
  · exact .inl h1
  · exact .inr ⟨w, h1 w, h2⟩
/-- One, or else the other. -/
noncomputable def natOr (g g' : List A → Hp → Option (A × Hp)) (args : List A) (h : Hp) : Option (A × Hp) := match g args h with
  | some p => some p
  | none => g' args h
theorem FnOk.or {C : Cx} {ρ : Nat → Int} {f : FuncId} {g g' : List A → Hp → Option (A × Hp)} (h : FnOk C ρ f g) (h' : FnOk C ρ f g') : FnOk C ρ f (natOr g g') := by
  intro w0 K ψ hp w args us a hp' m hu he
  unfold natOr at he
  split at he
  · rename_i p hp; cases he; exact h w0 K ψ _ w args us _ _ m hu hp
  · exact h' w0 K ψ _ w args us a hp' m hu he
theorem FnOk.subs {C : Cx} {ρ : Nat → Int} {G : Nat} {f : FuncId} {cks : List Chunk} (h : ∀ ck ∈ cks, SubOk C ρ G f ck) : FnOk C ρ f (natSubs G cks) :=
  fun w0 K ψ hp w args us a hp' m hu he => .inr (subs_sound h w0 K ψ hp w args us a hp' m hu he)
/-- A function without a text: the entry that stands for it. -/
structure IsExt (P : Program) (f : FuncId) (e : Array Value → Sem Value) : Prop where
  is : ∃ fn, P.funcs[f]? = some fn ∧ (fn.name == "runtime.NumGoroutine") = false ∧ fn.body.isNone = true ∧ Extern.findNext fn = none ∧ Extern.find fn = some e
theorem IsExt.run {P : Program} {f : FuncId} {e : Array Value → Sem Value} (h : IsExt P f e) {us : Array Value} {w w' : World} {v : Value} (hr : (e us).run P w = .ok v w') : (callFunc f us).run P w = .ok (.value v) w' := by
  obtain ⟨fn, h1, h2, h3, h4, h5⟩ := h.is
  rw [run_callFunc_extern h1 h2 h3 h4 h5, hr]; rfl
noncomputable def idxOf (c : Nat) : List Nat → Nat → Int
  | [], _ => -1
  | b :: l, i => bif Nat.beq (b % 256) c then Int.ofNat i else idxOf c l (i + 1)
noncomputable def natIndexByte : List A → Hp → Option (A × Hp)
  | [.s l, .i .u8 (.ofNat c)], h => some (.i .i64 (idxOf (c % 256) l 0), h)
  | _, _ => none
noncomputable def natAdd : List A → Hp → Option (A × Hp)
  | [.i .u64 (.ofNat x), .i .u64 (.ofNat y), .i .u64 (.ofNat c)], h => bif Nat.ble c 1 then some (.tu [.i .u64 (Int.ofNat ((x + y + c) % 18446744073709551616)), .i .u64 (Int.ofNat ((x + y + c) / 18446744073709551616))], h) else none
  | _, _ => none
theorem VRs.two {ρ : Nat → Int} {ψ : Psi} {a b : A} {us : List Value} (h : VRs ρ ψ [a, b] us) : ∃ u v, us = [u, v] ∧ VR ρ ψ a u ∧ VR ρ ψ b v := by
  obtain ⟨u, us1, rfl, h1, h2⟩ := h
  obtain ⟨v, us2, rfl, h3, h4⟩ := h2
  cases h4
  exact ⟨u, v, rfl, h1, h3⟩
theorem VRs.three {ρ : Nat → Int} {ψ : Psi} {a b c : A} {us : List Value} (h : VRs ρ ψ [a, b, c] us) : ∃ u v x, us = [u, v, x] ∧ VR ρ ψ a u ∧ VR ρ ψ b v ∧ VR ρ ψ c x := by
  obtain ⟨u, us1, rfl, h1, h2⟩ := h
  obtain ⟨v, x, rfl, h3, h4⟩ := h2.two
  exact ⟨u, v, x, rfl, h1, h3, h4⟩
theorem byte_eq (b c : Nat) : (UInt8.ofNat b == UInt8.ofNat c) = Nat.beq (b % 256) (c % 256) := by
  rw [Bool.eq_iff_iff, Nat.beq_eq, beq_iff_eq, ← UInt8.toNat_inj]
  simp
theorem indexByte_is (c : Nat) : ∀ (l : List Nat) (i : Nat), idxOf (c % 256) l i = if Lib.indexByte (l.map UInt8.ofNat) (UInt8.ofNat c) = -1 then -1 else i + Lib.indexByte (l.map UInt8.ofNat) (UInt8.ofNat c)
  | [], i => by simp [idxOf, Lib.indexByte]
  | b :: l, i => by
    have ih := indexByte_is c l (i + 1)
    have hge := Lib.indexByte_ge (l.map UInt8.ofNat) (UInt8.ofNat c)
    unfold idxOf
    simp only [List.map_cons, Lib.indexByte, byte_eq]
    cases hb : Nat.beq (b % 256) (c % 256) with
    | true => simp
    | false =>
      simp only [cond_false]
      rw [ih]
      by_cases h1 : Lib.indexByte (l.map UInt8.ofNat) (UInt8.ofNat c) = -1
      · simp [h1]
      · have h2 : (Lib.indexByte (l.map UInt8.ofNat) (UInt8.ofNat c) == -1) = false := by simp [h1]
        rw [if_neg h1, h2]
        simp only [Bool.false_eq_true, if_false]
        rw [if_neg (by omega)]
        omega
theorem natIndexByte_ok {C : Cx} {ρ : Nat → Int} {f : FuncId} (he : IsExt C.P f Extern.BytealgIndexByte.indexByte) : FnOk C ρ f natIndexByte := by
  intro w0 K ψ h w args us a h' m hu hn
  unfold natIndexByte at hn
  split at hn
  case h_2 => cases hn
  rename_i l c
  cases hn
  obtain ⟨u, v, rfl, h1, h2⟩ := hu.two
  have e1 : u = .string (bstr l) := h1
  have e2 : v = .int .u8 (Int.ofNat c) := h2
  subst e1; subst e2
  refine .inl ⟨_, w, ψ, he.run (Lib.run_indexByteString (bstr l) (Int.ofNat c) w), Psi.le.refl ψ, m, ?_⟩
  have hi := indexByte_is c l 0
  show Value.int .i64 _ = Value.int .i64 _
  congr 1
  have e : Lib.indexByte (bstr l).data.toList (Int.ofNat c).toNat.toUInt8 = Lib.indexByte (l.map UInt8.ofNat) (UInt8.ofNat c) := rfl
  rw [e, hi]
  split
  · rename_i hx; exact hx
  · simp
theorem natAdd_ok {C : Cx} {ρ : Nat → Int} {f : FuncId} (he : IsExt C.P f add64Entry) : FnOk C ρ f natAdd := by
  intro w0 K ψ h w args us a h' m hu hn
  unfold natAdd at hn
  split at hn
  case h_2 => cases hn
  rename_i x y c
  cases hc : Nat.ble c 1 with
  | false => rw [hc] at hn; cases hn
  | true =>
    rw [hc] at hn; cases hn
    have hc1 := Nat.le_of_ble_eq_true hc
    obtain ⟨u, v, z, rfl, h1, h2, h3⟩ := hu.three
    have e1 : u = .int .u64 (Int.ofNat x) := h1
    have e2 : v = .int .u64 (Int.ofNat y) := h2
    have e3 : z = .int .u64 (Int.ofNat c) := h3
    subst e1; subst e2; subst e3
    exact .inl ⟨_, w, ψ, he.run (run_add64 (Int.ofNat x) (Int.ofNat y) (Int.ofNat c) (Int.natCast_nonneg _) (Int.natCast_nonneg _) (Int.natCast_nonneg _) (Int.ofNat_le.2 hc1) w), Psi.le.refl ψ, m, [_, _], rfl, VRs.cons rfl (VRs.cons rfl VRs.nil)⟩
end Go.U
/-
  U, part 40: iterators over maps: whichever entry comes next.
-/
set_option linter.unusedVariables false
set_option linter.unusedSimpArgs false
set_option linter.unusedSectionVars false
namespace Go.U
open Go Go.RowKit

noncomputable section
/-- A state whose next operation steps an iterator over a map: the map's entries, those that were met, what each leads to, what the end leads to. -/
structure NX where
  es : List (A × A × Nat)
  seen : List Nat
  to : A × A × Nat → AS
  over : AS
def nextOp (o : Oper) : Option Operand :=
  match o.guard with
  | none => match o.op with
    | .next it false => some it
    | _ => none
  | some _ => none
def nextAt (C : Cx) (s : AS) : Option NX :=
  match s with
  | ⟨⟨fn, nt, tm, .inRegion ops (i :: rest) :: k, df, .run, kd, rd⟩, cs, h⟩ =>
    match nth ops.toList i with
    | some o => match nextOp o with
      | some it => match opdOf C.N tm it with
        | some (.p (some (r, 0))) => match h.get r with
          | some (.mapIter m since seen last) => match h.get m with
            | some (.map es c) =>
              bif Nat.blt i MB && (Nat.ble C.G r && (Nat.ble since last && es.all fun e => Nat.blt e.2.2 since)) then
                some { es := es, seen := seen, to := fun e => ⟨⟨fn, nt, putDst nt tm (some (.tu [.b true, e.1, e.2.1])) o.dst, .inRegion ops rest :: k, df, .run, kd, rd⟩, cs, h.upd r (.mapIter m since (e.2.2 :: seen) c)⟩, over := ⟨⟨fn, nt, putDst nt tm (some (.tu [.b false])) o.dst, .inRegion ops rest :: k, df, .run, kd, rd⟩, cs, h⟩ }
              else none
            | _ => none
          | _ => none
        | _ => none
      | none => none
    | none => none
  | _ => none
end
section
variable {C : Cx} {ρ : Nat → Int} {w0 : World} {K0 K : Nat → Option Obj} {cs0 : List Frame} {ψ ψ0 : Psi}
theorem EsR.mem : ∀ {es : List (A × A × Nat)} {l : List MapEntry} {x : MapEntry}, EsR ρ ψ es l → x ∈ l → ∃ e ∈ es, e.2.2 = x.born ∧ VR ρ ψ e.1 x.key ∧ VR ρ ψ e.2.1 x.val
  | [], l, x, h, hx => by cases h; cases hx
  | (k, v, b) :: es, l, x, h, hx => by
    obtain ⟨y, l', rfl, h1, h2, h3, h4⟩ := h
    rcases List.mem_cons.1 hx with rfl | hx
    · exact ⟨_, List.mem_cons_self .., h3.symm, h1, h2⟩
    · obtain ⟨e, he, k1⟩ := EsR.mem h4 hx
      exact ⟨e, List.mem_cons_of_mem _ he, k1⟩
theorem EsR.mem' : ∀ {es : List (A × A × Nat)} {l : List MapEntry} {e : A × A × Nat}, EsR ρ ψ es l → e ∈ es → ∃ x ∈ l, e.2.2 = x.born
  | [], l, e, h, he => by cases he
  | (k, v, b) :: es, l, e, h, he => by
    obtain ⟨y, l', rfl, h1, h2, h3, h4⟩ := h
    rcases List.mem_cons.1 he with rfl | he
    · exact ⟨y, List.mem_cons_self .., h3.symm⟩
    · obtain ⟨x, hx, k1⟩ := EsR.mem' h4 he
      exact ⟨x, List.mem_cons_of_mem _ hx, k1⟩
/-- The step. -/
theorem next_sound' {s : AS} {N : NX} {m0 : Machine} (hs : StR C ρ w0 K0 cs0 ψ0 s m0) (hn : nextAt C s = some N) :
    ∃ m', Steps C.P m0 m' ∧ ((∃ e ∈ N.es, e.2.2 ∉ N.seen ∧ StR C ρ w0 K0 cs0 ψ0 (N.to e) m') ∨ ((∀ e ∈ N.es, e.2.2 ∈ N.seen) ∧ StR C ρ w0 K0 cs0 ψ0 N.over m')) := by
  unfold nextAt at hn
  split at hn
  case h_2 => cases hn
  rename_i fn nt tm ops i rest k df kd rd as h
  split at hn
  case h_2 => cases hn
  rename_i o ho
  split at hn
  case h_2 => cases hn
  rename_i it hit
  split at hn
  case h_2 => cases hn
  rename_i r hr
  split at hn
  case h_2 => cases hn
  rename_i m since seen last hri
  split at hn
  case h_2 => cases hn
  rename_i es c hm
  cases hb : (Nat.blt i MB && (Nat.ble C.G r && (Nat.ble since last && es.all fun e => Nat.blt e.2.2 since))) with
  | false => rw [hb] at hn; cases hn
  | true =>
    rw [hb] at hn; cases hn
    simp only [Bool.and_eq_true] at hb
    obtain ⟨b1, b2, b3, b4⟩ := hb
    have hiM : i < MB := by simpa [Nat.blt_eq] using b1
    have hG := Nat.le_of_ble_eq_true b2
    obtain ⟨K, ψ, w, f, cs, es', Kp, rfl, hB, hr', hS, hP, mm, h0⟩ := hs
    simp only at hB hr' hS mm
    have hop : o.guard = none ∧ o.op = .next it false := by
      unfold nextOp at hit
      split at hit
      · rename_i hg
        split at hit
        · rename_i it' hx; cases hit; exact ⟨hg, hx⟩
        · cases hit
      · cases hit
    cases hr' with
    | ret q => cases q
    | pan _ _ q => cases q
    | run _ hm' htd =>
      simp only at htd
      generalize hft : f.todo = q' at htd
      cases htd with
      | cur G' hk hi D =>
        obtain ⟨st, D⟩ := D (· = h)
        exfalso
        have hck := D.ck
        unfold chk at hck
        rw [Nat.div_eq_of_lt hiM] at hck
        split at hck <;> first | cases hck | (rename_i hx; cases hx)
      | plain hk hi ht =>
        obtain ⟨y, k', rfl, hy, hi⟩ := hi
        cases hy
        have hiS := (hk.1 i (List.mem_cons_self ..)).1
        have ho' : ops[i]? = some o := by rw [← Array.getElem?_toList, ← nth_eq]; exact ho
        have hw : Region.wanted o (yielded ops f.tmps) = true := by simp [Region.wanted, hop.1]
        have hcond : f.roundOf = none ∨ ∀ c, o.op ≠ .defer c := .inr fun c e => by rw [hop.2] at e; cases e
        have hv := opd_rel mm ht hr
        obtain ⟨B, hBr, hv⟩ := hv
        obtain ⟨B1, ob, g1, g2, g3, B2, g4, rfl⟩ := mm.obj r _ hri
        rw [hBr] at g1; cases g1
        obtain ⟨B3, ob3, k1, k2, l, rfl, k4⟩ := mm.obj m _ hm
        rw [g4] at k1; cases k1
        rw [g3] at hv
        have hold : ∀ x ∈ l.toArray.toList, x.born < since := fun x hx => by
          obtain ⟨e, he, q1, _⟩ := EsR.mem k4 (by simpa using hx)
          have := List.all_eq_true.1 b4 e he
          rw [← q1]; simpa [Nat.blt_eq] using this
        have hex : execOp f.eval o = (do pure (.value (← Instr.next (f.eval it) false o.type))) := by
          unfold execOp; rw [hop.2]
        have key : ∀ {a : A} {v : Value} {w2 : World} {h2 : Hp}, step C.P (lone f cs w) = .next (lone (f.finish v) cs w2) → Mem C ρ w0 K ψ h2 w2 → VR ρ ψ a v →
            ∃ m', Steps C.P (lone f cs w) m' ∧ StR C ρ w0 K0 cs0 ψ0 ⟨⟨fn, nt, putDst nt tm (some a) o.dst, .inRegion ops rest :: k, df, .run, kd, rd⟩, as, h2⟩ m' := by
          intro a v w2 h2 hst m2 hva
          refine ⟨lone (inReg f ops k' (putV f.tmps o.dst v) rest) cs w2, Steps.one (by rw [hst, finish_reg hft ho']; rfl), K, ψ, w2, inReg f ops k' (putV f.tmps o.dst v) rest, cs, [], Kp, rfl, ?_, .run rfl hm' ?_, hS, hP, m2, h0⟩
          · exact ⟨hB.fn, (by show (putV f.tmps o.dst v).size = nt; rw [putV_size]; exact hB.nt), hB.mb, hB.df, hB.kd, hB.rd⟩
          · exact .plain ⟨fun j hj => hk.1 j (List.mem_cons_of_mem _ hj), hk.2⟩ (ItsR.cons (x := .inRegion ops rest) rfl hi) (ht.put hva o.dst hB.nt)
        rcases run_next_at (P := C.P) w o.type B.b B2.b since last seen.reverse.toArray l.toArray c g2 k2 hold (Nat.le_of_ble_eq_true b3) with ⟨z1, z2⟩ | ⟨x, hx, w1, hw1, z2⟩
        · obtain ⟨m', s1, s2⟩ := key (a := .tu [.b false]) (v := .tuple #[.bool false]) (h2 := h) (st_val hm' hft ho' hw hcond (w' := w) (by rw [hex, hv]; simp [z2])) mm ⟨[.bool false], rfl, VRs.cons rfl VRs.nil⟩
          refine ⟨m', s1, .inr ⟨fun e he => ?_, s2⟩⟩
          obtain ⟨x, hx, q1⟩ := EsR.mem' k4 he
          have hz : (leftOf l.toArray seen.reverse.toArray) = #[] := Array.eq_empty_of_size_eq_zero z1
          unfold leftOf at hz
          rw [Array.filter_eq_empty_iff] at hz
          have := hz x (by simpa using hx)
          show e.2.2 ∈ seen
          rw [q1]
          simpa using this
        · have hxl : x ∈ l ∧ x.born ∉ seen := by
            unfold leftOf at hx
            simpa using hx
          obtain ⟨e, he, q1, q2, q3⟩ := EsR.mem k4 hxl.1
          have hw1' : w1.heap = w.heap ∧ w1.os = w.os ∧ w1.tape = w.tape ∧ w1.output = w.output := by
            rcases hw1 with rfl | rfl
            · exact ⟨rfl, rfl, rfl, rfl⟩
            · exact ⟨rfl, rfl, rfl, rfl⟩
          have hup : Upd w B.b (.mapIter (some B2.b) since (seen.reverse.toArray.push x.born) c) (ChangeMaps.setBlock w1 B.b (.mapIter (some B2.b) since (seen.reverse.toArray.push x.born) c)) := by
            have hlt := get_lt g2
            refine ⟨hw1'.2.1, hw1'.2.2.1, hw1'.2.2.2, ?_, ?_, fun b hb => ?_⟩
            · simp [ChangeMaps.setBlock, hw1'.1]
            · simp [ChangeMaps.setBlock, hw1'.1, hlt]
            · simp [ChangeMaps.setBlock, hw1'.1, Array.getElem?_setIfInBounds, Ne.symm hb]
          have m2 := mm.upd (o := .mapIter m since (e.2.2 :: seen) c) hri hG hBr hup (fun _ _ _ _ hx => by cases hx) ⟨g3, B2, g4, by simp [q1]⟩
          obtain ⟨m', s1, s2⟩ := key (a := .tu [.b true, e.1, e.2.1]) (v := .tuple #[.bool true, x.key, x.val]) (st_val hm' hft ho' hw hcond (by rw [hex, hv]; simp [z2])) m2 ⟨[.bool true, x.key, x.val], rfl, VRs.cons rfl (VRs.cons q2 (VRs.cons q3 VRs.nil))⟩
          exact ⟨m', s1, .inl ⟨e, he, by rw [q1]; exact hxl.2, s2⟩⟩
end
end Go.U
/-
  U, part 41: runs that go whichever way an iterator goes; what is no longer wanted is forgotten; functions whose value leads to no memory.
-/
set_option linter.unusedVariables false
set_option linter.unusedSimpArgs false
set_option linter.unusedSectionVars false
namespace Go.U
open Go Go.RowKit

noncomputable section
/-! do a value's blocks lie below n? -/
mutual
def below (n : Nat) : A → Bool
  | .p (some x) => Nat.blt x.1 n
  | .sl (some x) _ _ _ => Nat.blt x.1 n
  | .m (some r) => Nat.blt r n
  | .f fn a b => (match fn with | .yield l => Nat.blt l n | _ => true) && (belows n a && belows n b)
  | .ifc _ v => below n v
  | .ag l | .tu l => belows n l
  | _ => true
def belows (n : Nat) : List A → Bool
  | [] => true
  | a :: l => below n a && belows n l
end
def belowE (n : Nat) : List (A × A × Nat) → Bool
  | [] => true
  | e :: l => below n e.1 && (below n e.2.1 && belowE n l)
def belowO (n : Nat) : AO → Bool
  | .map es _ => belowE n es
  | .mapIter m _ _ _ => Nat.blt m n
  | _ => false
def keepT (t : T A) : List Nat → T A
  | [] => .e
  | i :: l => match t.get i with
    | some a => (keepT t l).set i a
    | none => keepT t l
def keepH (h : T AO) : List Nat → T AO
  | [] => .e
  | i :: l => match h.get i with
    | some a => (keepH h l).set i a
    | none => keepH h l
def belowTs (n : Nat) (t : T A) : List Nat → Bool
  | [] => true
  | i :: l => (match t.get i with | some a => below n a | none => true) && belowTs n t l
def belowHs (n : Nat) (t : T AO) : List Nat → Bool
  | [] => true
  | i :: l => Nat.blt i n && ((match t.get i with | some a => belowO n a | none => true) && belowHs n t l)
def noYield : List Item → Bool
  | [] => true
  | .inRangeFunc _ :: _ | .endRangeFunc _ :: _ => false
  | _ :: l => noYield l
/-- What is kept: the frame's places 'ts', the blocks 'is', all below n. -/
def forget (n : Nat) (ts is : List Nat) (s : AS) : AS :=
  match s with
  | ⟨⟨fn, nt, tm, todo, df, md, kd, rd⟩, cs, h⟩ => ⟨⟨fn, nt, keepT tm ts, todo, df, md, kd, rd⟩, cs, ⟨keepH h.o is, n⟩⟩
/-- May it be forgotten? (Only of what is to be done plainly.) -/
def mayForget (C : Cx) (n : Nat) (ts is : List Nat) (s : AS) : Bool :=
  match s with
  | ⟨⟨fn, nt, tm, .inRegion ops (i :: l) :: k, [], .run, kd, none⟩, [], h⟩ => Nat.ble C.G n && (Nat.ble n h.nx && (Nat.blt i MB && (noYield k && (belowTs n tm ts && belowHs n h.o is))))
  | _ => false
/-- A run that comes to what is wanted, whichever way iterators go. -/
inductive Run (C : Cx) (Q : AS → Prop) : AS → Prop
  | done {s} : Q s → Run C Q s
  | steps {s s'} (n : Nat) : runA C n s = some s' → Run C Q s' → Run C Q s
  | next {s} (N : NX) : nextAt C s = some N → (∀ e ∈ N.es, e.2.2 ∉ N.seen → Run C Q (N.to e)) → ((∀ e ∈ N.es, e.2.2 ∈ N.seen) → Run C Q N.over) → Run C Q s
  | forget {s s'} (n : Nat) (ts is : List Nat) : mayForget C n ts is s = true → Go.U.forget n ts is s = s' → Run C Q s' → Run C Q s
end
section
variable {C : Cx} {ρ : Nat → Int} {w0 : World} {K0 K K' : Nat → Option Obj} {cs0 : List Frame} {ψ ψ' ψ0 : Psi} {h h' : Hp} {w w' : World} {n : Nat}
mutual
theorem below_VR (hψ : ∀ i, i < n → ψ' i = ψ i) : ∀ (a : A) (v : Value), below n a = true → VR ρ ψ a v → VR ρ ψ' a v
  | .p (some (i, o)), v, hb, ⟨B, h1, h2⟩ => ⟨B, by rw [hψ i (by simpa [below, Nat.blt_eq] using hb)]; exact h1, h2⟩
  | .sl (some (i, o, es)) _ _ _, v, hb, ⟨B, c, h1, h2⟩ => ⟨B, c, by rw [hψ i (by simpa [below, Nat.blt_eq] using hb)]; exact h1, h2⟩
  | .m (some i), v, hb, ⟨B, h1, h2⟩ => ⟨B, by rw [hψ i (by simpa [below, Nat.blt_eq] using hb)]; exact h1, h2⟩
  | .f fn a b, v, hb, ⟨fn', us, vs, h1, h2, h3, h4⟩ => by
    simp only [below, Bool.and_eq_true] at hb
    refine ⟨fn', us, vs, ?_, h2, belows_VR hψ a us hb.2.1 h3, belows_VR hψ b vs hb.2.2 h4⟩
    cases fn <;> first | exact h1 | skip
    rename_i l
    obtain ⟨B, g1, g2⟩ := h1
    exact ⟨B, by rw [hψ l (by simpa [Nat.blt_eq] using hb.1)]; exact g1, g2⟩
  | .ifc t x, v, hb, ⟨u, h1, h2⟩ => ⟨u, h1, below_VR hψ x u (by simpa [below] using hb) h2⟩
  | .ag l, v, hb, ⟨us, h1, h2, h3⟩ => ⟨us, h1, belows_VR hψ l us (by simpa [below] using hb) h2, h3⟩
  | .tu l, v, hb, ⟨us, h1, h2⟩ => ⟨us, h1, belows_VR hψ l us (by simpa [below] using hb) h2⟩
  | .b _, _, _, h | .i _ _, _, _, h | .y _ _, _, _, h | .s _, _, _, h | .p none, _, _, h | .sl none _ _ _, _, _, h | .m none, _, _, h | .nf, _, _, h | .ni, _, _, h | .se, _, _, h => h
theorem belows_VR (hψ : ∀ i, i < n → ψ' i = ψ i) : ∀ (l : List A) (us : List Value), belows n l = true → VRs ρ ψ l us → VRs ρ ψ' l us
  | [], _, _, h => h
  | a :: l, _, hb, ⟨u, us, h1, h2, h3⟩ => by
    simp only [belows, Bool.and_eq_true] at hb
    exact ⟨u, us, h1, below_VR hψ a u hb.1 h2, belows_VR hψ l us hb.2 h3⟩
end
theorem belowE_R (hψ : ∀ i, i < n → ψ' i = ψ i) : ∀ (es : List (A × A × Nat)) (l : List MapEntry), belowE n es = true → EsR ρ ψ es l → EsR ρ ψ' es l
  | [], _, _, h => h
  | (k, v, b) :: es, _, hb, ⟨e, l', h1, h2, h3, h4, h5⟩ => by
    simp only [belowE, Bool.and_eq_true] at hb
    exact ⟨e, l', h1, below_VR hψ k _ hb.1 h2, below_VR hψ v _ hb.2.1 h3, h4, belowE_R hψ es l' hb.2.2 h5⟩
theorem belowO_R (hψ : ∀ i, i < n → ψ' i = ψ i) {B : Blk} {o : AO} {ob : Obj} (hb : belowO n o = true) (h : OR ρ ψ B o ob) : OR ρ ψ' B o ob := by
  cases o with
  | map es c => obtain ⟨l, h1, h2⟩ := h; exact ⟨l, h1, belowE_R hψ es _ hb h2⟩
  | mapIter m s sn la => obtain ⟨h1, B', h2, h3⟩ := h; exact ⟨h1, B', by rw [hψ m (by simpa [belowO, Nat.blt_eq] using hb)]; exact h2, h3⟩
  | _ => cases hb
theorem keepT_get {t : T A} : ∀ {l : List Nat} {i : Nat} {a : A}, (keepT t l).get i = some a → i ∈ l ∧ t.get i = some a
  | [], i, a, h => by rw [keepT, T.get_e] at h; cases h
  | j :: l, i, a, h => by
    unfold keepT at h
    split at h
    · rename_i b hb
      rcases T.get_set h with ⟨rfl, rfl⟩ | ⟨_, h⟩
      · exact ⟨List.mem_cons_self .., hb⟩
      · obtain ⟨h1, h2⟩ := keepT_get h
        exact ⟨List.mem_cons_of_mem _ h1, h2⟩
    · obtain ⟨h1, h2⟩ := keepT_get h
      exact ⟨List.mem_cons_of_mem _ h1, h2⟩
theorem keepH_get {t : T AO} : ∀ {l : List Nat} {i : Nat} {a : AO}, (keepH t l).get i = some a → i ∈ l ∧ t.get i = some a
  | [], i, a, h => by rw [keepH, T.get_e] at h; cases h
  | j :: l, i, a, h => by
    unfold keepH at h
    split at h
    · rename_i b hb
      rcases T.get_set h with ⟨rfl, rfl⟩ | ⟨_, h⟩
      · exact ⟨List.mem_cons_self .., hb⟩
      · obtain ⟨h1, h2⟩ := keepH_get h
        exact ⟨List.mem_cons_of_mem _ h1, h2⟩
    · obtain ⟨h1, h2⟩ := keepH_get h
      exact ⟨List.mem_cons_of_mem _ h1, h2⟩
theorem belowTs_get {t : T A} : ∀ {l : List Nat} {i : Nat} {a : A}, belowTs n t l = true → i ∈ l → t.get i = some a → below n a = true
  | j :: l, i, a, hb, hi, h => by
    simp only [belowTs, Bool.and_eq_true] at hb
    rcases List.mem_cons.1 hi with rfl | hi
    · rw [h] at hb; exact hb.1
    · exact belowTs_get hb.2 hi h
theorem belowHs_get {t : T AO} : ∀ {l : List Nat} {i : Nat} {a : AO}, belowHs n t l = true → i ∈ l → t.get i = some a → i < n ∧ belowO n a = true
  | j :: l, i, a, hb, hi, h => by
    simp only [belowHs, Bool.and_eq_true] at hb
    rcases List.mem_cons.1 hi with rfl | hi
    · rw [h] at hb; exact ⟨by simpa [Nat.blt_eq] using hb.1, hb.2.1⟩
    · exact belowHs_get hb.2.2 hi h
theorem noYield_ItsR : ∀ {k k' : List Item}, noYield k = true → ItsR ψ k k' → ItsR ψ' k k'
  | [], _, _, h => h
  | it :: k, _, hn, ⟨y, ys, h1, h2, h3⟩ => by
    cases it <;> first | (cases hn; done) | exact ⟨y, ys, h1, h2, noYield_ItsR (by simpa [noYield] using hn) h3⟩
noncomputable def cutPsi (n : Nat) (ψ : Psi) : Psi := fun i => if i < n then ψ i else none
theorem cutPsi_lt {i : Nat} (h : i < n) : cutPsi n ψ i = ψ i := if_pos h
theorem cutPsi_some {i : Nat} {B : Blk} (h : cutPsi n ψ i = some B) : i < n ∧ ψ i = some B := by
  unfold cutPsi at h
  split at h
  · exact ⟨‹_›, h⟩
  · cases h
theorem Mem.cut (m : Mem C ρ w0 K ψ h w) {is : List Nat} (hG : C.G ≤ n) (hn : n ≤ h.nx) (hNG : C.N ≤ C.G) (hb : belowHs n h.o is = true) : Mem C ρ w0 K (cutPsi n ψ) ⟨keepH h.o is, n⟩ w where
  ok := m.ok
  os := m.os
  tape := m.tape
  output := m.output
  keep := m.keep
  g := hG
  obj := fun i o hi => by
    obtain ⟨h1, h2⟩ := keepH_get hi
    obtain ⟨h3, h4⟩ := belowHs_get hb h1 h2
    obtain ⟨B, ob, q1, q2, q3⟩ := m.obj i o h2
    exact ⟨B, ob, (cutPsi_lt h3).trans q1, q2, belowO_R (fun _ hi => cutPsi_lt hi) h4 q3⟩
  own := fun i B o hi hg hB => m.own i B o hi (keepH_get hg).2 (cutPsi_some hB).2
  low := fun i hi => by
    obtain ⟨B, o, h1, h2⟩ := m.low i hi
    exact ⟨B, o, (cutPsi_lt (by omega)).trans h1, h2⟩
  sz0 := m.sz0
  glob := fun i hi => by
    obtain ⟨B, h1, h2⟩ := m.glob i hi
    exact ⟨B, (cutPsi_lt (by omega)).trans h1, h2⟩
  inj := fun i j B B' o o' hne hi hj gi gj hB hB' => m.inj i j B B' o o' hne hi hj (keepH_get gi).2 (keepH_get gj).2 (cutPsi_some hB).2 (cutPsi_some hB').2
  fresh := fun i hi => if_neg (by simp only at hi; omega)
  lt := fun i B hi => m.lt i B (cutPsi_some hi).2
  keys := fun i o hi => (belowHs_get hb (keepH_get hi).1 (keepH_get hi).2).1
  ext := fun i e ro k t B hi hB he => m.ext i e ro k t B (keepH_get hi).2 (cutPsi_some hB).2 he
theorem StR.forget (hNG : C.N ≤ C.G) (h0 : ∀ i, C.G ≤ i → ψ0 i = none) {s : AS} {m0 : Machine} {ts is : List Nat} (hf : mayForget C n ts is s = true) (hs : StR C ρ w0 K0 cs0 ψ0 s m0) : StR C ρ w0 K0 cs0 ψ0 (Go.U.forget n ts is s) m0 := by
  unfold mayForget at hf
  split at hf
  case h_2 => cases hf
  rename_i fn nt tm ops i l k kd h
  simp only [Bool.and_eq_true] at hf
  obtain ⟨b1, b2, b3, b4, b5, b6⟩ := hf
  have hG := Nat.le_of_ble_eq_true b1
  have hnx := Nat.le_of_ble_eq_true b2
  have hiM : i < MB := by simpa [Nat.blt_eq] using b3
  obtain ⟨K, ψ, w, f, cs, es, Kp, rfl, hB, hr, hS, hP, m, hle⟩ := hs
  simp only at hB hr hS m
  have hc : ∀ i, i < n → cutPsi n ψ i = ψ i := fun _ hi => cutPsi_lt hi
  have mm := m.cut hG hnx hNG b6
  have hle' : ψ0.le (cutPsi n ψ) := fun i B hi => by
    rcases Nat.lt_or_ge i n with hlt | hge
    · rw [hc i hlt]; exact hle i B hi
    · rw [h0 i (by omega)] at hi; cases hi
  cases hr with
  | ret q => cases q
  | pan _ _ q => cases q
  | run _ hm' htd =>
    simp only at htd
    generalize hft : f.todo = q' at htd
    cases htd with
    | cur G' hk hi D =>
      obtain ⟨st, D⟩ := D (· = h)
      exfalso
      have hck := D.ck
      unfold chk at hck
      rw [Nat.div_eq_of_lt hiM] at hck
      split at hck <;> first | cases hck | (rename_i hx; cases hx)
    | plain hk hi ht =>
      refine ⟨K, cutPsi n ψ, w, f, cs, [], Kp, rfl, ⟨hB.fn, hB.nt, hB.mb, hB.df, hB.kd, hB.rd⟩, .run rfl hm' ?_, hS, hP, mm, hle'⟩
      obtain ⟨y, k', rfl, hy, hi⟩ := hi
      rw [hft]
      cases hy
      refine .plain hk ⟨_, k', rfl, rfl, noYield_ItsR b4 hi⟩ fun j a hj => ?_
      obtain ⟨h1, h2⟩ := keepT_get hj
      obtain ⟨v, v1, v2⟩ := ht j a h2
      exact ⟨v, v1, below_VR hc a v (belowTs_get b5 h1 h2) v2⟩
theorem Run.sound (hN : NatOk C ρ w0) (hMix : C.P.follows .mixedOrders = true) (hNG : C.N ≤ C.G) (h0 : ∀ i, C.G ≤ i → ψ0 i = none) {Q : AS → Prop} {s : AS} (hr : Run C Q s) : ∀ {m0 : Machine}, StR C ρ w0 K0 cs0 ψ0 s m0 → ∃ s' m', Q s' ∧ Steps C.P m0 m' ∧ StR C ρ w0 K0 cs0 ψ0 s' m' := by
  induction hr with
  | done hq => exact fun hs => ⟨_, _, hq, Steps.refl _ _, hs⟩
  | steps n he _ ih =>
    intro m0 hs
    obtain ⟨m1, t1, r1⟩ := run_sound hN hMix n hs he
    obtain ⟨s', m', q, t2, r2⟩ := ih r1
    exact ⟨s', m', q, t1.trans t2, r2⟩
  | next N hn _ _ ih1 ih2 =>
    intro m0 hs
    obtain ⟨m1, t1, ⟨e, he, hne, r1⟩ | ⟨hall, r1⟩⟩ := next_sound' hs hn
    · obtain ⟨s', m', q, t2, r2⟩ := ih1 e he hne r1
      exact ⟨s', m', q, t1.trans t2, r2⟩
    · obtain ⟨s', m', q, t2, r2⟩ := ih2 hall r1
      exact ⟨s', m', q, t1.trans t2, r2⟩
  | forget n ts is hf he _ ih =>
    intro m0 hs
    subst he
    exact ih (hs.forget hNG h0 hf)
end
end Go.U
/-
  U, part 42: functions whose value leads to no memory, whichever way their iterators go.
-/
set_option linter.unusedVariables false
set_option linter.unusedSimpArgs false
set_option linter.unusedSectionVars false
namespace Go.U
open Go Go.RowKit

section
variable {C C' : Cx} {ρ : Nat → Int} {w0 : World} {K0 K K' : Nat → Option Obj} {cs0 : List Frame} {ψ ψ' ψ0 ψ1 : Psi} {h h' h1 : Hp} {w w' w1 : World} {n : Nat}
theorem run_call (hN : NatOk C ρ w0) (hMix : C.P.follows .mixedOrders = true) (hNG : C.N ≤ C.G) (h0 : ∀ i, C.G ≤ i → ψ i = none) (m : Mem C ρ w0 K ψ h w) {f : FuncId} {args : List A} {us : List Value} (hu : VRs ρ ψ args us) {fr : AF} (hfr : enterF C f args .normal = some fr) {x : A} (hr : Run C (fun s => ∃ h', endOf C f s = some (x, h')) ⟨fr, [], h⟩) :
    (∀ w, (callFunc f us.toArray).run C.P w = .ok (.enter f us.toArray) w) ∧ Calls C.P f us.toArray w fun e w' => ∃ v ψ' h', e = .returned v ∧ ψ.le ψ' ∧ Mem C ρ w0 K ψ' h' w' ∧ VR ρ ψ' x v := by
  obtain ⟨c1, _, c2⟩ := enter_sound (K := K) m.ok hfr hu
  refine ⟨c1, fun cs => ?_⟩
  obtain ⟨f0, t0, b0, r0⟩ := c2 cs w
  have h0' : StR C ρ w0 K cs ψ ⟨fr, [], h⟩ (lone f0 cs w) := ⟨K, ψ, w, f0, cs, [], fun b o => K b = some o, rfl, b0, r0, ⟨rfl, fun _ _ h => h⟩, ⟨fun _ _ h => h, fun p hp => by cases hp⟩, m, Psi.le.refl ψ⟩
  obtain ⟨s, m1, ⟨h', he⟩, t1, hst⟩ := hr.sound hN hMix hNG h0 h0'
  have hcs : s.cs = [] := by
    unfold endOf at he
    split at he
    · rfl
    · cases he
  obtain ⟨K1, ψ1, w1, f1, cs1, es, Kp, rfl, b1, r1, hS, p1, m1, l1⟩ := hst
  rw [hcs] at hS
  obtain ⟨rfl, k1⟩ := hS
  unfold endOf at he
  split at he
  case h_2 => cases he
  rename_i fn nt tm todo hq
  cases hbf : Nat.beq fn f with
  | false => rw [hbf] at he; cases he
  | true =>
    rw [hbf] at he
    have hbf := Nat.eq_of_beq_eq_true hbf
    subst hbf
    simp only [cond_true] at he
    split at he
    case h_2 => cases he
    rename_i fd hfd
    split at he
    case h_2 => cases he
    rename_i x' hx
    cases he
    simp only at b1 r1 m1
    cases r1 with
    | run q => cases q
    | pan _ _ q => cases q
    | ret _ g2 g3 _ =>
      obtain ⟨v, d1, d2⟩ := result_sound m1 g3 hx
      have mw := m.weaken l1 (fun b o hb => p1.k b o (k1 b o hb)) m1
      refine ⟨.returned v, w1, f1, ⟨v, ψ1, _, rfl, l1, mw, d2⟩, t0.trans t1, b1.fn, g2, b1.df, b1.kd, fd, ?_, d1⟩
      rw [b1.fn]
      exact m.ok.fns _ _ hfd
/-- A memory of ours that knows nothing but what lies below G. -/
theorem Mem.bare (m : Mem C ρ w0 K ψ h w) (hok : C'.Ok ρ) (hG : C'.G ≤ C.G) (hN : C'.N = C.N) (hNG : C'.N ≤ C'.G) : Mem C' ρ w (fun b => w.heap[b]?) (cutPsi C'.G ψ) ⟨.e, C'.G⟩ w where
  ok := hok
  os := rfl
  tape := rfl
  output := rfl
  keep := fun _ _ h => h
  g := Nat.le_refl _
  obj := fun i o hi => by rw [show (⟨.e, C'.G⟩ : Hp).get i = none from T.get_e i] at hi; cases hi
  own := fun i B o hi hg hB => by rw [show (⟨.e, C'.G⟩ : Hp).get i = none from T.get_e i] at hg; cases hg
  low := fun i hi => by
    obtain ⟨B, o, h1, h2, h3⟩ := m.low i (Nat.lt_of_lt_of_le hi hG)
    have := m.keep _ _ h2
    exact ⟨B, o, (cutPsi_lt hi).trans h1, this, get_lt this⟩
  sz0 := Nat.le_refl _
  glob := fun i hi => by
    obtain ⟨B, h1, h2⟩ := m.glob i (by rw [← hN]; exact hi)
    exact ⟨B, (cutPsi_lt (by omega)).trans h1, h2⟩
  inj := fun i j B B' o o' hne hi hj gi gj hB hB' => by rw [show (⟨.e, C'.G⟩ : Hp).get i = none from T.get_e i] at gi; cases gi
  fresh := fun i hi => if_neg (by simp only at hi; omega)
  lt := fun i B hi => m.lt i B (cutPsi_some hi).2
  keys := fun i o hi => by rw [show (⟨.e, C'.G⟩ : Hp).get i = none from T.get_e i] at hi; cases hi
  ext := fun i e ro k t B hi hB he => by rw [show (⟨.e, C'.G⟩ : Hp).get i = none from T.get_e i] at hi; cases hi
/-- Behind a call that kept all that there was. -/
theorem Mem.back (m : Mem C ρ w0 K ψ h w) (m1 : Mem C' ρ w (fun b => w.heap[b]?) ψ1 h1 w1) : Mem C ρ w0 K ψ h w1 where
  ok := m.ok
  os := m1.os.trans m.os
  tape := m1.tape.trans m.tape
  output := m1.output.trans m.output
  keep := fun b o hb => m1.keep b o (m.keep b o hb)
  g := m.g
  obj := fun i o hi => by
    obtain ⟨B, ob, q1, q2, q3⟩ := m.obj i o hi
    exact ⟨B, ob, q1, m1.keep _ _ q2, q3⟩
  own := m.own
  low := m.low
  sz0 := Nat.le_trans m.sz0 m1.sz0
  glob := m.glob
  inj := m.inj
  fresh := m.fresh
  lt := fun i B hi => Nat.lt_of_lt_of_le (m.lt i B hi) m1.sz0
  keys := m.keys
  ext := m.ext
theorem FnOk.flat (hok : C'.Ok ρ) (hP : C'.P = C.P) (hG : C'.G ≤ C.G) (hN : C'.N = C.N) (hNG : C'.N ≤ C'.G) (hN' : ∀ w0, NatOk C' ρ w0) (hMix : C.P.follows .mixedOrders = true) {f : FuncId} {g : List A → Hp → Option (A × Hp)}
    (hg : ∀ args h a h', g args h = some (a, h') → h' = h ∧ below 0 a = true ∧ belows 0 args = true ∧ ∃ fr, enterF C' f args .normal = some fr ∧ Run C' (fun s => ∃ h', endOf C' f s = some (a, h')) ⟨fr, [], ⟨.e, C'.G⟩⟩) : FnOk C ρ f g := by
  intro w0 K ψ h w args us a h' m hu he
  obtain ⟨rfl, h1, h2, fr, h3, h4⟩ := hg args h a h' he
  have mb := m.bare hok hG hN hNG
  have hu' : VRs ρ (cutPsi C'.G ψ) args us := belows_VR (n := 0) (fun i hi => absurd hi (Nat.not_lt_zero i)) args us h2 hu
  obtain ⟨c1, c2⟩ := run_call (hN' w) (by rw [hP]; exact hMix) hNG (fun i hi => if_neg (by omega)) mb hu' h3 h4
  rw [hP] at c1 c2
  refine .inr ⟨c1, Calls.to c2 fun e w' ⟨v, ψ', h', k1, k2, k3, k4⟩ => ⟨v, ψ, k1, Psi.le.refl ψ, m.back k3, below_VR (n := 0) (fun i hi => absurd hi (Nat.not_lt_zero i)) a v h1 k4⟩⟩
/-! a loop over a map -/
theorem countP_lt {α : Type} (p q : α → Bool) : ∀ (l : List α), (∀ a ∈ l, q a = true → p a = true) → (∃ a ∈ l, p a = true ∧ q a = false) → l.countP q < l.countP p
  | [], _, ⟨a, ha, _⟩ => by cases ha
  | x :: l, h, ⟨a, ha, hp, hq⟩ => by
    have hle : l.countP q ≤ l.countP p := List.countP_mono_left fun b hb => h b (List.mem_cons_of_mem _ hb)
    rw [List.countP_cons, List.countP_cons]
    rcases List.mem_cons.1 ha with rfl | ha
    · simp [hp, hq]; omega
    · have := countP_lt p q l (fun b hb => h b (List.mem_cons_of_mem _ hb)) ⟨a, ha, hp, hq⟩
      have h1 := h x (List.mem_cons_self ..)
      cases hqx : q x <;> cases hpx : p x <;> simp_all <;> omega
theorem loop_run {Q : AS → Prop} (S : List Nat → AS) (es : List (A × A × Nat)) (stop : A × A × Nat → Bool)
    (hd : ∀ e ∈ es, ∀ e' ∈ es, stop e = true → stop e' = false → e.2.2 ≠ e'.2.2)
    (hn : ∀ olds, ∃ N, nextAt C (S olds) = some N ∧ N.es = es ∧ N.seen = olds ∧ (∀ e ∈ es, stop e = false → Run C Q (S (e.2.2 :: olds)) → Run C Q (N.to e)) ∧ (∀ e ∈ es, stop e = true → Run C Q (N.to e)) ∧ ((∀ e ∈ es, stop e = false) → Run C Q N.over)) :
    ∀ (m : Nat) (olds : List Nat), es.countP (fun e => !olds.contains e.2.2) ≤ m → (∀ e ∈ es, stop e = true → e.2.2 ∉ olds) → Run C Q (S olds) := by
  intro m
  induction m with
  | zero =>
    intro olds hc ho
    obtain ⟨N, h1, h2, h3, h4, h5, h6⟩ := hn olds
    have hall : ∀ e ∈ es, e.2.2 ∈ olds := fun e he => by
      have := List.countP_eq_zero.1 (Nat.le_zero.1 hc) e he
      simpa using this
    refine .next N h1 (fun e he hne => absurd (by rw [h3]; exact hall e (by rw [← h2]; exact he)) hne) fun _ => h6 fun e he => ?_
    cases hs : stop e with
    | false => rfl
    | true => exact absurd (hall e he) (ho e he hs)
  | succ m ih =>
    intro olds hc ho
    obtain ⟨N, h1, h2, h3, h4, h5, h6⟩ := hn olds
    refine .next N h1 (fun e he hne => ?_) fun hall => h6 fun e he => ?_
    · rw [h2] at he
      rw [h3] at hne
      cases hs : stop e with
      | true => exact h5 e he hs
      | false =>
        refine h4 e he hs (ih _ ?_ fun e' he' hs' => ?_)
        · have := countP_lt (fun e => !olds.contains e.2.2) (fun x => !(e.2.2 :: olds).contains x.2.2) es (fun a _ ha => by simp at ha ⊢; exact ha.2) ⟨e, he, by simpa using hne, by simp⟩
          omega
        · have := hd e' he' e he hs' hs
          simp only [List.mem_cons, not_or]
          exact ⟨this, ho e' he' hs'⟩
    · cases hs : stop e with
      | false => rfl
      | true => exact absurd (by rw [← h3]; exact hall e (by rw [h2]; exact he)) (ho e he hs)
end
end Go.U
