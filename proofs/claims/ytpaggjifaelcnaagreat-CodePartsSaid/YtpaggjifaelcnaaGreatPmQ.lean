import Derived.Test.YtpaggjifaelcnaaGreatPmO
/-
  PM, part Q: calls that write what they are handed; regions that draw with one such call; results in memory, several.
-/
set_option linter.unusedVariables false
set_option linter.unusedSimpArgs false
namespace Go.Pm
open Go Go.RowKit
def iinv (k : IntKind) (x : Int) : Int := k.wrap (BitVec.ofInt k.bits (if k.signed then -1 else k.max) ^^^ BitVec.ofInt k.bits x).toNat

section
variable {P : Program}
inductive Rets2 (P : Program) (Γ : List Ent) : List ResultVar → {α : Type} → VL α → α → Prop
  | nil : Rets2 P Γ [] vlNil ()
  | cons {s l} {α β : Type} {V : Vd α} {x : α} {L : VL β} {y : β} (h : look Γ s = some ⟨s, V, x⟩) (k : Rets2 P Γ l L y) : Rets2 P Γ (.tmp s :: l) (vlCons V L) (x, y)
  | cell {s T l} {α β : Type} {K : Kd α} {x : α} {L : VL β} {y : β} (hT : TyOk P T K) (h : look Γ s = some ⟨s, vPtr K, x⟩) (k : Rets2 P Γ l L y) : Rets2 P Γ (.cell s T :: l) (vlCons K.v L) (x, y)
theorem Rets2.ok {B Γ Δ I a w} (st : St B Γ Δ I a w) {l : List ResultVar} {α : Type} {L : VL α} {x : α} (h : Rets2 P Γ l L x) :
    ∃ vs : List Value, (l.mapM (resV a.tmps)).run P w = .ok vs w ∧ L.P I w vs x := by
  induction h with
  | nil => exact ⟨[], by simp, rfl⟩
  | @cons s l α β V x L y hs k ih =>
    obtain ⟨vs, h1, h2⟩ := ih
    obtain ⟨v, hv, hp⟩ := st.env s _ hs
    refine ⟨v :: vs, ?_, v, vs, rfl, hp, h2⟩
    have hv' : a.tmps.getD s undef = v := by simp [Array.getD_eq_getD_getElem?, hv]
    simp only [List.mapM_cons, resV, Sem.run_bind, Sem.run_pure, Result.andThen_ok, hv', h1]
  | @cell s T l α β K x L y hT hs k ih =>
    obtain ⟨vs, h1, h2⟩ := ih
    obtain ⟨v, hv, hp⟩ := st.env s _ hs
    obtain ⟨b, q, rfl, hI, cs, hR, hc⟩ := vPtr_iff.1 hp
    refine ⟨pack K.agg cs :: vs, ?_, _, vs, rfl, ⟨cs, hR, rfl⟩, h2⟩
    have hv' : a.tmps.getD s undef = .pointer (some ⟨b, q, none⟩) := by simp [Array.getD_eq_getD_getElem?, hv]
    have hl := run_loadVar' (P := P) hT hR hc
    simp only [List.mapM_cons, resV, Sem.run_bind, Sem.run_pure, Result.andThen_ok, hv', asAddr, hl, h1]
theorem Rets2.len {Γ} {l : List ResultVar} {α : Type} {L : VL α} {x : α} (h : Rets2 P Γ l L x) : L.n = l.length := by
  induction h with
  | nil => rfl
  | cons h k ih => simp [vlCons, ih]
  | cell hT h k ih => simp [vlCons, ih]
variable {B : Base} {Γ : List Ent} {Δ : List Rs} {Q : Exit → Act → World → Prop}
theorem k_rets2 {fn : Func} {γ : Type} {out : γ → Out} {D : γ → List Rs} {α : Type} {L : VL α} {x : α} {e : Exit} {l : List ResultVar} (g : γ) (hr : fn.results = l.toArray) (hl : Nat.ble 2 l.length = true) (hs : Rets2 P Γ l L x) (ho : out g = .ret (vTup L) x) (hD : D g = Δ) (he : (e matches .ret | .normal) = true) :
    Kx B Γ Δ (bodyPost P fn (Post out D B.I B.w B.F)) e := by
  intro I a w st
  obtain ⟨F, hS, hF⟩ := st.ws
  obtain ⟨vs, hv, hp⟩ := hs.ok (P := P) st
  have hR : Post out D B.I B.w B.F (.returned (.tuple vs.toArray)) w := ⟨g, I, F, by rw [ho]; exact ⟨_, rfl, vs, rfl, hp⟩, by rw [hD]; exact hS, hF⟩
  have hlen : vs.length = l.length := by rw [L.len hp, hs.len]
  have h2 := Nat.le_of_ble_eq_true hl
  have hsz : ¬ vs.toArray.size = 1 := by simp; omega
  have hres : (results fn a.tmps).run P w = .ok (.tuple vs.toArray) w := by
    simp only [results_eq, hr, Array.mapM_eq_mapM_toList, Sem.run_bind, Sem.run_map, hv, Result.andThen_ok]
    have hsz' : ¬ vs.length = 1 := by omega
    simp [hsz']
  cases e <;> first | exact ⟨st.defs, _, hres, hR⟩ | simp at he
end

section
variable {P : Program} {B : Base} {Γ Γ' : List Ent} {Δ Δ' : List Rs} {Q : Exit → Act → World → Prop}
variable {d : Nat} {t : TypeId} {p : String} {af : Array Edge}

theorem St.perm {I a w} (p : Δ.Perm Δ') (st : St B Γ Δ I a w) : St B Γ Δ' I a w := ⟨st.size, st.defs, st.env, let ⟨F, hs, hf⟩ := st.ws; ⟨F, hs.perm p, hf⟩⟩
/-- A call that writes what it is handed. -/
theorem l_callm {f : FuncId} {os : List Operand} {ats : Array TypeId} {as : List Arg} {Δa Δ0 Δr Δ2 : List Rs} {β : Type} {V : Vd β} {y : β} (h : FC P f as Δa (fun _ : Unit => .ret V y) (fun _ => Δr)) (ho : Opds Γ os as)
    (p1 : Δ.Perm (Δa ++ Δ0)) (p2 : (Δr ++ Δ0).Perm Δ2) (hd : d < B.N) :
    Loc P B Γ Δ ⟨some d, .call { callee := .value (.func f), args := os.toArray, argTypes := ats }, t, p, af, none⟩ ⟨d, V, y⟩ Δ2 := by
  intro Γ' I a w hs s
  exact call_wp h ho hs (s.perm p1) fun g J u hg hw v hv => ⟨J, (s.put hg hw hd hv).perm p2⟩
theorem r_callm0 {ops l} {f : FuncId} {os : List Operand} {ats : Array TypeId} {as : List Arg} {Δa Δ0 Δr Δ2 : List Rs} {β : Type} {V : Vd β} {y : β} (h : FC P f as Δa (fun _ : Unit => .ret V y) (fun _ => Δr)) (ho : Opds Γ os as)
    (p1 : Δ.Perm (Δa ++ Δ0)) (p2 : (Δr ++ Δ0).Perm Δ2) (k : RL P B ops Γ Δ2 l Q) :
    RL P B ops Γ Δ (⟨none, .call { callee := .value (.func f), args := os.toArray, argTypes := ats }, t, p, af, none⟩ :: l) Q := by
  intro I a w s
  refine wpList_plain rfl fun K hK => call_wp h ho (Sub.refl _) (s.perm p1) fun g J u hg hw v hv => hK _ _ (k _ _ _ ((s.step hg hw).perm p2))

theorem callk_run {a : Act} {w : World} {f : FuncId} {o : Operand} {os : List Operand} {ats : Array TypeId} {dst : Option Nat} {us vs : List Value} (he : a.eval o = .func (.func f) us.toArray vs.toArray) (ok : fnB P f = true) :
    (execOp a.eval ⟨dst, .call { callee := .value o, args := os.toArray, argTypes := ats }, t, p, af, none⟩).run P w = .ok (.enter f (us ++ (os.map a.eval ++ vs)).toArray) w := callv_run he ok
theorem callk_wp {I a w} {f : FuncId} {o : Operand} {os : List Operand} {ats : Array TypeId} {dst : Option Nat} {fs as cs : List Arg} {Δa Δ0 : List Rs} {γ : Type} {out : γ → Out} {D : γ → List Rs} {K : Act → World → Prop} {Γ1}
    (hk : Opd Γ o (vKn f fs cs) ()) (h : FC P f (fs ++ (as ++ cs)) Δa out D) (ho : Opds Γ os as) (hs : Sub Γ Γ1) (s : St B Γ1 (Δa ++ Δ0) I a w)
    (hK : ∀ g J u (_ : Grow I w J u) (_ : ∃ F, Sep (D g ++ Δ0) J u F ∧ Fr B.I B.w B.F J u F), match out g with
      | .ret V x => ∀ v, V.P J u v x → K (a.put dst v) u
      | .pan V x => ∀ v, V.P J u v x → Q (.panic [{ v, recovered := false }]) a u) :
    (⟨dst, .call { callee := .value o, args := os.toArray, argTypes := ats }, t, p, af, none⟩ : Oper).wp P a w K Q := by
  obtain ⟨us, vs, he, h5, h6⟩ := hk.ok hs s
  obtain ⟨F1, h1, h2, h3, h4⟩ := s.called (out := out) (D := D)
  unfold Oper.wp
  rw [callk_run he h.ok, Oper.upon_enter]
  refine (h.calls I w _ F1 (h5.append ((ho.ok hs s).append h6)) h1 h2 h3).mono fun e u hp => ?_
  obtain ⟨g, J, hok, hg, hw⟩ := h4 e u hp
  have := hK g J u hg hw
  cases hout : out g with
  | ret V x =>
    rw [hout] at this hok
    obtain ⟨v, rfl, hv⟩ := hok
    exact this v hv
  | pan V x =>
    rw [hout] at this hok
    obtain ⟨v, rfl, hv⟩ := hok
    exact this v hv
/-- A call of a function value that is known. -/
theorem l_callk {f : FuncId} {o : Operand} {os : List Operand} {ats : Array TypeId} {fs as cs : List Arg} {Δa Δ0 Δr Δ2 : List Rs} {β : Type} {V : Vd β} {y : β} (hk : Opd Γ o (vKn f fs cs) ()) (h : FC P f (fs ++ (as ++ cs)) Δa (fun _ : Unit => .ret V y) (fun _ => Δr)) (ho : Opds Γ os as)
    (p1 : Δ.Perm (Δa ++ Δ0)) (p2 : (Δr ++ Δ0).Perm Δ2) (hd : d < B.N) :
    Loc P B Γ Δ ⟨some d, .call { callee := .value o, args := os.toArray, argTypes := ats }, t, p, af, none⟩ ⟨d, V, y⟩ Δ2 := by
  intro Γ' I a w hs s
  exact callk_wp hk h ho hs (s.perm p1) fun g J u hg hw v hv => ⟨J, (s.put hg hw hd hv).perm p2⟩
theorem r_callk0 {ops l} {f : FuncId} {o : Operand} {os : List Operand} {ats : Array TypeId} {fs as cs : List Arg} {Δa Δ0 Δr Δ2 : List Rs} {β : Type} {V : Vd β} {y : β} (hk : Opd Γ o (vKn f fs cs) ()) (h : FC P f (fs ++ (as ++ cs)) Δa (fun _ : Unit => .ret V y) (fun _ => Δr)) (ho : Opds Γ os as)
    (p1 : Δ.Perm (Δa ++ Δ0)) (p2 : (Δr ++ Δ0).Perm Δ2) (k : RL P B ops Γ Δ2 l Q) :
    RL P B ops Γ Δ (⟨none, .call { callee := .value o, args := os.toArray, argTypes := ats }, t, p, af, none⟩ :: l) Q := by
  intro I a w s
  refine wpList_plain rfl fun K hK => callk_wp hk h ho (Sub.refl _) (s.perm p1) fun g J u hg hw v hv => hK _ _ (k _ _ _ ((s.step hg hw).perm p2))
/-- Several taken to the front, and back. -/
theorem pm_nil : Δ.Perm ([] ++ Δ) := .refl _
theorem pr_nil : ([] ++ Δ).Perm Δ := .refl _
theorem pr_take {Δa Δ0 : List Rs} {r : Rs} (i : Nat) (hi : Δ[i]? = some r) (k : (Δa ++ Δ0).Perm (Δ.eraseIdx i)) : ((r :: Δa) ++ Δ0).Perm Δ := (k.cons r).trans (take_front hi).symm
theorem o_nilm {κ β : Type} {K : Kd κ} {V : Kd β} : Opd Γ (.const (.map none)) (kMap K V).v [] where
  ok _ _ := ⟨[.map none], .inl ⟨rfl, rfl⟩, rfl⟩
theorem pm_take {Δa Δ0 : List Rs} {r : Rs} (i : Nat) (hi : Δ[i]? = some r) (k : (Δ.eraseIdx i).Perm (Δa ++ Δ0)) : Δ.Perm ((r :: Δa) ++ Δ0) := (take_front hi).trans (k.cons r)

/-- What a region's writers have brought forth. -/
abbrev Gh := List Value
def gg (gs : Gh) (i : Nat) : Value := gs.getD i undef
def blk : Value → Nat
  | .pointer (some a) => a.block
  | _ => 0
theorem gg_app {gs : Gh} {v : Value} {i : Nat} (h : i < gs.length) : gg (gs ++ [v]) i = gg gs i := by simp [gg, List.getD_eq_getElem?_getD, List.getElem?_append_left h]
theorem len0 {gs : Gh} (h : gs.length = 0) : gs = [] := List.length_eq_zero_iff.1 h
theorem len1 {gs : Gh} (h : gs.length = 1) : ∃ a, gs = [a] := List.length_eq_one_iff.1 h
theorem len2 {gs : Gh} (h : gs.length = 2) : ∃ a b, gs = [a, b] := by
  match gs, h with
  | [a, b], _ => exact ⟨a, b, rfl⟩
theorem len3 {gs : Gh} (h : gs.length = 3) : ∃ a b c, gs = [a, b, c] := by
  match gs, h with
  | [a, b, c], _ => exact ⟨a, b, c, rfl⟩
theorem len4 {gs : Gh} (h : gs.length = 4) : ∃ a b c d, gs = [a, b, c, d] := by
  match gs, h with
  | [a, b, c, d], _ => exact ⟨a, b, c, d, rfl⟩
theorem len5 {gs : Gh} (h : gs.length = 5) : ∃ a b c d e, gs = [a, b, c, d, e] := by
  match gs, h with
  | [a, b, c, d, e], _ => exact ⟨a, b, c, d, e, rfl⟩
theorem len6 {gs : Gh} (h : gs.length = 6) : ∃ a b c d e f, gs = [a, b, c, d, e, f] := by
  match gs, h with
  | [a, b, c, d, e, f], _ => exact ⟨a, b, c, d, e, f, rfl⟩
theorem len7 {gs : Gh} (h : gs.length = 7) : ∃ a0 a1 a2 a3 a4 a5 a6, gs = [a0, a1, a2, a3, a4, a5, a6] := by
  match gs, h with
  | [a0, a1, a2, a3, a4, a5, a6], _ => exact ⟨a0, a1, a2, a3, a4, a5, a6, rfl⟩
theorem len8 {gs : Gh} (h : gs.length = 8) : ∃ a0 a1 a2 a3 a4 a5 a6 a7, gs = [a0, a1, a2, a3, a4, a5, a6, a7] := by
  match gs, h with
  | [a0, a1, a2, a3, a4, a5, a6, a7], _ => exact ⟨a0, a1, a2, a3, a4, a5, a6, a7, rfl⟩
theorem len9 {gs : Gh} (h : gs.length = 9) : ∃ a0 a1 a2 a3 a4 a5 a6 a7 a8, gs = [a0, a1, a2, a3, a4, a5, a6, a7, a8] := by
  match gs, h with
  | [a0, a1, a2, a3, a4, a5, a6, a7, a8], _ => exact ⟨a0, a1, a2, a3, a4, a5, a6, a7, a8, rfl⟩
theorem len10 {gs : Gh} (h : gs.length = 10) : ∃ a0 a1 a2 a3 a4 a5 a6 a7 a8 a9, gs = [a0, a1, a2, a3, a4, a5, a6, a7, a8, a9] := by
  match gs, h with
  | [a0, a1, a2, a3, a4, a5, a6, a7, a8, a9], _ => exact ⟨a0, a1, a2, a3, a4, a5, a6, a7, a8, a9, rfl⟩
theorem len11 {gs : Gh} (h : gs.length = 11) : ∃ a0 a1 a2 a3 a4 a5 a6 a7 a8 a9 a10, gs = [a0, a1, a2, a3, a4, a5, a6, a7, a8, a9, a10] := by
  match gs, h with
  | [a0, a1, a2, a3, a4, a5, a6, a7, a8, a9, a10], _ => exact ⟨a0, a1, a2, a3, a4, a5, a6, a7, a8, a9, a10, rfl⟩
theorem len12 {gs : Gh} (h : gs.length = 12) : ∃ a0 a1 a2 a3 a4 a5 a6 a7 a8 a9 a10 a11, gs = [a0, a1, a2, a3, a4, a5, a6, a7, a8, a9, a10, a11] := by
  match gs, h with
  | [a0, a1, a2, a3, a4, a5, a6, a7, a8, a9, a10, a11], _ => exact ⟨a0, a1, a2, a3, a4, a5, a6, a7, a8, a9, a10, a11, rfl⟩
/-- What is owned, by how many have written. -/
def ph (gs : Gh) (l : List (Gh → List Rs)) : List Rs := match l[gs.length]? with | some f => f gs | none => []
def ext : Option Ent → List Ent → List Ent
  | none, Γ => Γ
  | some e, Γ => e :: Γ
theorem Oper.wp_imp' {o : Oper} {a : Act} {w : World} {K K' : Act → World → Prop} {Q Q' : Exit → Act → World → Prop} (h : o.wp P a w K Q) (hk : ∀ a w, K a w → K' a w) (hq : ∀ e a w, e ≠ .normal → Q e a w → Q' e a w) : o.wp P a w K' Q' := by
  unfold Oper.wp Oper.upon at *
  split at h <;> rename_i heq <;> first | exact hk _ _ h | exact h.elim | exact hq _ _ _ (by simp) h | skip
  · refine Calls.mono h fun e w' r => ?_
    cases e with
    | returned v => exact hk _ _ r
    | panicked ch => exact hq _ _ _ (by simp) r
    | outgrown => obtain ⟨a, w, r⟩ := r; exact ⟨a, w, hq _ _ _ (by simp) r⟩
  · exact Rows.mono h fun v w' r => hk _ _ r
section
variable (P B)
/-- One operation, of a slot or none. -/
def LocF (Γ : List Ent) (Δ : List Rs) (o : Oper) (e : Option Ent) (Δ' : List Rs) : Prop :=
  ∀ Γ' I a w, Sub Γ Γ' → St B Γ' Δ I a w → o.wp P a w (fun a' w' => ∃ J, St B (ext e Γ') Δ' J a' w') (fun _ _ _ => False)
/-- .. that brings something forth. -/
def LocX (Γ : List Ent) (Δ : List Rs) (o : Oper) (e : Value → Option Ent) (Δ' : Value → List Rs) : Prop :=
  ∀ Γ' I a w, Sub Γ Γ' → St B Γ' Δ I a w → o.wp P a w (fun a' w' => ∃ v J, St B (ext (e v) Γ') (Δ' v) J a' w') (fun _ _ _ => False)
end
theorem lf {o : Oper} {e : Ent} (h : Loc P B Γ Δ o e Δ') : LocF P B Γ Δ o (some e) Δ' := h
theorem lx {o : Oper} {e : Option Ent} (h : LocF P B Γ Δ o e Δ') : LocX P B Γ Δ o (fun _ => e) (fun _ => Δ') := fun Γ' I a w hs st =>
  Oper.wp_imp (h Γ' I a w hs st) (fun _ _ ⟨J, h⟩ => ⟨undef, J, h⟩) (fun _ _ _ h => h)
theorem Opd.sub {o : Operand} {α : Type} {V : Vd α} {x : α} (h : Opd Γ o V x) (hs : Sub Γ Γ') : Opd Γ' o V x := ⟨fun hs' st => h.ok (hs.trans hs') st⟩
theorem lx_r {o : Oper} {f : Value → Option Ent} {D : Value → List Rs} (hg : o.guard = none) (h : ∀ Γ', Sub Γ Γ' → ∀ Q, (∀ v, RL P B #[] (ext (f v) Γ') (D v) [] Q) → RL P B #[] Γ' Δ [o] Q) : LocX P B Γ Δ o f D := by
  intro Γ' I a w hs s
  have hr := h Γ' hs (fun e a w => e = .normal ∧ ∃ v J, St B (ext (f v) Γ') (D v) J a w) (fun v J a w st => wpList_nil ⟨rfl, v, J, st⟩) I a w s
  unfold wpList at hr
  rw [if_pos (by simp [Region.wanted, hg])] at hr
  rcases hr with hr | ⟨_, a, w, hr, _⟩
  · exact Oper.wp_imp' hr (fun a' w' hk => by unfold wpList at hk; exact hk.2) (fun e a w hn hq => hn hq.1)
  · cases hr
theorem e_alloc {T : TypeId} {α : Type} {K : Kd α} {z : α} (hz : ZeroOk P T K z) (hd : d < B.N) : LocX P B Γ Δ ⟨some d, .alloc T, t, p, af, none⟩ (fun v => some ⟨d, vLoc, (blk v, 0)⟩) (fun v => Δ ++ [rBox (blk v) T K z]) :=
  lx_r rfl fun _ _ _ k => r_alloc hz hd fun b => k (.pointer (some ⟨b, 0, none⟩))
theorem e_boxm {T : TypeId} {o : Operand} {α : Type} {K : Kd α} {x : α} (h : Opd Γ o K.v x) (hd : d < B.N) : LocX P B Γ Δ ⟨some d, .box T o, t, p, af, none⟩ (fun v => some ⟨d, vLoc, (blk v, 0)⟩) (fun v => Δ ++ [rBox (blk v) T K x]) :=
  lx_r rfl fun _ hs _ k => r_boxm (h.sub hs) hd fun b => k (.pointer (some ⟨b, 0, none⟩))
theorem e_stm {T : TypeId} {o o' : Operand} {b q i : Nat} {e : TypeId} {α β : Type} {K : Kd α} {L : Kd β} {get set} {x : α} {y : β} (h : Opd Γ o vLoc (b, q)) (h' : Opd Γ o' L.v y) (hi : Δ[i]? = some (rBox b e K x)) (hf : Fld K q L get set) (hn : tySize P T = some L.n) :
    LocX P B Γ Δ ⟨none, .store T o o', t, p, af, none⟩ (fun _ => none) (fun _ => Δ.set i (rBox b e K (set y x))) :=
  lx_r rfl fun _ hs _ k => r_stm (h.sub hs) (h'.sub hs) hi hf hn (k undef)
theorem e_mkmap {T : TypeId} {κ β : Type} {K : Kd κ} {V : Kd β} (hd : d < B.N) : LocX P B Γ Δ ⟨some d, .makeMap T none, t, p, af, none⟩ (fun v => some ⟨d, kVal.v, v⟩) (fun v => Δ ++ [rMap v K V []]) :=
  lx_r rfl fun _ _ _ k => r_mkmap hd k
theorem e_mu {op : Op} {T kt e i : Nat} {o1 o2 o3 : Operand} {v : Value} {κ β : Type} {K : Kd κ} {V : Kd β} {eq : κ → κ → Bool} {x : κ} {y : β} {m : List (κ × β)} (hop : op = .mapUpdate T o1 o2 o3 ∨ op = .insert T o1 o2 o3)
    (hT : isMap P T kt e = true) (hK : KeyOk P kt K eq) (h1 : Opd Γ o1 kVal.v v) (h2 : Opd Γ o2 K.v x) (h3 : Opd Γ o3 V.v y) (hi : Δ[i]? = some (rMap v K V m)) :
    LocX P B Γ Δ ⟨none, op, t, p, af, none⟩ (fun _ => none) (fun _ => Δ.set i (rMap v K V (mset eq x y m))) :=
  lx_r rfl fun _ hs _ k => r_mu hop hT hK (h1.sub hs) (h2.sub hs) (h3.sub hs) hi (k undef)
theorem e_mk0 {T e bytes : Nat} {o o' : Operand} {n : Int} {α : Type} {K : Kd α} (hT : ElOk P T e K bytes) (h0 : Opd Γ o (vInt .i64) 0) (h : Opd Γ o' (vInt .i64) n) (hn : mkFits bytes n = true) (hd : d < B.N) :
    LocX P B Γ Δ ⟨some d, .makeSlice T o o', t, p, af, none⟩ (fun v => some ⟨d, kVal.v, v⟩) (fun v => Δ ++ [rArr v e K []]) :=
  lx_r rfl fun _ hs _ k => r_mk0 hT (h0.sub hs) (h.sub hs) hn hd k
theorem e_app {T T' e bytes i : Nat} {o o' : Operand} {v : Value} {α : Type} {K : Kd α} {xs ys : List α} (hT : ElOk P T e K bytes) (hTT : T' = T) (h : Opd Γ o kVal.v v) (h' : Opd Γ o' (vSlice K) ys) (hi : Δ[i]? = some (rArr v e K xs))
    (hy : ys ≠ []) (hn : appFits bytes xs.length ys.length = true) (hd : d < B.N) :
    LocX P B Γ Δ ⟨some d, .call { callee := .builtin .append, args := #[o, o'], argTypes := #[T, T'] }, t, p, af, none⟩ (fun v' => some ⟨d, kVal.v, v'⟩) (fun v' => Δ.set i (rArr v' e K (xs ++ ys))) :=
  lx_r rfl fun _ hs _ k => r_app hT hTT (h.sub hs) (h'.sub hs) hi hy hn hd k
theorem e_nilo {op : Op} {e : TypeId} {α : Type} {K : Kd α} (ho : op = .assign (.const (.slice none 0 0)) ∨ op = .move (.const (.slice none 0 0))) (hd : d < B.N) :
    LocX P B Γ Δ ⟨some d, op, t, p, af, none⟩ (fun _ => some ⟨d, kVal.v, .slice none 0 0⟩) (fun _ => Δ ++ [rArr (.slice none 0 0) e K []]) :=
  lx_r rfl fun _ _ _ k => r_nilo ho hd (k undef)
theorem e_slo {T e i : Nat} {o : Operand} {oh : Option Operand} {v : Value} {α : Type} {K : Kd α} {xs : List α} {hi : Int} (h : Opd Γ o kVal.v v) (hi' : Δ[i]? = some (rArr v e K xs)) (hh : OOpd Γ oh xs.length hi) (hb : (decide (0 ≤ hi) && decide (hi ≤ xs.length)) = true)
    (hT : isSlice P T e = true) (hn : tySize P e = some K.n) (hd : d < B.N) : LocX P B Γ Δ ⟨some d, .slice T o none oh none, t, p, af, none⟩ (fun v' => some ⟨d, kVal.v, v'⟩) (fun v' => Δ.set i (rArr v' e K (xs.take hi.toNat))) :=
  lx_r rfl fun _ hs _ k => r_slo (h.sub hs) hi' ⟨hh.ok.imp _root_.id fun ⟨o', k, h1, h2⟩ => ⟨o', k, h1, h2.sub hs⟩⟩ hb hT hn hd k

/-! regions that draw -/
abbrev DE := Nat × (Gh → Option Ent)
def Lc (lv : Nat) (f : Gh → Option Ent) : Prop := ∀ gs v, lv ≤ gs.length → f (gs ++ [v]) = f gs
def binds1 (af : Array Edge) (j : Nat) : Bool := af.toList.any fun x => Nat.beq x.on j && Region.binds .any x
def lvB (D : List DE) (lv : Nat) (af : Array Edge) : Bool := Nat.beq lv 0 || af.toList.any fun x => Region.binds .any x && match D[x.on]? with | some e => Nat.ble lv e.1 | none => false
/-- Where an operation's operands come from. -/
inductive Src (base : List Ent) (dsts : List Nat) (D : List DE) (gs : Gh) (af : Array Edge) : List Ent → Prop
  | nil : Src base dsts D gs af []
  | b {e Γ} (h : look base e.s = some e) (hd : dsts.contains e.s = false) (k : Src base dsts D gs af Γ) : Src base dsts D gs af (e :: Γ)
  | d {e Γ} (j : Nat) (hj : binds1 af j = true) (hD : (D[j]?).bind (fun x => x.2 gs) = some e) (k : Src base dsts D gs af Γ) : Src base dsts D gs af (e :: Γ)
structure Held (B : Base) (base : List Ent) (Δf : Gh → List Rs) (dsts : List Nat) (D : List DE) (effs : List Nat) (listed : Nat → Prop) (gs : Gh) (Γ : List Ent) (I : ISet) (a : Act) (w : World) : Prop where
  st : St B Γ (Δf gs) I a w
  hb : ∀ s e, look base s = some e → dsts.contains s = false → look Γ s = some e
  hd : ∀ j x, listed j → D[j]? = some x → x.1 ≤ gs.length ∧ ∀ e, x.2 gs = some e → look Γ e.s = some e
  he : ∀ m, m < gs.length → ∃ q, effs[m]? = some q ∧ listed q
variable {base : List Ent}
theorem Src.sub {Δf dsts D gs effs af G Γ I a w} {listed : Nat → Prop} (h : Src base dsts D gs af G) (hh : Held B base Δf dsts D effs listed gs Γ I a w) (hl : ∀ e ∈ af, Region.binds .any e = true → listed e.on) : Sub G Γ := by
  induction h with
  | nil => exact Sub.nil _
  | b h hd k ih => exact Sub.cons (hh.hb _ _ h hd) ih
  | d j hj hD k ih =>
    obtain ⟨x, hx, hxe⟩ := Option.bind_eq_some_iff.1 hD
    obtain ⟨x', hx', hx2⟩ := List.any_eq_true.1 hj
    simp only [Bool.and_eq_true] at hx2
    have hon : x'.on = j := Nat.eq_of_beq_eq_true hx2.1
    refine Sub.cons ((hh.hd j x ?_ hx).2 _ hxe) ih
    rw [← hon]
    exact hl x' (by simpa using hx') hx2.2
theorem lvB_ok {Δf dsts D gs effs af Γ I a w lv} {listed : Nat → Prop} (h : lvB D lv af = true) (hh : Held B base Δf dsts D effs listed gs Γ I a w) (hl : ∀ e ∈ af, Region.binds .any e = true → listed e.on) : lv ≤ gs.length := by
  unfold lvB at h
  rcases Bool.or_eq_true_iff.1 h with h | h
  · have := Nat.eq_of_beq_eq_true h; omega
  · obtain ⟨x, hx, hx2⟩ := List.any_eq_true.1 h
    simp only [Bool.and_eq_true] at hx2
    obtain ⟨h1, h2⟩ := hx2
    cases hD : D[x.on]? with
    | none => simp [hD] at h2
    | some e =>
      simp only [hD] at h2
      have := (hh.hd x.on e (hl x (by simpa using hx) h1) hD).1
      have := Nat.le_of_ble_eq_true h2
      omega
/-- The guard says so. -/
inductive Gd (ops : Array Oper) (base : List Ent) (dsts : List Nat) (D : List DE) (af : Array Edge) : Option (Nat × Bool) → Prop
  | n : Gd ops base dsts D af none
  | s {j b s x} (hj : (ops[j]?).bind (·.dst) = some s) (hs : ∀ gs, Src base dsts D gs af [⟨s, vBool, x⟩]) (hx : x = b) : Gd ops base dsts D af (some (j, b))
def elB' (effs : List Nat) (m : Nat) : Bool := effs.all fun q => !Nat.beq m q
/-- The operations, one by one. -/
inductive Dr (P : Program) (B : Base) (base : List Ent) (Δf : Gh → List Rs) (effs : List Nat) (ops : Array Oper) (dsts : List Nat) (D : List DE) : Nat → List Oper → List DE → Prop
  | nil {m} : Dr P B base Δf effs ops dsts D m [] []
  /-- it runs -/
  | x {m d op t p af gd l L} {f : Gh → Ent} (lv : Nat) (G : Gh → List Ent) (hm : elB' effs m = true) (h : ∀ gs, Loc P B (G gs) (Δf gs) ⟨some d, op, t, p, af, none⟩ (f gs) (Δf gs)) (hG : ∀ gs, Src base dsts D gs af (G gs))
      (hg : Gd ops base dsts D af gd) (hs : ∀ gs, (f gs).s = d) (hl : lvB D lv af = true) (hc : Lc lv (fun gs => some (f gs))) (k : Dr P B base Δf effs ops dsts D (m + 1) l L) : Dr P B base Δf effs ops dsts D m (⟨some d, op, t, p, af, gd⟩ :: l) ((lv, fun gs => some (f gs)) :: L)
  /-- it does not run -/
  | n {m d op t p af l L} {j : Nat} {b : Bool} (e : Gh → Ent) (hm : elB' effs m = true) (hj : ∀ gs, (ops[j]?).bind (·.dst) = some (e gs).s) (hs : ∀ gs, Src base dsts D gs af [e gs]) (hx : ∀ gs, NoY b (e gs)) (hd : d < B.N) (k : Dr P B base Δf effs ops dsts D (m + 1) l L) :
      Dr P B base Δf effs ops dsts D m (⟨some d, op, t, p, af, some (j, b)⟩ :: l) ((0, fun _ => some ⟨d, vUnd, ()⟩) :: L)
  /-- it runs, and brings something forth -/
  | e {m dst op t p af gd l L} {f : Gh → Option Ent} (lv : Nat) (G : Gh → List Ent) (hm : effs[lv]? = some m) (h : ∀ gs, gs.length = lv → LocX P B (G gs) (Δf gs) ⟨dst, op, t, p, af, none⟩ (fun v => f (gs ++ [v])) (fun v => Δf (gs ++ [v]))) (hG : ∀ gs, Src base dsts D gs af (G gs))
      (hg : Gd ops base dsts D af gd) (hs : ∀ gs, (f gs).map (·.s) = dst) (hl : lvB D lv af = true) (hc : Lc (lv + 1) f) (k : Dr P B base Δf effs ops dsts D (m + 1) l L) : Dr P B base Δf effs ops dsts D m (⟨dst, op, t, p, af, gd⟩ :: l) ((lv + 1, f) :: L)
variable {Δf : Gh → List Rs} {effs : List Nat}
structure DrAt (P : Program) (B : Base) (base : List Ent) (Δf : Gh → List Rs) (effs : List Nat) (ops : Array Oper) (dsts : List Nat) (D : List DE) (i : Nat) (o : Oper) (x : DE) : Prop where
  dst : ∀ gs, (x.2 gs).map (·.s) = o.dst
  lc : Lc x.1 x.2
  ok : ((∃ G : Gh → List Ent, Gd ops base dsts D o.after o.guard ∧ (∀ gs, Src base dsts D gs o.after (G gs)) ∧
        ((elB' effs i = true ∧ lvB D x.1 o.after = true ∧ ∀ gs, LocF P B (G gs) (Δf gs) ⟨o.dst, o.op, o.type, o.pos, o.after, none⟩ (x.2 gs) (Δf gs)) ∨
         (∃ lv, x.1 = lv + 1 ∧ effs[lv]? = some i ∧ lvB D lv o.after = true ∧ ∀ gs, gs.length = lv → LocX P B (G gs) (Δf gs) ⟨o.dst, o.op, o.type, o.pos, o.after, none⟩ (fun v => x.2 (gs ++ [v])) (fun v => Δf (gs ++ [v])))))) ∨
    (elB' effs i = true ∧ ∃ d j b, x = (0, fun _ => some ⟨d, vUnd, ()⟩) ∧ o.dst = some d ∧ d < B.N ∧ o.guard = some (j, b) ∧ ∃ e : Gh → Ent, (∀ gs, (ops[j]?).bind (·.dst) = some (e gs).s) ∧ (∀ gs, Src base dsts D gs o.after [e gs]) ∧ (∀ gs, NoY b (e gs)))
theorem Dr.get {ops dsts D} : ∀ {l : List Oper} {L : List DE} {m i : Nat} {o : Oper}, Dr P B base Δf effs ops dsts D m l L → l[i]? = some o → ∃ x, L[i]? = some x ∧ DrAt P B base Δf effs ops dsts D (m + i) o x := by
  intro l L m i o h
  induction h generalizing i with
  | nil => intro ho; simp at ho
  | @x m d op t p af gd l L f lv G hm h hG hg hs hl hc k ih =>
    intro ho
    cases i with
    | zero => simp at ho; subst ho; exact ⟨_, rfl, fun gs => by simp [hs], hc, .inl ⟨G, hg, hG, .inl ⟨hm, hl, fun gs => lf (h gs)⟩⟩⟩
    | succ i => have := ih (i := i) (by simpa using ho); rw [Nat.add_right_comm, Nat.add_assoc] at this; simpa using this
  | @n m d op t p af l L j b e hm hj hs hx hdN k ih =>
    intro ho
    cases i with
    | zero => simp at ho; subst ho; exact ⟨_, rfl, fun gs => rfl, fun _ _ _ => rfl, .inr ⟨hm, d, j, b, rfl, rfl, hdN, rfl, e, hj, hs, hx⟩⟩
    | succ i => have := ih (i := i) (by simpa using ho); rw [Nat.add_right_comm, Nat.add_assoc] at this; simpa using this
  | @e m dst op t p af gd l L f lv G hm h hG hg hs hl hc k ih =>
    intro ho
    cases i with
    | zero => simp at ho; subst ho; exact ⟨_, rfl, hs, hc, .inl ⟨G, hg, hG, .inr ⟨lv, rfl, hm, hl, h⟩⟩⟩
    | succ i => have := ih (i := i) (by simpa using ho); rw [Nat.add_right_comm, Nat.add_assoc] at this; simpa using this
theorem Dr.len {ops dsts D m} {l : List Oper} {L : List DE} (h : Dr P B base Δf effs ops dsts D m l L) : L.length = l.length := by
  induction h <;> simp_all
theorem Dr.dst {ops dsts D m} {l : List Oper} {L : List DE} {i : Nat} {x : DE} {o : Oper} {gs : Gh} {e : Ent} (h : Dr P B base Δf effs ops dsts D m l L) (ho : l[i]? = some o) (hx : L[i]? = some x) (he : x.2 gs = some e) : o.dst = some e.s := by
  obtain ⟨x', h1, h2⟩ := h.get ho
  rw [hx] at h1; cases h1
  rw [← h2.dst gs, he]; rfl
def final (base : List Ent) (dsts : List Nat) (D : List DE) (gs : Gh) : List Ent := D.filterMap (fun x => x.2 gs) ++ base.filter fun e => !dsts.contains e.s
theorem t_draw {id : Nat} {l : List Oper} (D : List DE) (hm : P.follows .mixedOrders = true) (hn : nodupB (dstsOf l) = true) (he : edgesB 0 l = true)
    (Δf : Gh → List Rs) (effs : List Nat) (heffs : (effs.all (Nat.blt · l.length) && nodupB effs) = true) (h : Dr P B base Δf effs l.toArray (dstsOf l) D 0 l D) (k : ∀ gs : Gh, gs.length = effs.length → Kx B (final base (dstsOf l) D gs) (Δf gs) Q .normal) : Tr P B base (Δf []) (.region id l.toArray true) Q := by
  have hnd : effs.Nodup := nodupB_ok (Bool.and_eq_true_iff.1 heffs).2
  have heff : ∀ q ∈ effs, q < l.length := fun q hq => lt (List.all_eq_true.1 (Bool.and_eq_true_iff.1 heffs).1 q hq)
  intro I a w st
  refine wp_region_any hm ?_
  have hn := nodupB_ok hn
  have key : ∀ (fuel : Nat) (listed : Array Bool) (gs : Gh) (Γ : List Ent) (I : ISet) (a : Act) (w : World), listed.size = l.length → Held B base Δf (dstsOf l) D effs (fun j => listed.getD j false = true) gs Γ I a w →
      (fuel = 0 → Region.ready .any l.toArray listed = []) → (∀ n, (listed.toList.filter (! ·)).length = n → n ≤ fuel) → wpAny P .any l.toArray Q fuel listed a w := by
    intro fuel
    have done : ∀ (listed : Array Bool) (gs : Gh) (Γ : List Ent) (I : ISet) (a : Act) (w : World), listed.size = l.length → Held B base Δf (dstsOf l) D effs (fun j => listed.getD j false = true) gs Γ I a w →
        Region.ready .any l.toArray listed = [] → Q .normal a w := by
      intro listed gs Γ I a w hsz hh hr
      have all : ∀ i, i < l.length → listed.getD i false = true := by
        intro i
        induction i using Nat.strongRecOn with
        | _ i ih =>
          intro hi
          cases hb : listed.getD i true with
          | true =>
            have : i < listed.size := by omega
            simpa [this] using hb
          | false =>
            exfalso
            have : i ∈ Region.ready .any l.toArray listed := by
              refine mem_ready.2 ⟨hb, l[i], by simp [hi], fun e he' hbd => ?_⟩
              have hlt := edgesB_ok he (i := i) (List.getElem?_eq_getElem hi) e he' hbd
              exact ih e.on (by omega) (by omega)
            rw [hr] at this; cases this
      have hgl : gs.length = effs.length := by
        refine Nat.le_antisymm (Nat.le_of_not_lt fun hlt => ?_) (Nat.le_of_not_lt fun hlt => ?_)
        · obtain ⟨q, hq, _⟩ := hh.he effs.length hlt
          rw [List.getElem?_eq_none (Nat.le_refl _)] at hq; cases hq
        · have hq : effs[effs.length - 1]? = some effs[effs.length - 1] := List.getElem?_eq_getElem (by omega)
          have hin := heff _ (List.getElem_mem (l := effs) (n := effs.length - 1) (by omega))
          obtain ⟨x, hx, hat⟩ := h.get (List.getElem?_eq_getElem hin)
          have hle := (hh.hd _ x (all _ hin) hx).1
          rw [Nat.zero_add] at hat
          rcases hat.ok with ⟨G, _, _, ⟨hno, _⟩ | ⟨lv, h1, h2, _⟩⟩ | ⟨hno, _⟩
          · have := List.all_eq_true.1 hno _ (List.getElem_mem (l := effs) (n := effs.length - 1) (by omega)); simp at this
          · have hlv : lv = effs.length - 1 := by
              have hlv' := (List.getElem?_eq_some_iff.1 h2)
              exact (List.getElem_inj hnd).1 (by rw [hlv'.2])
            omega
          · have := List.all_eq_true.1 hno _ (List.getElem_mem (l := effs) (n := effs.length - 1) (by omega)); simp at this
      refine k gs hgl I a w (hh.st.sub fun s e hs => ?_)
      unfold final at hs
      have look_app : ∀ (X Y : List Ent), look (X ++ Y) s = (look X s).or (look Y s) := by
        intro X Y
        induction X with
        | nil => simp [look]
        | cons x X ih => simp only [List.cons_append, look, ih]; cases Nat.beq x.s s <;> simp
      rw [look_app] at hs
      cases hX : look (D.filterMap fun x => x.2 gs) s with
      | some e' =>
        rw [hX] at hs; simp at hs; subst hs
        have mem : ∀ (X : List Ent), look X s = some e' → e' ∈ X ∧ e'.s = s := by
          intro X
          induction X with
          | nil => intro h; simp [look] at h
          | cons x X ih =>
            intro h
            simp only [look] at h
            by_cases hx : x.s = s
            · subst hx; simp at h; subst h; simp
            · rw [beq_ne hx] at h
              have := ih h
              exact ⟨List.mem_cons_of_mem _ this.1, this.2⟩
        obtain ⟨hmem, hs'⟩ := mem _ hX
        obtain ⟨oe, hoe, hoe'⟩ := List.mem_filterMap.1 hmem
        obtain ⟨j, hj⟩ := List.mem_iff_getElem?.1 hoe
        have hjl : j < l.length := by have := (List.getElem?_eq_some_iff.1 hj).1; rw [h.len] at this; exact this
        have := (hh.hd j oe (all j hjl) hj).2 _ hoe'
        rw [hs'] at this; exact this
      | none =>
        rw [hX, Option.none_or] at hs
        have hfil : ∀ (X : List Ent), look (X.filter fun e => !(dstsOf l).contains e.s) s = some e → look X s = some e ∧ (dstsOf l).contains s = false := by
          intro X
          induction X with
          | nil => intro h; simp [look] at h
          | cons x X ih =>
            intro h
            by_cases hc : (dstsOf l).contains x.s = true
            · rw [List.filter_cons_of_neg (by simpa using hc)] at h
              have := ih h
              refine ⟨?_, this.2⟩
              simp only [look]
              rw [beq_ne (by rintro rfl; rw [hc] at this; simp at this)]; exact this.1
            · have hc' : (dstsOf l).contains x.s = false := by simpa using hc
              rw [List.filter_cons_of_pos (by simpa using hc')] at h
              simp only [look] at h ⊢
              by_cases hx : x.s = s
              · subst hx; simp at h ⊢; exact ⟨h, by simpa using hc'⟩
              · rw [beq_ne hx] at h ⊢; exact ih h
        obtain ⟨h1, h2⟩ := hfil _ hs
        exact hh.hb s e h1 h2
    induction fuel with
    | zero => intro listed gs Γ I a w hsz hh hz _; exact ⟨hz rfl, done listed gs Γ I a w hsz hh (hz rfl)⟩
    | succ fuel ih =>
      intro listed gs Γ I a w hsz hh _ hcount
      refine ⟨done listed gs Γ I a w hsz hh, fun i hi => ?_⟩
      obtain ⟨hu, o, ho, hdep⟩ := mem_ready.1 hi
      have hol : l[i]? = some o := by simpa using ho
      have hil : i < l.length := (List.getElem?_eq_some_iff.1 hol).1
      have hset : (listed.setIfInBounds i true).getD i false = true := by simp [hsz, hil]
      have hcnt : ∀ n, ((listed.setIfInBounds i true).toList.filter (! ·)).length = n → n ≤ fuel := by
        intro n hn'
        have h0 := hcount _ rfl
        have hi' : i < listed.toList.length := by simpa [hsz] using hil
        have hf : listed.toList[i]? = some false := by
          have : i < listed.size := by omega
          simp only [Array.getElem?_toList]
          have h' := hu
          rw [Array.getD_eq_getD_getElem?, Array.getElem?_eq_getElem this] at h'
          rw [Array.getElem?_eq_getElem this]; simpa using h'
        have hlen : ∀ (L : List Bool) (i : Nat), L[i]? = some false → ((L.set i true).filter (! ·)).length + 1 = (L.filter (! ·)).length := by
          intro L
          induction L with
          | nil => intro i h; simp at h
          | cons x L ih2 =>
            intro i h
            cases i with
            | zero => simp at h; subst h; simp
            | succ i => have := ih2 i (by simpa using h); cases x <;> simp_all <;> omega
        have := hlen _ _ hf
        simp only [Array.toList_setIfInBounds] at hn'
        omega
      have hother : ∀ j, j ≠ i → (listed.setIfInBounds i true).getD j false = true → listed.getD j false = true := fun j hj hb => by rwa [getD_set_ne false (Ne.symm hj)] at hb
      have ready0 : fuel = 0 → ∀ (x : Array Bool), x.size = l.length → ((x.toList.filter (! ·)).length = 0) → Region.ready .any l.toArray x = [] := by
        intro _ x hx hz
        refine List.eq_nil_iff_forall_not_mem.2 fun j hj => ?_
        obtain ⟨h1, o', ho', _⟩ := mem_ready.1 hj
        have hjl : j < x.size := by have := (Array.getElem?_eq_some_iff.1 ho').1; simp at this; omega
        have : x[j] ∈ x.toList := by simp
        have h2 := List.filter_eq_nil_iff.1 (List.length_eq_zero_iff.1 hz) _ this
        rw [Array.getD_eq_getD_getElem?, Array.getElem?_eq_getElem hjl] at h1
        simp at h1 h2; rw [h1] at h2; cases h2
      unfold wpOp
      rw [ho]
      simp only
      have hmono : ∀ j, listed.getD j false = true → (listed.setIfInBounds i true).getD j false = true := fun j hj => by
        by_cases hji : i = j
        · subst hji; exact hset
        · rw [getD_set_ne false hji]; exact hj
      have hul : listed.getD i false = false := by
        have : i < listed.size := by omega
        rw [Array.getD_eq_getD_getElem?, Array.getElem?_eq_getElem this] at hu ⊢; simpa using hu
      obtain ⟨x, hD, hat⟩ := h.get hol
      rw [Nat.zero_add] at hat
      have hsl : ∀ {j : Nat} {y : DE} {e' : Ent} {gs' : Gh}, j ≠ i → D[j]? = some y → y.2 gs' = some e' → o.dst ≠ some e'.s := fun {j y e' gs'} hji hDj he' hse => by
        have hjl : j < l.length := by have := (List.getElem?_eq_some_iff.1 hDj).1; rw [h.len] at this; exact this
        exact hji (dst_inj hn (List.getElem?_eq_getElem hjl) hol (h.dst (List.getElem?_eq_getElem hjl) hDj he') hse)
      -- what holds behind it
      have next : ∀ (gs' : Gh) (Γ' : List Ent) (I' : ISet) (a' : Act) (w' : World), St B Γ' (Δf gs') I' a' w' → (∀ e, x.2 gs' = some e → look Γ' e.s = some e) → (∀ s, o.dst ≠ some s → look Γ' s = look Γ s) → x.1 ≤ gs'.length →
          ((gs' = gs) ∨ (∃ v, gs' = gs ++ [v] ∧ effs[gs.length]? = some i)) → wpAny P .any l.toArray Q fuel (listed.setIfInBounds i true) a' w' := by
        intro gs' Γ' I' a' w' st' h1 h2 h3 h4
        refine ih (listed.setIfInBounds i true) gs' Γ' I' a' w' (by simpa using hsz) ⟨st', fun s e' hs hc => ?_, fun j y hl hDj => ?_, fun m hm => ?_⟩ (fun hz => ready0 hz _ (by simpa using hsz) (by have := hcnt _ rfl; omega)) hcnt
        · rw [h2 s]
          · exact hh.hb s e' hs hc
          · intro hds
            have : s ∈ dstsOf l := List.mem_filterMap.2 ⟨o, List.mem_of_getElem? hol, hds⟩
            simp at hc; exact hc this
        · by_cases hji : j = i
          · subst hji
            rw [hD] at hDj; cases hDj
            exact ⟨h3, h1⟩
          · obtain ⟨h5, h6⟩ := hh.hd j y (hother j hji hl) hDj
            have hyl : Lc y.1 y.2 := by
              have hjl : j < l.length := by have := (List.getElem?_eq_some_iff.1 hDj).1; rw [h.len] at this; exact this
              obtain ⟨y', hy', haty⟩ := h.get (List.getElem?_eq_getElem hjl)
              rw [hDj] at hy'; cases hy'; exact haty.lc
            rcases h4 with rfl | ⟨v, rfl, _⟩
            · exact ⟨h5, fun e he => by rw [h2 _ (hsl hji hDj he)]; exact h6 e he⟩
            · refine ⟨by simp; omega, fun e he => ?_⟩
              rw [hyl gs v h5] at he
              rw [h2 _ (hsl hji hDj he)]; exact h6 e he
        · rcases h4 with rfl | ⟨v, rfl, hv⟩
          · obtain ⟨q, hq, hq2⟩ := hh.he m hm; exact ⟨q, hq, hmono q hq2⟩
          · rcases Nat.lt_or_ge m gs.length with hm' | hm'
            · obtain ⟨q, hq, hq2⟩ := hh.he m hm'; exact ⟨q, hq, hmono q hq2⟩
            · have : m = gs.length := by simp at hm; omega
              subst this; exact ⟨i, hv, hset⟩
      have hext : ∀ (oe : Option Ent) (s : Nat), oe.map (·.s) = o.dst → o.dst ≠ some s → look (ext oe Γ) s = look Γ s := fun oe s h1 h2 => by
        cases oe with
        | none => rfl
        | some e =>
          have : ¬ e.s = s := by rintro rfl; exact h2 h1.symm
          simp only [ext, look, beq_ne this, cond_false]
      have hself : ∀ (oe : Option Ent) (e : Ent), oe = some e → look (ext oe Γ) e.s = some e := fun oe e h1 => by subst h1; simp [ext, look]
      rcases hat.ok with ⟨G, hgd, hG, hloc⟩ | ⟨hno, d, j, b, rfl, hd, hdN, hgd, e, hj, hs, hx⟩
      · have hw : Region.wanted o (yielded l.toArray a.tmps) = true := by
          generalize ho2 : o.guard = gd at hgd
          cases hgd with
          | n => simp [Region.wanted, ho2]
          | @s j b s x hj hs hx =>
            have hlk := (hs gs).sub hh hdep s ⟨s, vBool, x⟩ (by simp [look])
            obtain ⟨v, hv, hp⟩ := hh.st.env _ _ hlk
            have := vBool_iff.1 hp
            subst this
            have hy : yielded l.toArray a.tmps j = some x := by simp only [yielded, hj, Option.bind_some, hv]
            simp [Region.wanted, ho2, hy, hx]
        rw [if_pos hw]
        refine .inl ?_
        rcases hloc with ⟨hne, hlv, hloc⟩ | ⟨lv, hxl, heq, hlv, hloc⟩
        · refine Oper.wp_imp (wp_noguard (hloc gs Γ I a w ((hG gs).sub hh hdep) hh.st)) (fun a' w' ⟨J, hj⟩ => ?_) (fun _ _ _ h => h.elim)
          exact next gs _ J a' w' hj (fun e he => hself _ e he) (fun s hs => hext _ s (hat.dst gs) hs) (lvB_ok hlv hh hdep) (.inl rfl)
        · have hle := lvB_ok hlv hh hdep
          have hgl : gs.length = lv := by
            refine Nat.le_antisymm (Nat.le_of_not_lt fun hlt => ?_) hle
            obtain ⟨q, hq, hq2⟩ := hh.he lv hlt
            rw [heq] at hq; cases hq
            rw [hul] at hq2; cases hq2
          refine Oper.wp_imp (wp_noguard (hloc gs hgl Γ I a w ((hG gs).sub hh hdep) hh.st)) (fun a' w' ⟨v, J, hj⟩ => ?_) (fun _ _ _ h => h.elim)
          exact next (gs ++ [v]) _ J a' w' hj (fun e he => hself _ e he) (fun s hs => hext _ s (hat.dst _) hs) (by simp; omega) (.inr ⟨v, rfl, by rw [hgl]; exact heq⟩)
      · have hw : ¬ Region.wanted o (yielded l.toArray a.tmps) = true := by
          have hlk := (hs gs).sub hh hdep (e gs).s (e gs) (by simp [look])
          obtain ⟨v, hv, hp⟩ := hh.st.env _ _ hlk
          have hy := noy_yield (hj gs) hv (hx gs I w v hp)
          simp [Region.wanted, hgd, hy]
        rw [if_neg hw, hd]
        have hst : St B (⟨d, vUnd, ()⟩ :: without d Γ) (Δf gs) I (a.put (some d) undef) w := by
          refine ⟨by simp [Act.put, hh.st.size], hh.st.defs, fun s' e' he' => ?_, hh.st.ws⟩
          simp only [look] at he'
          by_cases hds : d = s'
          · subst hds
            simp at he'; subst he'
            exact ⟨undef, by simp [Act.put, hh.st.size, hdN], rfl⟩
          · rw [beq_ne hds] at he'
            exact hh.st.lose.env s' e' he'
        refine next gs _ I _ w hst (fun e he => by simp at he; subst he; simp [look]) (fun s hs => ?_) (Nat.zero_le _) (.inl rfl)
        have : ¬ d = s := by rintro rfl; exact hs hd
        simp only [look, beq_ne this, cond_false, look_without (Ne.symm this)]
  refine key _ _ [] base I a _ (by simp) ⟨st.drew _, fun s e h _ => h, fun j e hj => ?_, fun m hm => by simp at hm⟩ ?_ ?_
  · exfalso; by_cases hjl : j < l.length <;> simp [hjl] at hj
  · intro hz
    refine List.eq_nil_iff_forall_not_mem.2 fun j hj => ?_
    obtain ⟨_, o', ho', _⟩ := mem_ready.1 hj
    have hlt := (Array.getElem?_eq_some_iff.1 ho').1
    simp at hz hlt
    subst hz; simp at hlt
  · intro n hn'; subst hn'; exact Nat.le_trans (List.length_filter_le _ _) (by simp)

end
end Go.Pm
