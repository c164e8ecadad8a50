import Derived.Test.YtpaggjifaelcnaaGreatPmD
/-
  PM, part E: contracts of functions, calls, function values.
-/
set_option linter.unusedVariables false
set_option linter.unusedSimpArgs false
namespace Go.Pm
open Go Go.RowKit

structure Arg where
  {α : Type}
  V : Vd α
  x : α
def ArgsOK (I : ISet) (w : World) : List Value → List Arg → Prop
  | [], [] => True
  | v :: vs, a :: as => a.V.P I w v a.x ∧ ArgsOK I w vs as
  | _, _ => False
theorem ArgsOK.mono {I w J u} (g : Grow I w J u) : ∀ {vs as}, ArgsOK I w vs as → ArgsOK J u vs as
  | [], [], _ => trivial
  | v :: vs, a :: as, ⟨h, k⟩ => ⟨a.V.mono g h, ArgsOK.mono g k⟩
  | [], _ :: _, h => h.elim
  | _ :: _, [], h => h.elim
theorem ArgsOK.len {I w} : ∀ {vs as}, ArgsOK I w vs as → vs.length = as.length
  | [], [], _ => rfl
  | v :: vs, a :: as, ⟨h, k⟩ => by simp [ArgsOK.len k]
  | [], _ :: _, h => h.elim
  | _ :: _, [], h => h.elim
theorem ArgsOK.append {I w} : ∀ {vs as us bs}, ArgsOK I w vs as → ArgsOK I w us bs → ArgsOK I w (vs ++ us) (as ++ bs)
  | [], [], _, _, _, k => k
  | v :: vs, a :: as, _, _, ⟨h, h'⟩, k => ⟨h, ArgsOK.append h' k⟩
  | [], _ :: _, _, _, h, _ => h.elim
  | _ :: _, [], _, _, h, _ => h.elim

inductive Out where
  | ret {α : Type} (V : Vd α) (x : α)
  | pan {α : Type} (V : Vd α) (x : α)
def Out.ok (I : ISet) (w : World) (e : Ending) : Out → Prop
  | .ret V x => ∃ v, e = .returned v ∧ V.P I w v x
  | .pan V x => ∃ v, e = .panicked [{ v, recovered := false }] ∧ V.P I w v x

def Post {γ : Type} (out : γ → Out) (Δ' : γ → List Rs) (I : ISet) (w : World) (F : ISet) (e : Ending) (u : World) : Prop :=
  ∃ g J G, (out g).ok J u e ∧ Sep (Δ' g) J u G ∧ Fr I w F J u G

def fnB (P : Program) (f : FuncId) : Bool := match P.funcs[f]? with | some fn => fn.name != "runtime.NumGoroutine" && fn.body.isSome | none => false
theorem callFunc_run {P : Program} {f : FuncId} {w : World} (h : fnB P f = true) (args : Array Value) : (callFunc f args).run P w = .ok (.enter f args) w := by
  unfold fnB at h
  cases hf : P.funcs[f]? with
  | none => simp [hf] at h
  | some fn =>
    simp only [hf, Bool.and_eq_true, bne_iff_ne, Option.isSome_iff_exists] at h
    obtain ⟨h1, c, h2⟩ := h
    simp [callFunc, hf, h1, h2]

/-- The contract of a call. -/
structure FC (P : Program) (f : FuncId) (as : List Arg) (Δ : List Rs) {γ : Type} (out : γ → Out) (Δ' : γ → List Rs) : Prop where
  ok : fnB P f = true
  calls : ∀ I w vs F, ArgsOK I w vs as → Sep Δ I w F → (∀ b, I b → b < w.heap.size) → (∀ b, F b → ¬ I b ∧ b < w.heap.size) → Calls P f vs.toArray w (Post out Δ' I w F)
/-- .. of one that only reads, and makes memory. -/
abbrev FP (P : Program) (f : FuncId) (as : List Arg) {β : Type} (V : Vd β) (y : β) : Prop := FC P f as [] (fun _ : Unit => .ret V y) (fun _ => [])

def argsG : Nat → List Arg → List Ent
  | _, [] => []
  | n, a :: as => ⟨n, a.V, a.x⟩ :: argsG (n + 1) as
theorem argsG_look {I w} : ∀ {vs as} {n s : Nat} {e : Ent}, ArgsOK I w vs as → look (argsG n as) s = some e → n ≤ s ∧ ∃ v, vs[s - n]? = some v ∧ e.V.P I w v e.x
  | [], [], n, s, e, _, h => by simp [argsG, look] at h
  | v :: vs, a :: as, n, s, e, ⟨h, k⟩, he => by
    simp only [argsG, look] at he
    by_cases hs : n = s
    · subst hs; simp at he; subst he; exact ⟨Nat.le_refl _, v, by simp, h⟩
    · rw [beq_ne hs] at he
      obtain ⟨h1, u, hu, hp⟩ := argsG_look k he
      refine ⟨by omega, u, ?_, hp⟩
      obtain ⟨m, hm⟩ : ∃ m, s - n = m + 1 := ⟨s - n - 1, by omega⟩
      rw [hm, List.getElem?_cons_succ]; rwa [show s - (n + 1) = m by omega] at hu
  | [], _ :: _, _, _, _, h, _ => h.elim
  | _ :: _, [], _, _, _, h, _ => h.elim

section rules
variable {P : Program}
theorem fc_of {f : FuncId} {as : List Arg} {Δ : List Rs} {γ : Type} {out : γ → Out} {Δ' : γ → List Rs} {fn : Func} {c : Code} (N : Nat) (hf : P.funcs[f]? = some fn) (hb : fn.body = some c) (ok : fnB P f = true) (hn : fn.ntmps = N) (hl : as.length ≤ N)
    (h : ∀ I w F, Tr P ⟨N, I, w, F⟩ (argsG 0 as) Δ c (bodyPost P fn (Post out Δ' I w F))) : FC P f as Δ out Δ' where
  ok := ok
  calls I w vs F hA hS hI hF := by
    refine calls_of_wp hf hb (h I w F I _ w ⟨?_, rfl, fun s e he => ?_, F, hS, Fr.refl hI hF⟩)
    · have := hA.len; simp; omega
    · obtain ⟨_, v, hv, hp⟩ := argsG_look hA he
      refine ⟨v, ?_, hp⟩
      have hlt := (List.getElem?_eq_some_iff.1 hv).1
      simp only [Nat.sub_zero] at hv hlt
      rw [Array.getElem?_append_left (by simpa using hlt)]
      simpa using hv

variable {B : Base} {Γ Γ' : List Ent} {Δ Δ' : List Rs} {Q : Exit → Act → World → Prop}
variable {d : Nat} {t : TypeId} {p : String} {af : Array Edge}

/-! the end of a function -/
theorem k_ret {fn : Func} {γ : Type} {out : γ → Out} {D : γ → List Rs} {α : Type} {V : Vd α} {x : α} {s : Nat} {e : Exit} (g : γ) (hr : fn.results = #[.tmp s]) (hs : look Γ s = some ⟨s, V, x⟩) (ho : out g = .ret V x) (hD : D g = Δ) (he : (e matches .ret | .normal) = true) :
    Kx B Γ Δ (bodyPost P fn (Post out D B.I B.w B.F)) e := by
  intro I a w st
  obtain ⟨v, hv, hp⟩ := st.env s _ hs
  obtain ⟨F, hS, hF⟩ := st.ws
  have hR : Post out D B.I B.w B.F (.returned v) w := ⟨g, I, F, by rw [ho]; exact ⟨v, rfl, hp⟩, by rw [hD]; exact hS, hF⟩
  have hv' : a.tmps.getD s undef = v := by simp [Array.getD_eq_getD_getElem?, hv]
  have := results_tmp hr a.tmps P w
  rw [hv'] at this
  cases e <;> first | exact ⟨st.defs, v, this, hR⟩ | simp at he
theorem k_ret0 {fn : Func} {γ : Type} {out : γ → Out} {D : γ → List Rs} {e : Exit} (g : γ) (hr : fn.results = #[]) (ho : out g = .ret (vTup vlNil) ()) (hD : D g = Δ) (he : (e matches .ret | .normal) = true) :
    Kx B Γ Δ (bodyPost P fn (Post out D B.I B.w B.F)) e := by
  intro I a w st
  obtain ⟨F, hS, hF⟩ := st.ws
  have hR : Post out D B.I B.w B.F (.returned (.tuple #[])) w := ⟨g, I, F, by rw [ho]; exact ⟨_, rfl, [], rfl, rfl⟩, by rw [hD]; exact hS, hF⟩
  cases e <;> first | exact ⟨st.defs, _, results_none hr a.tmps P w, hR⟩ | simp at he

inductive Rets (Γ : List Ent) : List ResultVar → {α : Type} → VL α → α → Prop
  | nil : Rets Γ [] vlNil ()
  | cons {s l} {α β : Type} {V : Vd α} {x : α} {L : VL β} {y : β} (h : look Γ s = some ⟨s, V, x⟩) (k : Rets Γ l L y) : Rets Γ (.tmp s :: l) (vlCons V L) (x, y)
def resV (tmps : Array Value) : ResultVar → Sem Value
  | .tmp t => pure (tmps.getD t undef)
  | .cell a t => do loadVar t (← asAddr (tmps.getD a undef))
theorem results_eq (fn : Func) (tmps : Array Value) : results fn tmps = (do let vs ← fn.results.mapM (resV tmps); pure (if h : vs.size = 1 then vs[0] else .tuple vs)) := by
  unfold results
  congr 1
theorem Rets.ok {I a w} (st : St B Γ Δ I a w) {l : List ResultVar} {α : Type} {L : VL α} {x : α} (h : Rets Γ l L x) :
    ∃ vs : List Value, (l.mapM (resV a.tmps)).run P w = .ok vs w ∧ L.P I w vs x := by
  induction h with
  | nil => exact ⟨[], by simp, rfl⟩
  | @cons s l α β V x L y hs k ih =>
    obtain ⟨vs, h1, h2⟩ := ih
    obtain ⟨v, hv, hp⟩ := st.env s _ hs
    refine ⟨v :: vs, ?_, v, vs, rfl, hp, h2⟩
    have hv' : a.tmps.getD s undef = v := by simp [Array.getD_eq_getD_getElem?, hv]
    simp only [List.mapM_cons, resV, Sem.run_bind, Sem.run_pure, Result.andThen_ok, hv', h1]

theorem Rets.len {l : List ResultVar} {α : Type} {L : VL α} {x : α} (h : Rets Γ l L x) : L.n = l.length := by
  induction h with
  | nil => rfl
  | cons h k ih => simp [vlCons, ih]
theorem k_rets {fn : Func} {γ : Type} {out : γ → Out} {D : γ → List Rs} {α : Type} {L : VL α} {x : α} {e : Exit} {l : List ResultVar} (g : γ) (hr : fn.results = l.toArray) (hl : Nat.ble 2 l.length = true) (hs : Rets Γ l L x) (ho : out g = .ret (vTup L) x) (hD : D g = Δ) (he : (e matches .ret | .normal) = true) :
    Kx B Γ Δ (bodyPost P fn (Post out D B.I B.w B.F)) e := by
  intro I a w st
  obtain ⟨F, hS, hF⟩ := st.ws
  obtain ⟨vs, hv, hp⟩ := hs.ok (P := P) st
  have hR : Post out D B.I B.w B.F (.returned (.tuple vs.toArray)) w := ⟨g, I, F, by rw [ho]; exact ⟨_, rfl, vs, rfl, hp⟩, by rw [hD]; exact hS, hF⟩
  have hlen : vs.length = l.length := by rw [L.len hp, hs.len]
  have h2 := Nat.le_of_ble_eq_true hl
  have hsz : ¬ vs.toArray.size = 1 := by simp; omega
  have hres : (results fn a.tmps).run P w = .ok (.tuple vs.toArray) w := by
    simp only [results_eq, hr, Array.mapM_eq_mapM_toList, Sem.run_bind, Sem.run_map, hv, Result.andThen_ok]
    have hsz' : ¬ vs.length = 1 := by omega
    simp [hsz']
  cases e <;> first | exact ⟨st.defs, _, hres, hR⟩ | simp at he

theorem bt (b : Bool) : b = false ∨ b = true := by cases b <;> simp
theorem lt {a b : Nat} (h : Nat.blt a b = true) : a < b := by simpa [Nat.blt_eq] using h

/-! a panic on its way -/
def Kp (B : Base) (Γ : List Ent) (Δ : List Rs) (Q : Exit → Act → World → Prop) {α : Type} (V : Vd α) (x : α) : Prop :=
  ∀ I a w v, St B Γ Δ I a w → V.P I w v x → Q (.panic [{ v, recovered := false }]) a w
theorem kp_t {n : Act → World → Prop} {α : Type} {V : Vd α} {x : α} (h : Kp B Γ Δ Q V x) : Kp B Γ Δ (Exit.then n Q) V x := h
theorem kp_b {id} {α : Type} {V : Vd α} {x : α} (h : Kp B Γ Δ Q V x) : Kp B Γ Δ (Exit.inBlock id Q) V x := h
theorem kp_ret {fn : Func} {γ : Type} {out : γ → Out} {D : γ → List Rs} {α : Type} {V : Vd α} {x : α} (g : γ) (ho : out g = .pan V x) (hD : D g = Δ) : Kp B Γ Δ (bodyPost P fn (Post out D B.I B.w B.F)) V x := by
  intro I a w v st hv
  obtain ⟨F, hS, hF⟩ := st.ws
  exact ⟨st.defs, g, I, F, by rw [ho]; exact ⟨v, rfl, hv⟩, by rw [hD]; exact hS, hF⟩

/-! calls -/
inductive Opds (Γ : List Ent) : List Operand → List Arg → Prop
  | nil : Opds Γ [] []
  | cons {o os} {α : Type} {V : Vd α} {x : α} {as} (h : Opd Γ o V x) (k : Opds Γ os as) : Opds Γ (o :: os) (⟨V, x⟩ :: as)
theorem Opds.ok {os as} (h : Opds Γ os as) {B Γ' Δ I a w} (hs : Sub Γ Γ') (st : St B Γ' Δ I a w) : ArgsOK I w (os.map a.eval) as := by
  induction h with
  | nil => trivial
  | cons h k ih => exact ⟨h.ok hs st, ih⟩

/-- The state behind a call, whatever it came to. -/
theorem St.called {I a w} {Δa Δ0 : List Rs} {γ : Type} {out : γ → Out} {D : γ → List Rs} (st : St B Γ (Δa ++ Δ0) I a w) :
    ∃ F1, Sep Δa I w F1 ∧ (∀ b, I b → b < w.heap.size) ∧ (∀ b, F1 b → ¬ I b ∧ b < w.heap.size) ∧
      ∀ e u, Post out D I w F1 e u → ∃ g J, (out g).ok J u e ∧ Grow I w J u ∧ ∃ F, Sep (D g ++ Δ0) J u F ∧ Fr B.I B.w B.F J u F := by
  obtain ⟨F, hS, hF⟩ := st.ws
  obtain ⟨F1, F2, he, hd, h1, h2⟩ := Sep.append.1 hS
  refine ⟨F1, h1, hF.lt, fun b hb => hF.gl b ((he b).2 (.inl hb)), ?_⟩
  rintro e u ⟨g, J, G, ho, hs, hf⟩
  obtain ⟨f1, f2, f3⟩ := hf.frame he hd (fun b hb => hF.gl b hb)
  have gr := f1.grow hF.lt (fun b hb => (hF.gl b hb).1)
  exact ⟨g, J, ho, gr, _, Sep.append.2 ⟨G, F2, fun _ => Iff.rfl, f2, hs, h2.mono gr f3⟩, hF.trans f1⟩

theorem call_run {a : Act} {w : World} {f : FuncId} {os : List Operand} {ats : Array TypeId} {dst : Option Nat} (ok : fnB P f = true) :
    (execOp a.eval ⟨dst, .call { callee := .value (.func f), args := os.toArray, argTypes := ats }, t, p, af, none⟩).run P w = .ok (.enter f (os.map a.eval).toArray) w := by
  have : execOp a.eval ⟨dst, .call { callee := .value (.func f), args := os.toArray, argTypes := ats }, t, p, af, none⟩ = callFunc f (#[] ++ os.toArray.map a.eval ++ #[]) := rfl
  rw [this, callFunc_run ok]; simp

theorem call_wp {I a w} {f : FuncId} {os : List Operand} {ats : Array TypeId} {dst : Option Nat} {as : List Arg} {Δa Δ0 : List Rs} {γ : Type} {out : γ → Out} {D : γ → List Rs} {K : Act → World → Prop} {Γ1}
    (h : FC P f as Δa out D) (ho : Opds Γ os as) (hs : Sub Γ Γ1) (s : St B Γ1 (Δa ++ Δ0) I a w)
    (hK : ∀ g J u (_ : Grow I w J u) (_ : ∃ F, Sep (D g ++ Δ0) J u F ∧ Fr B.I B.w B.F J u F), match out g with
      | .ret V x => ∀ v, V.P J u v x → K (a.put dst v) u
      | .pan V x => ∀ v, V.P J u v x → Q (.panic [{ v, recovered := false }]) a u) :
    (⟨dst, .call { callee := .value (.func f), args := os.toArray, argTypes := ats }, t, p, af, none⟩ : Oper).wp P a w K Q := by
  obtain ⟨F1, h1, h2, h3, h4⟩ := s.called (out := out) (D := D)
  unfold Oper.wp
  rw [call_run h.ok, Oper.upon_enter]
  refine (h.calls I w _ F1 (ho.ok hs s) h1 h2 h3).mono fun e u hp => ?_
  obtain ⟨g, J, hok, hg, hw⟩ := h4 e u hp
  have := hK g J u hg hw
  cases hout : out g with
  | ret V x =>
    rw [hout] at this hok
    obtain ⟨v, rfl, hv⟩ := hok
    exact this v hv
  | pan V x =>
    rw [hout] at this hok
    obtain ⟨v, rfl, hv⟩ := hok
    exact this v hv

/-- A call that comes back. -/
theorem r_call {ops l} {f : FuncId} {os : List Operand} {ats : Array TypeId} {as : List Arg} {Δa Δ0 : List Rs} {γ : Type} {out : γ → Out} {D : γ → List Rs} {β : γ → Type} {V : ∀ g, Vd (β g)} {x : ∀ g, β g}
    (h : FC P f as Δa out D) (ho : Opds Γ os as) (hr : ∀ g, out g = .ret (V g) (x g)) (hd : d < B.N) (k : ∀ g, RL P B ops (⟨d, V g, x g⟩ :: Γ) (D g ++ Δ0) l Q) :
    RL P B ops Γ (Δa ++ Δ0) (⟨some d, .call { callee := .value (.func f), args := os.toArray, argTypes := ats }, t, p, af, none⟩ :: l) Q := by
  intro I a w s
  refine wpList_plain rfl fun K hK => call_wp h ho (Sub.refl _) s fun g J u hg hw => ?_
  rw [hr g]
  exact fun v hv => hK _ _ (k g _ _ _ (s.put hg hw hd hv))
/-- .. of no result. -/
theorem r_call0 {ops l} {f : FuncId} {os : List Operand} {ats : Array TypeId} {as : List Arg} {Δa Δ0 : List Rs} {γ : Type} {out : γ → Out} {D : γ → List Rs} {β : γ → Type} {V : ∀ g, Vd (β g)} {x : ∀ g, β g}
    (h : FC P f as Δa out D) (ho : Opds Γ os as) (hr : ∀ g, out g = .ret (V g) (x g)) (k : ∀ g, RL P B ops Γ (D g ++ Δ0) l Q) :
    RL P B ops Γ (Δa ++ Δ0) (⟨none, .call { callee := .value (.func f), args := os.toArray, argTypes := ats }, t, p, af, none⟩ :: l) Q := by
  intro I a w s
  refine wpList_plain rfl fun K hK => call_wp h ho (Sub.refl _) s fun g J u hg hw => ?_
  rw [hr g]
  exact fun v hv => hK _ _ (k g _ _ _ (s.step hg hw))
/-- A call that panics. -/
theorem r_callp {ops l} {f : FuncId} {os : List Operand} {ats : Array TypeId} {as : List Arg} {Δa Δ0 : List Rs} {γ : Type} {out : γ → Out} {D : γ → List Rs} {β : γ → Type} {V : ∀ g, Vd (β g)} {x : ∀ g, β g} {dst : Option Nat}
    (h : FC P f as Δa out D) (ho : Opds Γ os as) (hr : ∀ g, out g = .pan (V g) (x g)) (k : ∀ g, Kp B Γ (D g ++ Δ0) Q (V g) (x g)) :
    RL P B ops Γ (Δa ++ Δ0) (⟨dst, .call { callee := .value (.func f), args := os.toArray, argTypes := ats }, t, p, af, none⟩ :: l) Q := by
  intro I a w s
  unfold wpList
  rw [if_pos (by simp [Region.wanted])]
  refine .inl (call_wp h ho (Sub.refl _) s fun g J u hg hw => ?_)
  rw [hr g]
  exact fun v hv => k g _ _ _ _ (s.step hg hw) hv
/-- A call that only reads and makes memory: wherever it stands in its region. -/
theorem l_call {f : FuncId} {os : List Operand} {ats : Array TypeId} {as : List Arg} {β : Type} {V : Vd β} {y : β} (h : FP P f as V y) (ho : Opds Γ os as) (hd : d < B.N) :
    Loc P B Γ Δ ⟨some d, .call { callee := .value (.func f), args := os.toArray, argTypes := ats }, t, p, af, none⟩ ⟨d, V, y⟩ Δ := by
  intro Γ' I a w hs s
  exact call_wp (Δa := []) h ho hs s fun g J u hg hw v hv => ⟨J, s.put hg hw hd hv⟩

/-! function values -/
/-- The function f with these bound ahead and behind. -/
def vKn (f : FuncId) (fs cs : List Arg) : Vd Unit :=
  ⟨fun I w v _ => ∃ us vs : List Value, v = .func (.func f) us.toArray vs.toArray ∧ ArgsOK I w us fs ∧ ArgsOK I w vs cs, fun g h => let ⟨us, vs, e, h, k⟩ := h; ⟨us, vs, e, h.mono g, k.mono g⟩⟩
theorem o_fk {f : FuncId} : Opd Γ (.func f) (vKn f [] []) () := ⟨fun _ _ => ⟨[], [], rfl, trivial, trivial⟩⟩
theorem l_mkf {f : FuncId} {fo co : List Operand} {fs cs : List Arg} (h : Opds Γ fo fs) (k : Opds Γ co cs) (hd : d < B.N) :
    Loc P B Γ Δ ⟨some d, .makeFunc (.func f) fo.toArray co.toArray, t, p, af, none⟩ ⟨d, vKn f fs cs, ()⟩ Δ :=
  loc_val hd fun Γ' I a w hs s => ⟨_, by simp [execOp, Instr.makeFunc], fo.map a.eval, co.map a.eval, rfl, h.ok hs s, k.ok hs s⟩

/-- A function value that only reads and makes memory, by what it answers. -/
def CloR (P : Program) {α β : Type} (as : α → List Arg) (V : Vd β) (I : ISet) (w : World) (v : Value) (F : α → Option β) : Prop :=
  (v = .nilFunc ∧ ∀ x, F x = none) ∨ ∃ f, ∃ us vs : List Value, v = .func (.func f) us.toArray vs.toArray ∧ fnB P f = true ∧
    ∀ x y, F x = some y → ∀ J u xs, Grow I w J u → (∀ b, J b → b < u.heap.size) → ArgsOK J u xs (as x) →
      Calls P f (us ++ (xs ++ vs)).toArray u (Post (fun _ : Unit => .ret V y) (fun _ => []) J u fun _ => False)
theorem CloR.shape {P : Program} {α β : Type} {as : α → List Arg} {V : Vd β} {I w v} {F : α → Option β} (h : CloR P as V I w v F) : v.oneCell' = true := by
  rcases h with ⟨rfl, _⟩ | ⟨_, _, _, rfl, _⟩ <;> rfl
def kClo (P : Program) {α β : Type} (as : α → List Arg) (V : Vd β) : Kd (α → Option β) where
  n := 1; agg := false
  R I w cs F := ∃ v, cs = [v] ∧ CloR P as V I w v F
  len := by rintro _ _ _ _ ⟨_, rfl, _⟩; rfl
  one := by rintro _ _ _ _ ⟨_, rfl, h⟩; simpa using h.shape
  mono g := fun ⟨v, e, h⟩ => ⟨v, e, h.imp _root_.id fun ⟨f, us, vs, h, k, l⟩ => ⟨f, us, vs, h, k, fun x y hy J u xs g' => l x y hy J u xs (g.trans g')⟩⟩
  h1 _ := rfl
theorem kz_clo {P : Program} {α β : Type} {as : α → List Arg} {V : Vd β} {I w} : (kClo P as V).R I w [.nilFunc] (fun _ => none) := ⟨_, rfl, .inl ⟨rfl, fun _ => rfl⟩⟩
def vClo (P : Program) {α β : Type} (as : α → List Arg) (V : Vd β) : Vd (α → Option β) := (kClo P as V).v
theorem vClo_iff {α β : Type} {as : α → List Arg} {V : Vd β} {I w v F} : (vClo P as V).P I w v F ↔ CloR P as V I w v F :=
  ⟨fun ⟨_, ⟨b, e, h⟩, he⟩ => by subst e; subst he; exact h, fun h => ⟨_, ⟨v, rfl, h⟩, rfl⟩⟩
/-- A function value of which nothing is told but that it is one. -/
theorem o_cloN {α β : Type} {as : α → List Arg} {V : Vd β} {f : FuncId} {fs cs : List Arg} {o : Operand} (h : Opd Γ o (vKn f fs cs) ()) (hb : fnB P f = true) : Opd Γ o (vClo P as V) (fun _ => none) where
  ok hs st := by
    obtain ⟨us, vs, e, h1, h2⟩ := h.ok hs st
    exact vClo_iff.2 (.inr ⟨f, us, vs, e, hb, fun x y hy => by cases hy⟩)
theorem o_clo {α β : Type} {as : α → List Arg} {V : Vd β} {F : α → Option β} {f : FuncId} {fs cs : List Arg} {o : Operand} (h : Opd Γ o (vKn f fs cs) ()) (hb : fnB P f = true) (hF : ∀ x y, F x = some y → FP P f (fs ++ (as x ++ cs)) V y) : Opd Γ o (vClo P as V) F where
  ok hs st := by
    obtain ⟨us, vs, e, h1, h2⟩ := h.ok hs st
    refine vClo_iff.2 (.inr ⟨f, us, vs, e, hb, fun x y hy J u xs g hJ hx => ?_⟩)
    exact (hF x y hy).calls J u _ _ ((h1.mono g).append (hx.append (h2.mono g))) (fun _ h => h) hJ (fun _ h => h.elim)

theorem callv_run {a : Act} {w : World} {f : FuncId} {o : Operand} {os : List Operand} {ats : Array TypeId} {dst : Option Nat} {us vs : List Value} (he : a.eval o = .func (.func f) us.toArray vs.toArray) (ok : fnB P f = true) :
    (execOp a.eval ⟨dst, .call { callee := .value o, args := os.toArray, argTypes := ats }, t, p, af, none⟩).run P w = .ok (.enter f (us ++ (os.map a.eval ++ vs)).toArray) w := by
  simp [execOp, resolve, he, Deferred.ofValue, invoke, callFunc_run ok]

theorem l_callc {α β : Type} {as : α → List Arg} {V : Vd β} {F : α → Option β} {o : Operand} {os : List Operand} {ats : Array TypeId} {x : α} {y : β} (h : Opd Γ o (vClo P as V) F) (ho : Opds Γ os (as x)) (hy : F x = some y) (hd : d < B.N) :
    Loc P B Γ Δ ⟨some d, .call { callee := .value o, args := os.toArray, argTypes := ats }, t, p, af, none⟩ ⟨d, V, y⟩ Δ := by
  intro Γ' I a w hs s
  obtain ⟨_, hn⟩ | ⟨f, us, vs, he, hb, hc⟩ := vClo_iff.1 (h.ok hs s)
  · rw [hn] at hy; cases hy
  obtain ⟨F1, h1, h2, h3, h4⟩ := St.called (Δa := []) (out := fun _ : Unit => .ret V y) (D := fun _ => []) s
  have h1' : F1 = fun _ => False := funext fun b => propext ⟨fun h => h1 b h, fun h => h.elim⟩
  subst h1'
  unfold Oper.wp
  rw [callv_run he hb, Oper.upon_enter]
  refine (hc x y hy I w _ (Grow.refl _ _) h2 (ho.ok hs s)).mono fun e u hp => ?_
  obtain ⟨g, J, ⟨v, rfl, hv⟩, hg, hw⟩ := h4 e u hp
  exact ⟨J, s.put hg hw hd hv⟩
end rules
end Go.Pm
namespace Go.Pm
open Go Go.RowKit
/-! what the printed texts lean on -/
inductive Ex (ρ σ : Type) where
  | rt (u : ρ)
  | go (u : σ)
def Ex.elim {ρ σ γ : Type} : Ex ρ σ → (ρ → γ) → (σ → γ) → γ
  | .rt u, f, _ => f u
  | .go u, _, g => g u
theorem bs {α β : Type} {o : Option α} {f : α → Option β} {r : β} (h : o.bind f = some r) : ∃ t, o = some t ∧ f t = some r := Option.bind_eq_some_iff.1 h
theorem nt {b : Bool} (h : b = false) : ¬ b = true := by rw [h]; decide
def iand (k : IntKind) (a b : Int) : Int := k.wrap (BitVec.ofInt k.bits a &&& BitVec.ofInt k.bits b).toNat
def ior (k : IntKind) (a b : Int) : Int := k.wrap (BitVec.ofInt k.bits a ||| BitVec.ofInt k.bits b).toNat
def ixor (k : IntKind) (a b : Int) : Int := k.wrap (BitVec.ofInt k.bits a ^^^ BitVec.ofInt k.bits b).toNat
def iandNot (k : IntKind) (a b : Int) : Int := k.wrap (BitVec.ofInt k.bits a &&& ~~~ BitVec.ofInt k.bits b).toNat
def ishl (k : IntKind) (a b : Int) : Int := k.wrap (a * 2 ^ min b.toNat k.bits)
def ishr (k : IntKind) (a b : Int) : Int := a.fdiv (2 ^ min b.toNat k.bits)
theorem kz_slice {α : Type} {K : Kd α} {I w} : (kSlice K).R I w [.slice none 0 0] [] := ⟨_, rfl, none, 0, rfl, by simp, by simp, fun h => absurd rfl h⟩

section
variable {P : Program} {B : Base} {Γ Γ' : List Ent} {Δ Δ' : List Rs} {Q : Exit → Act → World → Prop}
/-- A loop in its block: what holds behind it. -/
def Brk {σ : Type} (B : Base) (G : σ → List Ent) (D : σ → List Rs) (Done : σ → Prop) (Q : Exit → Act → World → Prop) : Exit → Act → World → Prop
  | .normal, a, w => ∃ s I, Done s ∧ St B (G s) (D s) I a w
  | e, a, w => Q e a w
theorem t_bloop {β σ : Type} {id : Nat} {c : Code} (G : β → List Ent) (D : β → List Rs) (Inv : β → Prop) (rk : β → Nat) (Gx : σ → List Ent) (Dx : σ → List Rs) (Done : σ → Prop)
    (hr : ∀ x, Inv x → Tr P B (G x) (D x) c (Exit.then (Again B G D Inv rk (rk x)) (Exit.inBlock id (Brk B Gx Dx Done Q))))
    (hx : ∀ s, Done s → Kx B (Gx s) (Dx s) Q .normal) (x : β) (h0 : Inv x) : Tr P B (G x) (D x) (.block id (.loop c)) Q := by
  intro I a w st
  refine Code.wp_mono (fun e a w q => ?_) (wp_block (Q := Brk B Gx Dx Done Q) (t_loop G D Inv rk hr x h0 I a w st))
  cases e <;> first | exact q | skip
  obtain ⟨s, J, hs, st⟩ := q
  exact hx s hs J a w st
theorem k_brk {σ : Type} {G : σ → List Ent} {D : σ → List Rs} {Done : σ → Prop} (s : σ) (hs : Done s) (hsub : Sub (G s) Γ) (hD : D s = Δ) : Kx B Γ Δ (Brk B G D Done Q) .normal :=
  fun I a w st => ⟨s, I, hs, by rw [hD]; exact st.sub hsub⟩
theorem k_brk_r {σ : Type} {G : σ → List Ent} {D : σ → List Rs} {Done : σ → Prop} (h : Kx B Γ Δ Q .ret) : Kx B Γ Δ (Brk B G D Done Q) .ret := h
theorem k_brk_x {σ : Type} {G : σ → List Ent} {D : σ → List Rs} {Done : σ → Prop} {id : Nat} (h : Kx B Γ Δ Q (.exit id)) : Kx B Γ Δ (Brk B G D Done Q) (.exit id) := h
theorem kp_brk {σ : Type} {G : σ → List Ent} {D : σ → List Rs} {Done : σ → Prop} {α : Type} {V : Vd α} {x : α} (h : Kp B Γ Δ Q V x) : Kp B Γ Δ (Brk B G D Done Q) V x := h
/-- Ways that meet again. -/
theorem t_join {σ : Type} {c : Code} (G : σ → List Ent) (D : σ → List Rs) (Done : σ → Prop) (h : Tr P B Γ Δ c (Brk B G D Done Q)) (hx : ∀ s, Done s → Kx B (G s) (D s) Q .normal) : Tr P B Γ Δ c Q := by
  intro I a w st
  refine Code.wp_mono (fun e a w q => ?_) (h I a w st)
  cases e <;> first | exact q | skip
  obtain ⟨s, J, hs, st⟩ := q
  exact hx s hs J a w st
end
end Go.Pm
