import Derived.Test.YtpaggjifaelcnaaGreatPmA
/-
  PM, part B: the judgements on code, regions and operations, and their rules.
-/
set_option linter.unusedVariables false
set_option linter.unusedSimpArgs false
namespace Go.Pm
open Go Go.RowKit

/-! facts on types -/
def tyAgg (P : Program) (t : TypeId) : Option Bool := (P.underlying t).map fun d => match d with | .struct _ | .array _ _ => true | _ => false
def tySize (P : Program) (t : TypeId) : Option Nat := (P.info? t).map (·.size)
structure TyOk (P : Program) (t : TypeId) {α : Type} (K : Kd α) : Prop where
  agg : tyAgg P t = some K.agg
  size : tySize P t = some K.n

section runs
variable {P : Program} {w : World}
theorem run_isAgg' {t b} (h : tyAgg P t = some b) : (isAgg t).run P w = .ok b w := by
  unfold tyAgg at h
  cases hu : P.underlying t with
  | none => simp [hu] at h
  | some d => rw [hu] at h; cases d <;> simp_all [isAgg, run_underlying hu]
theorem run_sizeOf' {t n} (h : tySize P t = some n) : (sizeOf t).run P w = .ok n w := by
  unfold tySize at h
  cases hi : P.info? t with
  | none => simp [hi] at h
  | some i => simp [sizeOf, typeInfo, hi] at h ⊢; exact h
theorem add_eq (b o n : Nat) : (⟨b, o, none⟩ : Addr).add n = ⟨b, o + n, none⟩ := by unfold Addr.add; split <;> simp_all
theorem run_loadVar' {t b o cs} {α : Type} {K : Kd α} {I : ISet} {x : α} (hT : TyOk P t K) (hr : K.R I w cs x) (hc : CellsAt w b o cs) :
    (loadVar t ⟨b, o, none⟩).run P w = .ok (pack K.agg cs) w := by
  simp only [loadVar, Sem.run_bind, run_isAgg' hT.agg, Result.andThen_ok]
  cases ha : K.agg with
  | true =>
    have hl := run_loadCells_list (P := P) w ⟨b, o, none⟩ cs (fun j v hj => by rw [add_eq]; exact hc j v hj)
    simp [run_sizeOf' hT.size, ← K.len hr, hl, pack]
  | false =>
    have hn := K.len hr; rw [K.h1 ha] at hn
    obtain ⟨v, rfl⟩ := List.length_eq_one_iff.1 hn
    have := hc 0 v rfl
    simp at this
    simp [this, pack]
end runs

/-! judgements -/
section
variable (P : Program) (B : Base)
def Tr (Γ : List Ent) (Δ : List Rs) (c : Code) (Q : Exit → Act → World → Prop) : Prop := ∀ I a w, St B Γ Δ I a w → c.wp P Q a w
def RL (ops : Array Oper) (Γ : List Ent) (Δ : List Rs) (l : List Oper) (Q : Exit → Act → World → Prop) : Prop := ∀ I a w, St B Γ Δ I a w → wpList P ops Q l a w
def Kx (Γ : List Ent) (Δ : List Rs) (Q : Exit → Act → World → Prop) (e : Exit) : Prop := ∀ I a w, St B Γ Δ I a w → Q e a w
/-- One operation, wherever at least Γ is told. -/
def Loc (Γ : List Ent) (Δ : List Rs) (o : Oper) (e : Ent) (Δ' : List Rs) : Prop :=
  ∀ Γ' I a w, Sub Γ Γ' → St B Γ' Δ I a w → o.wp P a w (fun a' w' => ∃ J, St B (e :: Γ') Δ' J a' w') (fun _ _ _ => False)
end

section rules
variable {P : Program} {B : Base} {Γ Γ' : List Ent} {Δ Δ' : List Rs} {Q : Exit → Act → World → Prop}

theorem Oper.wp_imp {o : Oper} {a : Act} {w : World} {K K' : Act → World → Prop} {Q Q' : Exit → Act → World → Prop} (h : o.wp P a w K Q) (hk : ∀ a w, K a w → K' a w) (hq : ∀ e a w, Q e a w → Q' e a w) : o.wp P a w K' Q' := by
  unfold Oper.wp Oper.upon at *
  split at h <;> rename_i heq <;> first | exact hk _ _ h | exact h.elim | exact hq _ _ _ h | skip
  · refine Calls.mono h fun e w' r => ?_
    cases e with
    | returned v => exact hk _ _ r
    | panicked ch => exact hq _ _ _ r
    | outgrown => obtain ⟨a, w, r⟩ := r; exact ⟨a, w, hq _ _ _ r⟩
  · exact Rows.mono h fun v w' r => hk _ _ r

theorem t_seq {x y : Code} (h : Tr P B Γ Δ x (Exit.then (y.wp P Q) Q)) : Tr P B Γ Δ (.seq x y) Q := fun I a w st => wp_seq (h I a w st)
theorem t_blk {id c} (h : Tr P B Γ Δ c (Exit.inBlock id Q)) : Tr P B Γ Δ (.block id c) Q := fun I a w st => wp_block (h I a w st)
theorem t_skip (h : Kx B Γ Δ Q .normal) : Tr P B Γ Δ .skip Q := fun I a w st => wp_skip (h I a w st)
theorem t_lab {l} (h : Kx B Γ Δ Q .normal) : Tr P B Γ Δ (.label l) Q := fun I a w st => wp_label (h I a w st)
theorem t_exit {id} (h : Kx B Γ Δ Q (.exit id)) : Tr P B Γ Δ (.exit id) Q := fun I a w st => wp_exit (h I a w st)
theorem t_ret (h : Kx B Γ Δ Q .ret) : Tr P B Γ Δ .ret Q := fun I a w st => wp_ret (h I a w st)
theorem t_reg {id : Nat} {l : List Oper} (h : RL P B l.toArray Γ Δ l Q) : Tr P B Γ Δ (.region id l.toArray false) Q := fun I a w st => wp_region_lit (h I a w st)
theorem t_sub {c} (hs : Sub Γ' Γ) (h : Tr P B Γ' Δ c Q) : Tr P B Γ Δ c Q := fun I a w st => h I a w (st.sub hs)
theorem t_perm {c} (p : Δ.Perm Δ') (h : Tr P B Γ Δ' c Q) : Tr P B Γ Δ c Q := fun I a w st => h I a w ⟨st.size, st.defs, st.env, let ⟨F, hs, hf⟩ := st.ws; ⟨F, hs.perm p, hf⟩⟩
theorem r_perm {ops l} (p : Δ.Perm Δ') (h : RL P B ops Γ Δ' l Q) : RL P B ops Γ Δ l Q := fun I a w st => h I a w ⟨st.size, st.defs, st.env, let ⟨F, hs, hf⟩ := st.ws; ⟨F, hs.perm p, hf⟩⟩
theorem r_sub {ops l} (hs : Sub Γ' Γ) (h : RL P B ops Γ' Δ l Q) : RL P B ops Γ Δ l Q := fun I a w st => h I a w (st.sub hs)
theorem t_ift {c : Operand} {x y : Code} {b : Bool} (h : Opd Γ c vBool b) (hb : b = true) (k : Tr P B Γ Δ x Q) : Tr P B Γ Δ (.cond c x y) Q :=
  fun I a w st => wp_cond_true (by have := vBool_iff.1 (h.ok (Sub.refl _) st); rw [this, hb]) (k I a w st)
theorem t_iff {c : Operand} {x y : Code} {b : Bool} (h : Opd Γ c vBool b) (hb : b = false) (k : Tr P B Γ Δ y Q) : Tr P B Γ Δ (.cond c x y) Q :=
  fun I a w st => wp_cond_false (by have := vBool_iff.1 (h.ok (Sub.refl _) st); rw [this, hb]) (k I a w st)

theorem k_seq {y : Code} {Q' : Exit → Act → World → Prop} (h : Tr P B Γ Δ y Q) : Kx B Γ Δ (Exit.then (y.wp P Q) Q') .normal := h
theorem k_te {n : Act → World → Prop} {id} (h : Kx B Γ Δ Q (.exit id)) : Kx B Γ Δ (Exit.then n Q) (.exit id) := h
theorem k_tr {n : Act → World → Prop} (h : Kx B Γ Δ Q .ret) : Kx B Γ Δ (Exit.then n Q) .ret := h
theorem k_tp {n : Act → World → Prop} {c} (h : Kx B Γ Δ Q (.panic c)) : Kx B Γ Δ (Exit.then n Q) (.panic c) := h
theorem k_bn {id} (h : Kx B Γ Δ Q .normal) : Kx B Γ Δ (Exit.inBlock id Q) .normal := h
theorem k_br {id} (h : Kx B Γ Δ Q .ret) : Kx B Γ Δ (Exit.inBlock id Q) .ret := h
theorem k_bp {id c} (h : Kx B Γ Δ Q (.panic c)) : Kx B Γ Δ (Exit.inBlock id Q) (.panic c) := h
theorem k_be {id} (h : Kx B Γ Δ Q .normal) : Kx B Γ Δ (Exit.inBlock id Q) (.exit id) := fun I a w st => by simpa [Exit.inBlock] using h I a w st
theorem k_bx {id id'} (hne : (id' == id) = false) (h : Kx B Γ Δ Q (.exit id')) : Kx B Γ Δ (Exit.inBlock id Q) (.exit id') := fun I a w st => by
  have : ¬ id' = id := by simpa using hne
  simp only [Exit.inBlock, this, if_false]; exact h I a w st
theorem k_sub {e} (hs : Sub Γ' Γ) (h : Kx B Γ' Δ Q e) : Kx B Γ Δ Q e := fun I a w st => h I a w (st.sub hs)

/-! loops -/
def InL (P : Program) (c : Code) (Q : Exit → Act → World → Prop) (a : Act) (w : World) : Prop :=
  ∀ (b : Frame) (k : List Item) (cs : List Frame), ∃ e a' w', Q e a' w' ∧ Arrives P (lone (b.at a (.code c :: .inLoop c :: k)) cs w) b k cs e a' w'
theorem InL.loop {c a w} (h : InL P c Q a w) : (Code.loop c).wp P Q a w :=
  fun b k cs => let ⟨e, a', w', hq, harr⟩ := h b k cs; ⟨e, a', w', hq, .of_steps (.one step_loop) harr⟩
theorem InL.of {c a w} (h : c.wp P (Exit.then (InL P c Q) Q) a w) : InL P c Q a w := by
  intro b k cs
  obtain ⟨e, a₁, w₁, hq, harr⟩ := h b (.inLoop c :: k) cs
  cases e with
  | normal =>
    obtain ⟨e₂, a₂, w₂, hq₂, harr₂⟩ := hq b k cs
    exact ⟨e₂, a₂, w₂, hq₂, .of_steps (Steps.trans harr (.one step_inLoop)) harr₂⟩
  | exit id => exact ⟨_, a₁, w₁, hq, .pass (x := .inLoop c) rfl (fun _ _ => .inl (by simp)) harr⟩
  | goto l => exact ⟨_, a₁, w₁, hq, .pass (x := .inLoop c) rfl (fun _ _ => .inl (by simp)) harr⟩
  | ret => exact ⟨_, a₁, w₁, hq, .pass (x := .inLoop c) rfl (fun _ _ => .inl (by simp)) harr⟩
  | panic ch => exact ⟨_, a₁, w₁, hq, .pass (x := .inLoop c) rfl (fun _ _ => .inl (by simp)) harr⟩
  | outgrown => exact ⟨_, a₁, w₁, hq, .pass (x := .inLoop c) rfl (fun _ _ => .inl (by simp)) harr⟩

/-- What holds at the round's end: the next round's beginning, of lower rank. -/
def Again {β : Type} (B : Base) (Γ : β → List Ent) (Δ : β → List Rs) (Inv : β → Prop) (rk : β → Nat) (n : Nat) (a : Act) (w : World) : Prop := ∃ y I, Inv y ∧ rk y < n ∧ St B (Γ y) (Δ y) I a w
theorem t_loop {β : Type} {c : Code} (Γ : β → List Ent) (Δ : β → List Rs) (Inv : β → Prop) (rk : β → Nat)
    (h : ∀ x, Inv x → Tr P B (Γ x) (Δ x) c (Exit.then (Again B Γ Δ Inv rk (rk x)) Q)) (x : β) (hx : Inv x) : Tr P B (Γ x) (Δ x) (.loop c) Q := by
  intro I a w st
  refine InL.loop ?_
  have key : ∀ n x, rk x = n → Inv x → ∀ I a w, St B (Γ x) (Δ x) I a w → InL P c Q a w := by
    intro n
    induction n using Nat.strongRecOn with
    | _ n ih =>
      intro x hn hx I a w st
      refine InL.of (Code.wp_mono (fun e a w q => ?_) (h x hx I a w st))
      cases e <;> first | exact q | skip
      obtain ⟨y, J, hy, hlt, sty⟩ := q
      exact ih (rk y) (hn ▸ hlt) y rfl hy J a w sty
  exact key _ x rfl hx I a w st
theorem k_again {β : Type} {G : β → List Ent} {D : β → List Rs} {Inv : β → Prop} {rk : β → Nat} {n : Nat} (y : β) (hy : Inv y) (hlt : rk y < n) (hs : Sub (G y) Γ) (hD : D y = Δ) :
    Kx B Γ Δ (Exit.then (Again B G D Inv rk n) Q) .normal := fun I a w st => ⟨y, I, hy, hlt, by rw [hD]; exact st.sub hs⟩

/-! regions -/
theorem r_nil {ops} (h : Kx B Γ Δ Q .normal) : RL P B ops Γ Δ [] Q := fun I a w st => wpList_nil (h I a w st)
theorem st {ops d op t p af e l} (h : Loc P B Γ Δ ⟨d, op, t, p, af, none⟩ e Δ') (k : RL P B ops (e :: Γ) Δ' l Q) : RL P B ops Γ Δ (⟨d, op, t, p, af, none⟩ :: l) Q :=
  fun I a w s => wpList_plain rfl fun K hK => Oper.wp_imp (h Γ I a w (Sub.refl _) s) (fun a' w' ⟨J, hj⟩ => hK _ _ (k J a' w' hj)) (fun _ _ _ h => h.elim)

/-- A guard that says yes, no. -/
theorem g_t {ops d op t p af j b s l} {x : Bool} (hj : (ops[j]?).bind (·.dst) = some s) (hs : look Γ s = some ⟨s, vBool, x⟩) (hx : x = b) (k : RL P B ops Γ Δ (⟨d, op, t, p, af, none⟩ :: l) Q) :
    RL P B ops Γ Δ (⟨d, op, t, p, af, some (j, b)⟩ :: l) Q := by
  intro I a w st
  have hk := k I a w st
  obtain ⟨v, hv, hp⟩ := st.env s _ hs
  have hp := vBool_iff.1 hp
  subst hp
  have hy : yielded ops a.tmps j = some b := by simp [yielded, hj, hv, hx]
  unfold wpList at hk ⊢
  rw [if_pos (by simp [Region.wanted, hy])]
  rw [if_pos (by simp [Region.wanted])] at hk
  exact hk
theorem g_f {ops d op t p af j b s l} {x : Bool} (hj : (ops[j]?).bind (·.dst) = some s) (hs : look Γ s = some ⟨s, vBool, x⟩) (hx : x = !b) (hd : look Γ d = none) (k : RL P B ops Γ Δ l Q) :
    RL P B ops Γ Δ (⟨some d, op, t, p, af, some (j, b)⟩ :: l) Q := by
  intro I a w st
  obtain ⟨v, hv, hp⟩ := st.env s _ hs
  have hp := vBool_iff.1 hp
  subst hp
  have hy : yielded ops a.tmps j = some (!b) := by simp [yielded, hj, hv, hx]
  unfold wpList
  rw [if_neg (by simp [Region.wanted, hy])]
  exact k I _ w (st.forget hd)

/-! operations -/
theorem loc_val {d : Nat} {op : Op} {t p af} {α : Type} {V : Vd α} {x : α} (hd : d < B.N)
    (h : ∀ Γ' I a w, Sub Γ Γ' → St B Γ' Δ I a w → ∃ v, (execOp a.eval ⟨some d, op, t, p, af, none⟩).run P w = .ok (.value v) w ∧ V.P I w v x) :
    Loc P B Γ Δ ⟨some d, op, t, p, af, none⟩ ⟨d, V, x⟩ Δ := by
  intro Γ' I a w hs s
  obtain ⟨v, hr, hv⟩ := h Γ' I a w hs s
  unfold Oper.wp
  rw [hr, Oper.upon_value]
  exact ⟨I, s.put0 hd hv⟩

variable {d : Nat} {t : TypeId} {p : String} {af : Array Edge}

theorem l_move {o : Operand} {α : Type} {V : Vd α} {x : α} (h : Opd Γ o V x) (hd : d < B.N) : Loc P B Γ Δ ⟨some d, .move o, t, p, af, none⟩ ⟨d, V, x⟩ Δ :=
  loc_val hd fun _ _ a _ hs s => ⟨a.eval o, by simp [execOp], h.ok hs s⟩
theorem l_assign {o : Operand} {α : Type} {V : Vd α} {x : α} (h : Opd Γ o V x) (hd : d < B.N) : Loc P B Γ Δ ⟨some d, .assign o, t, p, af, none⟩ ⟨d, V, x⟩ Δ :=
  loc_val hd fun _ _ a _ hs s => ⟨a.eval o, by simp [execOp], h.ok hs s⟩
theorem l_pickt {c o o' : Operand} {α : Type} {V : Vd α} {x : α} {b : Bool} (hc : Opd Γ c vBool b) (hb : b = true) (h : Opd Γ o V x) (hd : d < B.N) : Loc P B Γ Δ ⟨some d, .pick c o o', t, p, af, none⟩ ⟨d, V, x⟩ Δ :=
  loc_val hd fun _ _ a _ hs s => ⟨a.eval o, by have := vBool_iff.1 (hc.ok hs s); simp [execOp, this, asBool, hb], h.ok hs s⟩
theorem l_pickf {c o o' : Operand} {α : Type} {V : Vd α} {x : α} {b : Bool} (hc : Opd Γ c vBool b) (hb : b = false) (h : Opd Γ o' V x) (hd : d < B.N) : Loc P B Γ Δ ⟨some d, .pick c o o', t, p, af, none⟩ ⟨d, V, x⟩ Δ :=
  loc_val hd fun _ _ a _ hs s => ⟨a.eval o', by have := vBool_iff.1 (hc.ok hs s); simp [execOp, this, asBool, hb], h.ok hs s⟩

/-- What 'op' makes of two integers. -/
inductive IntBin : BinOp → IntKind → Int → Int → Int → Prop
  | add {k a b} : IntBin .add k a b (k.wrap (a + b))
  | sub {k a b} : IntBin .sub k a b (k.wrap (a - b))
  | mul {k a b} : IntBin .mul k a b (k.wrap (a * b))
  | quo {k a b} : b ≠ 0 → IntBin .quo k a b (k.wrap (a.tdiv b))
  | rem {k a b} : b ≠ 0 → IntBin .rem k a b (a.tmod b)
  | and {k a b} : IntBin .and k a b (k.wrap (BitVec.ofInt k.bits a &&& BitVec.ofInt k.bits b).toNat)
  | or {k a b} : IntBin .or k a b (k.wrap (BitVec.ofInt k.bits a ||| BitVec.ofInt k.bits b).toNat)
  | xor {k a b} : IntBin .xor k a b (k.wrap (BitVec.ofInt k.bits a ^^^ BitVec.ofInt k.bits b).toNat)
  | andNot {k a b} : IntBin .andNot k a b (k.wrap (BitVec.ofInt k.bits a &&& ~~~ BitVec.ofInt k.bits b).toNat)
inductive IntCmp : BinOp → Int → Int → Bool → Prop
  | eql {a b} : IntCmp .eql a b (a == b)
  | neq {a b} : IntCmp .neq a b (a != b)
  | lss {a b} : IntCmp .lss a b (decide (a < b))
  | leq {a b} : IntCmp .leq a b (decide (a ≤ b))
  | gtr {a b} : IntCmp .gtr a b (decide (a > b))
  | geq {a b} : IntCmp .geq a b (decide (a ≥ b))

theorem l_bin {bop : BinOp} {xt yt : TypeId} {o o' : Operand} {k : IntKind} {x y z : Int} (h : Opd Γ o (vInt k) x) (h' : Opd Γ o' (vInt k) y) (hb : IntBin bop k x y z) (hd : d < B.N) :
    Loc P B Γ Δ ⟨some d, .binOp bop xt o o' yt, t, p, af, none⟩ ⟨d, vInt k, z⟩ Δ :=
  loc_val hd fun _ _ a _ hs s => ⟨.int k z, by
    have e1 := vInt_iff.1 (h.ok hs s); have e2 := vInt_iff.1 (h'.ok hs s)
    cases hb <;> simp [execOp, e1, e2, eqGuard, binOp, Op.intArith, Op.intDiv, Op.intBits, *], vInt_iff.2 rfl⟩
theorem l_cmp {bop : BinOp} {xt yt : TypeId} {o o' : Operand} {k : IntKind} {x y : Int} {z : Bool} (h : Opd Γ o (vInt k) x) (h' : Opd Γ o' (vInt k) y) (hb : IntCmp bop x y z) (hd : d < B.N) :
    Loc P B Γ Δ ⟨some d, .binOp bop xt o o' yt, t, p, af, none⟩ ⟨d, vBool, z⟩ Δ :=
  loc_val hd fun _ _ a _ hs s => ⟨.bool z, by
    have e1 := vInt_iff.1 (h.ok hs s); have e2 := vInt_iff.1 (h'.ok hs s)
    cases hb <;> simp [execOp, e1, e2, eqGuard, binOp, Op.intCmp], vBool_iff.2 rfl⟩
/-- Shifts. -/
inductive IntSh : BinOp → IntKind → Int → Int → Int → Prop
  | shl {k a b} : IntSh .shl k a b (k.wrap (a * 2 ^ min b.toNat k.bits))
  | shr {k a b} : IntSh .shr k a b (a.fdiv (2 ^ min b.toNat k.bits))
theorem l_sh {bop : BinOp} {xt yt : TypeId} {o o' : Operand} {k k' : IntKind} {x y z : Int} (h : Opd Γ o (vInt k) x) (h' : Opd Γ o' (vInt k') y) (h0 : 0 ≤ y) (hb : IntSh bop k x y z) (hd : d < B.N) :
    Loc P B Γ Δ ⟨some d, .binOp bop xt o o' yt, t, p, af, none⟩ ⟨d, vInt k, z⟩ Δ :=
  loc_val hd fun _ _ a _ hs s => ⟨.int k z, by
    have e1 := vInt_iff.1 (h.ok hs s); have e2 := vInt_iff.1 (h'.ok hs s)
    have hn : ¬ y < 0 := by omega
    cases hb <;> simp [execOp, e1, e2, eqGuard, binOp, Op.shift, hn], vInt_iff.2 rfl⟩
inductive StrCmp : BinOp → ByteArray → ByteArray → Bool → Prop
  | eql {a b} : StrCmp .eql a b (a.toList == b.toList)
  | neq {a b} : StrCmp .neq a b (!(a.toList == b.toList))
  | lss {a b} : StrCmp .lss a b (Op.bytesLess a.toList b.toList)
theorem l_scmp {bop : BinOp} {xt yt : TypeId} {o o' : Operand} {x y : ByteArray} {z : Bool} (h : Opd Γ o vStr x) (h' : Opd Γ o' vStr y) (hb : StrCmp bop x y z) (hd : d < B.N) :
    Loc P B Γ Δ ⟨some d, .binOp bop xt o o' yt, t, p, af, none⟩ ⟨d, vBool, z⟩ Δ :=
  loc_val hd fun _ _ a _ hs s => ⟨.bool z, by
    have e1 := vStr_iff.1 (h.ok hs s); have e2 := vStr_iff.1 (h'.ok hs s)
    cases hb <;> simp [execOp, e1, e2, eqGuard, binOp, Op.stringOp], vBool_iff.2 rfl⟩
theorem l_cat {xt yt : TypeId} {o o' : Operand} {x y : ByteArray} (h : Opd Γ o vStr x) (h' : Opd Γ o' vStr y) (hl : x.size + y.size ≤ 9223372036854775807) (hd : d < B.N) :
    Loc P B Γ Δ ⟨some d, .binOp .add xt o o' yt, t, p, af, none⟩ ⟨d, vStr, x ++ y⟩ Δ :=
  loc_val hd fun _ _ a _ hs s => ⟨.string (x ++ y), by
    have e1 := vStr_iff.1 (h.ok hs s); have e2 := vStr_iff.1 (h'.ok hs s)
    have hm : IntKind.i64.max = 9223372036854775807 := by decide
    have : (x.size : Int) + y.size ≤ 9223372036854775807 := by omega
    simp only [execOp, e1, e2, eqGuard, binOp, Op.stringOp, hm]
    simp [this], vStr_iff.2 rfl⟩
theorem l_not {xt : TypeId} {o : Operand} {x : Bool} (h : Opd Γ o vBool x) (hd : d < B.N) : Loc P B Γ Δ ⟨some d, .unOp .not xt o, t, p, af, none⟩ ⟨d, vBool, !x⟩ Δ :=
  loc_val hd fun _ _ a _ hs s => ⟨.bool (!x), by have e1 := vBool_iff.1 (h.ok hs s); simp [execOp, e1, Op.unary], vBool_iff.2 rfl⟩
theorem l_neg {xt : TypeId} {o : Operand} {k : IntKind} {x : Int} (h : Opd Γ o (vInt k) x) (hd : d < B.N) : Loc P B Γ Δ ⟨some d, .unOp .neg xt o, t, p, af, none⟩ ⟨d, vInt k, k.wrap (0 - x)⟩ Δ :=
  loc_val hd fun _ _ a _ hs s => ⟨.int k (k.wrap (0 - x)), by have e1 := vInt_iff.1 (h.ok hs s); simp [execOp, e1, Op.unary, Op.intArith], vInt_iff.2 rfl⟩
theorem l_inv {xt : TypeId} {o : Operand} {k : IntKind} {x : Int} (h : Opd Γ o (vInt k) x) (hd : d < B.N) :
    Loc P B Γ Δ ⟨some d, .unOp .xor xt o, t, p, af, none⟩ ⟨d, vInt k, k.wrap (BitVec.ofInt k.bits (if k.signed then -1 else k.max) ^^^ BitVec.ofInt k.bits x).toNat⟩ Δ :=
  loc_val hd fun _ _ a _ hs s => ⟨.int k _, by have e1 := vInt_iff.1 (h.ok hs s); simp [execOp, e1, Op.unary, Op.intBits], vInt_iff.2 rfl⟩
def isInt (P : Program) (t : TypeId) (k : IntKind) : Bool := match P.underlying t with | some (.int k') => k == k' | _ => false
def isSlice (P : Program) (t e : TypeId) : Bool := match P.underlying t with | some (.slice e') => e == e' | _ => false
def isStr (P : Program) (t : TypeId) : Bool := match P.underlying t with | some .string => true | _ => false
theorem isInt_eq {t k} (h : isInt P t k = true) : P.underlying t = some (.int k) := by
  unfold isInt at h; split at h <;> simp_all
theorem isSlice_eq {t e} (h : isSlice P t e = true) : P.underlying t = some (.slice e) := by
  unfold isSlice at h; split at h <;> simp_all
theorem isStr_eq {t} (h : isStr P t = true) : P.underlying t = some .string := by
  unfold isStr at h; split at h <;> simp_all
theorem l_conv {src dst : TypeId} {o : Operand} {k k' : IntKind} {x : Int} {sd : TypeDesc} (hsd : P.underlying src = some sd) (hT : isInt P dst k' = true) (h : Opd Γ o (vInt k) x) (hd : d < B.N) :
    Loc P B Γ Δ ⟨some d, .convert src dst o, t, p, af, none⟩ ⟨d, vInt k', k'.wrap x⟩ Δ :=
  loc_val hd fun _ _ a w hs s => ⟨.int k' (k'.wrap x), by
    have e1 := vInt_iff.1 (h.ok hs s)
    simp [execOp, e1, convert, run_underlying hsd, run_underlying (isInt_eq hT), Conv.intToInt], vInt_iff.2 rfl⟩

/-! memory that no one writes any more -/
def fieldAt? (P : Program) (T i : Nat) : Option (Nat × Nat) :=
  match P.underlying T with
  | some (.struct fs) => (fs[i]?).map fun f => (f.offset, f.type)
  | _ => none
end rules
end Go.Pm
