import Derived.Test.YtpaggjifaelcnaaGreatPmJ
/-
  PM, part M: '==' of structs, maps, the library's functions without a Go body.
-/
set_option linter.unusedVariables false
set_option linter.unusedSimpArgs false
namespace Go.Pm
open Go Go.RowKit

/-! '==' -/
structure EqOk (P : Program) (T : TypeId) {α : Type} (K : Kd α) (n : Nat) (eq : α → α → Bool) : Prop where
  run : ∀ {I w cs ds x y} (d : Nat), K.R I w cs x → K.R I w ds y → (Op.equalIn (d + n) T (pack K.agg cs) (pack K.agg ds)).run P w = .ok (eq x y) w
theorem EqOk.up {P T} {α : Type} {K : Kd α} {n eq} (h : EqOk P T K n eq) : EqOk P T K (n + 1) eq := ⟨fun d hx hy => by have := h.run (d + 1) hx hy; rwa [Nat.add_right_comm, Nat.add_assoc] at this⟩
theorem eq_int {P T k} (h : isInt P T k = true) : EqOk P T (kInt k) 1 (fun x y => x == y) := ⟨fun d hx hy => by cases hx; cases hy; exact run_equalIn_int _ d T k k _ _ (isInt_eq h)⟩
theorem eq_str {P T} (h : isStr P T = true) : EqOk P T kStr 1 (fun x y => x.toList == y.toList) := ⟨fun d hx hy => by cases hx; cases hy; exact run_equalIn_string _ d T _ _ (isStr_eq h)⟩
def isBool (P : Program) (t : TypeId) : Bool := match P.underlying t with | some .bool => true | _ => false
theorem isBool_eq {P t} (h : isBool P t = true) : P.underlying t = some .bool := by unfold isBool at h; split at h <;> simp_all
theorem eq_bool {P T} (h : isBool P T = true) : EqOk P T kBool 1 (fun x y => x == y) := ⟨fun d hx hy => by cases hx; cases hy; exact run_equalIn_bool' _ d T _ _ (isBool_eq h)⟩

inductive EqFs (P : Program) {α : Type} (K : Kd α) (n : Nat) : List Field → (α → α → Bool) → Prop
  | nil : EqFs P K n [] (fun _ _ => true)
  | cons {f : Field} {fs : List Field} {r : α → α → Bool} {β : Type} {e : β → β → Bool} {L : Kd β} {get : α → β} {set : β → α → α} (hn : (f.name == "_") = false) (hf : Fld K f.offset L get set) (ha : tyAgg P f.type = some L.agg) (hs : tySize P f.type = some L.n) (he : EqOk P f.type L n e) (k : EqFs P K n fs r) :
      EqFs P K n (f :: fs) (fun x y => e (get x) (get y) && r x y)
theorem part_run' {P : Program} {w : World} {α β : Type} {K : Kd α} {L : Kd β} {I : ISet} {x : α} {get set} {cs : List Value} {off u : Nat} (hf : Fld K off L get set) (hr : K.R I w cs x) (ha : tyAgg P u = some L.agg) (hn : tySize P u = some L.n) :
    ∃ d, (part u cs.toArray off).run P w = .ok (pack L.agg d) w ∧ L.R I w d (get x) := by
  obtain ⟨v, hv, d, hd, rfl⟩ := part_run (P := P) hf hr ha hn
  exact ⟨d, hv, hd⟩
theorem EqFs.run {P : Program} {α : Type} {K : Kd α} {n fs eq} (h : EqFs P K n fs eq) {I w cs ds x y} (d : Nat) (hx : K.R I w cs x) (hy : K.R I w ds y) :
    (Op.eqFields (d + n) cs.toArray ds.toArray fs).run P w = .ok (eq x y) w := by
  induction h with
  | nil => simp [Op.eqFields]
  | @cons f fs r β e L get set hn hf ha hs he k ih =>
    obtain ⟨c, hc, hc'⟩ := part_run' (P := P) hf hx ha hs
    obtain ⟨c2, hd, hd'⟩ := part_run' (P := P) hf hy ha hs
    have hn' : f.name ≠ "_" := by simpa using hn
    simp only [Op.eqFields, if_pos hn', Sem.run_bind, hc, hd, Result.andThen_ok, he.run d hc' hd']
    cases e (get x) (get y)
    · simp
    · simpa using ih
theorem eq_struct {P : Program} {T : TypeId} {α : Type} {K : Kd α} {n : Nat} {fs : List Field} {eq : α → α → Bool} (ha : K.agg = true) (hu : P.underlying T = some (.struct fs.toArray)) (hp : P.stoodInHeld T = false) (h : EqFs P K n fs eq) : EqOk P T K (n + 1) eq where
  run {I w cs ds x y} d hx hy := by
    have hf : P.fieldsOf T = fs.toArray := by simp [Program.fieldsOf, hu]
    have := run_equalIn_struct (P := P) w (d + n) T cs.toArray ds.toArray (by rw [hf]; exact hu) hp
    rw [hf] at this
    simp only [pack, ha, if_true]
    rw [← Nat.add_assoc, this]
    simpa using h.run d hx hy

section
variable {P : Program} {B : Base} {Γ Γ' : List Ent} {Δ Δ' : List Rs} {Q : Exit → Act → World → Prop}
variable {d : Nat} {t : TypeId} {p : String} {af : Array Edge}
theorem eqg_run {w : World} {op : BinOp} {T : TypeId} {x y : Operand} {xs ys : Array Value} (h : P.eqGuardType P.depth T = false) : (eqGuard op T x y (.agg xs) (.agg ys)).run P w = .ok () w := by
  unfold eqGuard
  cases op <;> simp [h]
theorem l_seq {T T' : TypeId} {o o' : Operand} {α : Type} {K : Kd α} {n : Nat} {eq : α → α → Bool} {x y : α} (he : EqOk P T K n eq) (hn : Nat.ble n 10000 = true) (ha : K.agg = true) (hg : P.eqGuardType P.depth T = false) (h : Opd Γ o K.v x) (h' : Opd Γ o' K.v y) (hd : d < B.N) :
    Loc P B Γ Δ ⟨some d, .binOp .eql T o o' T', t, p, af, none⟩ ⟨d, vBool, eq x y⟩ Δ :=
  loc_val hd fun _ I a w hs s => by
    obtain ⟨cs, e1, h1⟩ := agg_of ha (h.ok hs s)
    obtain ⟨ds, e2, h2⟩ := agg_of ha (h'.ok hs s)
    have := he.run (10000 - n) h1 h2
    have hle := Nat.le_of_ble_eq_true hn
    rw [Nat.sub_add_cancel hle] at this
    simp only [pack, ha, if_true] at this
    refine ⟨.bool (eq x y), ?_, vBool_iff.2 rfl⟩
    simp only [execOp, e1, e2, Sem.run_bind, eqg_run hg, Result.andThen_ok, binOp, Op.equal, Op.maxDepth, this, Sem.run_pure]
theorem l_sne {T T' : TypeId} {o o' : Operand} {α : Type} {K : Kd α} {n : Nat} {eq : α → α → Bool} {x y : α} (he : EqOk P T K n eq) (hn : Nat.ble n 10000 = true) (ha : K.agg = true) (hg : P.eqGuardType P.depth T = false) (h : Opd Γ o K.v x) (h' : Opd Γ o' K.v y) (hd : d < B.N) :
    Loc P B Γ Δ ⟨some d, .binOp .neq T o o' T', t, p, af, none⟩ ⟨d, vBool, !(eq x y)⟩ Δ :=
  loc_val hd fun _ I a w hs s => by
    obtain ⟨cs, e1, h1⟩ := agg_of ha (h.ok hs s)
    obtain ⟨ds, e2, h2⟩ := agg_of ha (h'.ok hs s)
    have := he.run (10000 - n) h1 h2
    have hle := Nat.le_of_ble_eq_true hn
    rw [Nat.sub_add_cancel hle] at this
    simp only [pack, ha, if_true] at this
    refine ⟨.bool (!(eq x y)), ?_, vBool_iff.2 rfl⟩
    simp only [execOp, e1, e2, Sem.run_bind, eqg_run hg, Result.andThen_ok, binOp, Op.equal, Op.maxDepth, this, Sem.run_pure]

/-! functions without a Go body -/
structure XtOk (P : Program) (f : FuncId) (e : Array Value → Sem Value) : Prop where
  run : ∀ (args : Array Value) (w : World), (callFunc f args).run P w = ((e args).run P w).andThen fun v w' => .ok (.value v) w'
theorem xt_of {f : FuncId} {fn : Func} {e : Array Value → Sem Value} (hf : P.funcs[f]? = some fn) (hname : (fn.name == "runtime.NumGoroutine") = false) (hb : fn.body.isNone = true) (hn : Extern.findNext fn = none) (he : Extern.find fn = some e) : XtOk P f e :=
  ⟨fun args w => run_callFunc_extern hf hname hb hn he args w⟩
theorem l_xt {f : FuncId} {e : Array Value → Sem Value} {os : List Operand} {ats : Array TypeId} {as : List Arg} {β : Type} {V : Vd β} {y : β} (h : XtOk P f e) (ho : Opds Γ os as)
    (hy : ∀ I w vs, ArgsOK I w vs as → ∃ v, (e vs.toArray).run P w = .ok v w ∧ V.P I w v y) (hd : d < B.N) :
    Loc P B Γ Δ ⟨some d, .call { callee := .value (.func f), args := os.toArray, argTypes := ats }, t, p, af, none⟩ ⟨d, V, y⟩ Δ :=
  loc_val hd fun _ I a w hs s => by
    obtain ⟨v, hr, hv⟩ := hy I w _ (ho.ok hs s)
    refine ⟨v, ?_, hv⟩
    have : execOp a.eval ⟨some d, .call { callee := .value (.func f), args := os.toArray, argTypes := ats }, t, p, af, none⟩ = callFunc f (#[] ++ os.toArray.map a.eval ++ #[]) := rfl
    rw [this, h.run]
    have : (#[] ++ os.toArray.map a.eval ++ #[] : Array Value) = (os.map a.eval).toArray := by simp
    rw [this, hr]; rfl
def sub64Entry : Array Value → Sem Value := fun args => do
  let (x, y, b) ← Extern.MathBitsCarry.three "Sub64" args
  pure (Extern.MathBitsCarry.pair ((x + Extern.MathBitsCarry.m64 - y - b) % Extern.MathBitsCarry.m64) (if x < y + b then 1 else 0))
def vl2 : VL (Int × Int × Unit) := vlCons (vInt .u64) (vlCons (vInt .u64) vlNil)
/-- math/bits.Add64, Sub64 of numbers in range. -/
def m_Add64 (x y c : Int) : Option (Int × Int × Unit) := if 0 ≤ x ∧ 0 ≤ y ∧ 0 ≤ c ∧ c ≤ 1 then some ((x + y + c) % 18446744073709551616, (x + y + c) / 18446744073709551616, ()) else none
def m_Sub64 (x y c : Int) : Option (Int × Int × Unit) := if 0 ≤ x ∧ 0 ≤ y ∧ 0 ≤ c ∧ c ≤ 1 ∧ y ≤ 18446744073709551615 then some ((x - y - c) % 18446744073709551616, if x < y + c then 1 else 0, ()) else none
theorem x_add64 {x y c : Int} {r : Int × Int × Unit} (h : m_Add64 x y c = some r) (I : ISet) (w : World) (vs : List Value) (ha : ArgsOK I w vs [⟨vInt .u64, x⟩, ⟨vInt .u64, y⟩, ⟨vInt .u64, c⟩]) :
    ∃ v, (add64Entry vs.toArray).run P w = .ok v w ∧ (vTup vl2).P I w v r := by
  match vs, ha with
  | [v1, v2, v3], ⟨h1, h2, h3, _⟩ =>
    cases vInt_iff.1 h1; cases vInt_iff.1 h2; cases vInt_iff.1 h3
    unfold m_Add64 at h
    split at h
    · rename_i hc
      cases h
      exact ⟨_, run_add64 x y c hc.1 hc.2.1 hc.2.2.1 hc.2.2.2 w, [_, _], rfl, _, _, rfl, vInt_iff.2 rfl, _, _, rfl, vInt_iff.2 rfl, rfl⟩
    · cases h
theorem x_sub64 {x y c : Int} {r : Int × Int × Unit} (h : m_Sub64 x y c = some r) (I : ISet) (w : World) (vs : List Value) (ha : ArgsOK I w vs [⟨vInt .u64, x⟩, ⟨vInt .u64, y⟩, ⟨vInt .u64, c⟩]) :
    ∃ v, (sub64Entry vs.toArray).run P w = .ok v w ∧ (vTup vl2).P I w v r := by
  match vs, ha with
  | [v1, v2, v3], ⟨h1, h2, h3, _⟩ =>
    cases vInt_iff.1 h1; cases vInt_iff.1 h2; cases vInt_iff.1 h3
    unfold m_Sub64 at h
    split at h
    · rename_i hc
      cases h
      obtain ⟨hx, hy, hc0, hc1, hym⟩ := hc
      obtain ⟨X, rfl⟩ := Int.eq_ofNat_of_zero_le hx
      obtain ⟨Y, rfl⟩ := Int.eq_ofNat_of_zero_le hy
      obtain ⟨c, rfl⟩ := Int.eq_ofNat_of_zero_le hc0
      refine ⟨Extern.MathBitsCarry.pair ((X + Extern.MathBitsCarry.m64 - Y - c) % Extern.MathBitsCarry.m64) (if X < Y + c then 1 else 0), ?_, [_, _], rfl, _, _, rfl, vInt_iff.2 ?_, _, _, rfl, vInt_iff.2 ?_, rfl⟩
      · have : c = 0 ∨ c = 1 := by omega
        rcases this with rfl | rfl <;> rfl
      · congr 1
        simp only [Extern.MathBitsCarry.m64, Int.ofNat_eq_natCast]
        omega
      · congr 1
        simp only [Int.ofNat_eq_natCast]
        by_cases hlt : X < Y + c
        · rw [if_pos hlt, if_pos (by omega)]; rfl
        · rw [if_neg hlt, if_neg (by omega)]; rfl
    · cases h
end
end Go.Pm
