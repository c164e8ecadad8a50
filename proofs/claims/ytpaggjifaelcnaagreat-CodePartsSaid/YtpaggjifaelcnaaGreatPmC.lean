import Derived.Test.YtpaggjifaelcnaaGreatPmB
/-
  PM, part C: memory that no one writes any more: fields, elements, boxes, literals.
-/
set_option linter.unusedVariables false
set_option linter.unusedSimpArgs false
namespace Go.Pm
open Go Go.RowKit

def fldB (P : Program) (T i off : Nat) : Bool :=
  match P.underlying T with
  | some (.struct fs) => match fs[i]? with
    | some f => f.offset == off && (match P.info? f.type with | some inf => inf.size != 0 | none => false)
    | none => false
  | _ => false
theorem run_fieldAt' {P : Program} {w : World} {T i off b o : Nat} (h : fldB P T i off = true) :
    (Instr.fieldAt T (.pointer (some ⟨b, o, none⟩)) i).run P w = .ok (.pointer (some ⟨b, o + off, none⟩)) w := by
  unfold fldB at h
  cases hu : P.underlying T with
  | none => simp [hu] at h
  | some d =>
    cases d with
    | struct fs =>
      cases hf : fs[i]? with
      | none => simp [hu, hf] at h
      | some f =>
        cases hi : P.info? f.type with
        | none => simp [hu, hf, hi] at h
        | some inf =>
          simp only [hu, hf, hi, Bool.and_eq_true, beq_iff_eq, bne_iff_ne] at h
          obtain ⟨rfl, h0⟩ := h
          simp [Instr.fieldAt, run_underlying hu, hf, Instr.sureAddr, fieldPlace, sizeOf, typeInfo, hi, h0, add_eq]
    | _ => simp [hu] at h
/-- The field's own type: its number, whether it is a struct. -/
def fldT (P : Program) (T i off : Nat) (n : Nat) (agg : Bool) : Bool :=
  match P.underlying T with
  | some (.struct fs) => match fs[i]? with
    | some f => f.offset == off && tySize P f.type == some n && tyAgg P f.type == some agg
    | none => false
  | _ => false

def idx {α : Type} (xs : List α) (i : Int) : Option α := if 0 ≤ i then xs[i.toNat]? else none
theorem idx_some {α : Type} {xs : List α} {i : Int} {x : α} (h : idx xs i = some x) : 0 ≤ i ∧ i < xs.length ∧ xs[i.toNat]? = some x := by
  unfold idx at h
  split at h
  · rename_i h0
    have := (List.getElem?_eq_some_iff.1 h).1
    exact ⟨h0, by omega, h⟩
  · cases h

section rules
variable {P : Program} {B : Base} {Γ Γ' : List Ent} {Δ Δ' : List Rs} {Q : Exit → Act → World → Prop}
variable {d : Nat} {t : TypeId} {p : String} {af : Array Edge}

theorem l_fa {T i off : Nat} {o : Operand} {α β : Type} {K : Kd α} {L : Kd β} {get set} {x : α} (h : Opd Γ o (vPtr K) x) (hf : Fld K off L get set) (hT : fldB P T i off = true) (hd : d < B.N) :
    Loc P B Γ Δ ⟨some d, .fieldAddr T o i, t, p, af, none⟩ ⟨d, vPtr L, get x⟩ Δ :=
  loc_val hd fun _ I a w hs s => by
    obtain ⟨b, k, he, hI, cs, hr, hc⟩ := vPtr_iff.1 (h.ok hs s)
    refine ⟨_, by simp [execOp, he, run_fieldAt' hT], vPtr_iff.2 ⟨b, k + off, rfl, hI, ?_⟩⟩
    obtain ⟨c, d', e, rfl, hl, hr'⟩ := hf.get hr
    have := (hc.append).2
    rw [hl] at this
    exact ⟨d', hr', this.append.1⟩

theorem l_ld {T : TypeId} {o : Operand} {α : Type} {K : Kd α} {x : α} (h : Opd Γ o (vPtr K) x) (hT : TyOk P T K) (hd : d < B.N) :
    Loc P B Γ Δ ⟨some d, .load T o, t, p, af, none⟩ ⟨d, K.v, x⟩ Δ :=
  loc_val hd fun _ I a w hs s => by
    obtain ⟨b, k, he, hI, cs, hr, hc⟩ := vPtr_iff.1 (h.ok hs s)
    exact ⟨pack K.agg cs, by simp [execOp, he, Instr.loadAt, Instr.sureAddr, run_loadVar' hT hr hc], cs, hr, rfl⟩

theorem l_ia {T e : TypeId} {o o' : Operand} {α : Type} {K : Kd α} {xs : List α} {k : IntKind} {i : Int} {x : α} (h : Opd Γ o (vSlice K) xs) (h' : Opd Γ o' (vInt k) i) (hx : idx xs i = some x)
    (hT : isSlice P T e = true) (hn : tySize P e = some K.n) (hd : d < B.N) :
    Loc P B Γ Δ ⟨some d, .indexAddr T o o', t, p, af, none⟩ ⟨d, vPtr K, x⟩ Δ :=
  loc_val hd fun _ I a w hs s => by
    obtain ⟨A, c, he, hc, hm, hE⟩ := vSlice_iff.1 (h.ok hs s)
    have hi := vInt_iff.1 (h'.ok hs s)
    obtain ⟨h0, hl, hg⟩ := idx_some hx
    obtain ⟨b, q, rfl, hE'⟩ := hE (by rintro rfl; simp at hl; omega)
    refine ⟨_, ?_, vPtr_iff.2 ⟨b, q + i.toNat * K.n, rfl, hE' _ _ hg⟩⟩
    simp [execOp, he, hi, Instr.indexAt, asIntOf, run_underlying (isSlice_eq hT), h0, hl, run_sizeOf' hn, add_eq]

theorem l_lens {T : TypeId} {e : TypeId} {o : Operand} {α : Type} {K : Kd α} {xs : List α} (h : Opd Γ o (vSlice K) xs) (hT : isSlice P T e = true) (hd : d < B.N) :
    Loc P B Γ Δ ⟨some d, .call { callee := .builtin .len, args := #[o], argTypes := #[T] }, t, p, af, none⟩ ⟨d, vInt .i64, (xs.length : Int)⟩ Δ :=
  loc_val hd fun _ I a w hs s => by
    obtain ⟨A, c, he, _⟩ := vSlice_iff.1 (h.ok hs s)
    exact ⟨_, by simp [execOp, resolve, invoke, builtin, Builtin.len_, he, run_underlying (isSlice_eq hT), goInt], vInt_iff.2 rfl⟩
theorem l_lenstr {T : TypeId} {o : Operand} {x : ByteArray} (h : Opd Γ o vStr x) (hT : isStr P T = true) (hd : d < B.N) :
    Loc P B Γ Δ ⟨some d, .call { callee := .builtin .len, args := #[o], argTypes := #[T] }, t, p, af, none⟩ ⟨d, vInt .i64, (x.size : Int)⟩ Δ :=
  loc_val hd fun _ I a w hs s => by
    have he := vStr_iff.1 (h.ok hs s)
    exact ⟨_, by simp [execOp, resolve, invoke, builtin, Builtin.len_, he, run_underlying (isStr_eq hT), goInt], vInt_iff.2 rfl⟩
/-- A byte of a text. -/
def bAt (s : ByteArray) (i : Int) : Option Int := if 0 ≤ i then (s[i.toNat]?).map fun b => (b.toNat : Int) else none
theorem l_istr {T : TypeId} {o o' : Operand} {s : ByteArray} {k : IntKind} {i x : Int} (h : Opd Γ o vStr s) (h' : Opd Γ o' (vInt k) i) (hx : bAt s i = some x) (hT : isStr P T = true) (hd : d < B.N) :
    Loc P B Γ Δ ⟨some d, .index T o o', t, p, af, none⟩ ⟨d, vInt .u8, x⟩ Δ :=
  loc_val hd fun _ I a w hs st => by
    have he := vStr_iff.1 (h.ok hs st); have hi := vInt_iff.1 (h'.ok hs st)
    unfold bAt at hx
    split at hx
    · rename_i h0
      cases hg : s[i.toNat]? with
      | none => simp [hg] at hx
      | some u =>
        simp [hg] at hx
        exact ⟨.int .u8 x, by simp [execOp, he, hi, Instr.index, asIntOf, run_underlying (isStr_eq hT), h0, hg, hx], vInt_iff.2 rfl⟩
    · cases hx

theorem part_run {w : World} {α β : Type} {K : Kd α} {L : Kd β} {I : ISet} {x : α} {get set} {cs : List Value} {off u : Nat} (hf : Fld K off L get set) (hr : K.R I w cs x) (ha : tyAgg P u = some L.agg) (hn : tySize P u = some L.n) :
    ∃ v, (part u cs.toArray off).run P w = .ok v w ∧ L.v.P I w v (get x) := by
  obtain ⟨c, d', e, rfl, hl, hr'⟩ := hf.get hr
  have hd := L.len hr'
  refine ⟨pack L.agg d', ?_, d', hr', rfl⟩
  simp only [part, Sem.run_bind, run_isAgg' ha, Result.andThen_ok]
  cases hL : L.agg with
  | true =>
    have : (c ++ (d' ++ e)).toArray.extract off (off + L.n) = d'.toArray := by
      apply Array.ext'
      simp [List.take_append, List.drop_append, ← hl, ← hd]
    simp only [if_true, Sem.run_bind, run_sizeOf' hn, Result.andThen_ok, this, pack, Sem.run_pure]
  | false =>
    rw [L.h1 hL] at hd
    obtain ⟨v, rfl⟩ := List.length_eq_one_iff.1 hd
    have : (c ++ ([v] ++ e)).toArray[off]? = some v := by subst hl; simp
    simp only [this, pack]; simp

theorem agg_of {α : Type} {K : Kd α} {I w v x} (ha : K.agg = true) (h : K.v.P I w v x) : ∃ cs, v = .agg cs.toArray ∧ K.R I w cs x := by
  obtain ⟨cs, hr, rfl⟩ := h
  exact ⟨cs, by simp [pack, ha], hr⟩

theorem l_fld {T i off : Nat} {o : Operand} {α β : Type} {K : Kd α} {L : Kd β} {get set} {x : α} (h : Opd Γ o K.v x) (hf : Fld K off L get set) (ha : K.agg = true) (hT : fldT P T i off L.n L.agg = true) (hd : d < B.N) :
    Loc P B Γ Δ ⟨some d, .field T o i, t, p, af, none⟩ ⟨d, L.v, get x⟩ Δ :=
  loc_val hd fun _ I a w hs s => by
    obtain ⟨cs, he, hr⟩ := agg_of ha (h.ok hs s)
    unfold fldT at hT
    cases hu : P.underlying T with
    | none => simp [hu] at hT
    | some ds =>
      cases ds with
      | struct fs =>
        cases hg : fs[i]? with
        | none => simp [hu, hg] at hT
        | some f =>
          simp only [hu, hg, Bool.and_eq_true, beq_iff_eq] at hT
          obtain ⟨⟨rfl, h1⟩, h2⟩ := hT
          obtain ⟨v, hv, hp⟩ := part_run (P := P) hf hr h2 h1
          exact ⟨v, by simp [execOp, he, Instr.field, run_underlying hu, hg, asAgg, hv], hp⟩
      | _ => simp [hu] at hT

/-! several results -/
structure VL (α : Type) where
  n : Nat
  P : ISet → World → List Value → α → Prop
  len : ∀ {I w vs x}, P I w vs x → vs.length = n
  mono : ∀ {I w J u vs x}, Grow I w J u → P I w vs x → P J u vs x
def vlNil : VL Unit := ⟨0, fun _ _ vs _ => vs = [], by rintro _ _ _ _ rfl; rfl, fun _ h => h⟩
def vlCons {α β : Type} (V : Vd α) (L : VL β) : VL (α × β) where
  n := L.n + 1
  P I w vs x := ∃ v l, vs = v :: l ∧ V.P I w v x.1 ∧ L.P I w l x.2
  len := by rintro _ _ _ _ ⟨v, l, rfl, _, h⟩; simp [L.len h]
  mono g := fun ⟨v, l, e, h, k⟩ => ⟨v, l, e, V.mono g h, L.mono g k⟩
def vTup {α : Type} (L : VL α) : Vd α := ⟨fun I w v x => ∃ vs : List Value, v = .tuple vs.toArray ∧ L.P I w vs x, fun g h => let ⟨vs, e, h⟩ := h; ⟨vs, e, L.mono g h⟩⟩
structure VGet {α β : Type} (L : VL α) (i : Nat) (V : Vd β) (get : α → β) : Prop where
  get : ∀ {I w vs x}, L.P I w vs x → ∃ v, vs[i]? = some v ∧ V.P I w v (get x)
theorem VGet.z {α β : Type} {V : Vd α} {L : VL β} : VGet (vlCons V L) 0 V (·.1) := ⟨by rintro I w _ x ⟨v, l, rfl, h, _⟩; exact ⟨v, rfl, h⟩⟩
theorem VGet.s {α β γ : Type} {V : Vd α} {L : VL β} {i : Nat} {W : Vd γ} {get : β → γ} (h : VGet L i W get) : VGet (vlCons V L) (i + 1) W (fun x => get x.2) :=
  ⟨by rintro I w _ x ⟨v, l, rfl, _, k⟩; obtain ⟨u, hu, hp⟩ := h.get k; exact ⟨u, by simpa using hu, hp⟩⟩
theorem l_ext {i : Nat} {o : Operand} {α β : Type} {L : VL α} {V : Vd β} {get} {x : α} (h : Opd Γ o (vTup L) x) (hg : VGet L i V get) (hd : d < B.N) :
    Loc P B Γ Δ ⟨some d, .extract o i, t, p, af, none⟩ ⟨d, V, get x⟩ Δ :=
  loc_val hd fun _ I a w hs s => by
    obtain ⟨vs, he, hl⟩ := h.ok hs s
    obtain ⟨v, hv, hp⟩ := hg.get hl
    exact ⟨v, by simp [execOp, he, Instr.extract, hv], hp⟩

/-! a new block that no one writes -/
theorem heap_push (w : World) (o : Obj) {b : Nat} (h : b < w.heap.size) : (w.heap.push o)[b]? = w.heap[b]? := by
  rw [Array.getElem?_push, if_neg (by omega)]
theorem new_imm {Δ : List Rs} {I : ISet} {w : World} (ob : Obj) (hw : ∃ F, Sep Δ I w F ∧ Fr B.I B.w B.F I w F) :
    let J := fun b => I b ∨ b = w.heap.size
    let u : World := { w with heap := w.heap.push ob }
    Grow I w J u ∧ ∃ F, Sep Δ J u F ∧ Fr B.I B.w B.F J u F := by
  intro J u
  obtain ⟨F, hs, hf⟩ := hw
  have g : Grow I w J u := ⟨by simp [u], fun b hb => .inl hb, fun b hb => heap_push w ob (hf.lt b hb)⟩
  refine ⟨g, F, hs.mono g fun b hb => heap_push w ob (hf.gl b hb).2, hf.os, hf.tape, hf.output, ?_, fun b hb => .inl (hf.sub b hb), fun b hb hn => ?_, fun b hb => ?_, hf.fp, fun b hb => ?_, fun b hb => ?_⟩
  · have := hf.le; simp [u]; omega
  · have h1 := hf.same b hb hn
    have h2 := hf.le
    rw [← h1]; exact heap_push w ob (by omega)
  · rcases hb with hb | rfl
    · exact hf.only b hb
    · exact .inr (.inr hf.le)
  · rcases hb with hb | rfl
    · have := hf.lt b hb; simp [u]; omega
    · simp [u]
  · have h2 := hf.gl b hb
    refine ⟨fun hj => ?_, by simp [u]; omega⟩
    rcases hj with hj | rfl
    · exact h2.1 hj
    · omega

theorem at_new {w : World} {α : Type} {K : Kd α} {I : ISet} {cs : List Value} {e : TypeId} {x : α} (hr : K.R I w cs x) {J : ISet} {u : World} (g : Grow I w J u) (hJ : J w.heap.size) (hu : u.heap = w.heap.push (.cells cs.toArray e)) :
    K.At J u w.heap.size 0 x :=
  ⟨hJ, cs, K.mono g hr, CellsAt.block (c := cs.toArray) (e := e) (fr := (0, 0)) (by rw [hu]; simp) (by intro j v hj; simpa using hj)⟩

theorem l_box {T : TypeId} {o : Operand} {α : Type} {K : Kd α} {x : α} (h : Opd Γ o K.v x) (hd : d < B.N) : Loc P B Γ Δ ⟨some d, .box T o, t, p, af, none⟩ ⟨d, vPtr K, x⟩ Δ := by
  intro Γ' I a w hs s
  obtain ⟨cs, hr, he⟩ := h.ok hs s
  have hc := pack_cells K hr
  obtain ⟨g, hw⟩ := new_imm (B := B) (.cells cs.toArray T) s.ws
  unfold Oper.wp
  have : (execOp a.eval ⟨some d, .box T o, t, p, af, none⟩).run P w = .ok (.value (.pointer (some ⟨w.heap.size, 0, none⟩))) { w with heap := w.heap.push (.cells cs.toArray T) } := by
    simp [execOp, Instr.box, newVar, newRow, he, hc]
  rw [this, Oper.upon_value]
  exact ⟨_, s.put g hw hd (vPtr_iff.2 ⟨_, 0, rfl, at_new hr g (.inr rfl) rfl⟩)⟩

/-- 'alloc' and the 'store' right behind it, of a variable that is written no more. -/
theorem storeVar_run {w w0 : World} {α : Type} {K : Kd α} {T e : TypeId} {b : Nat} {I : ISet} {cs : List Value} {x : α} {v : Value} {cur : Array Value} (hn : tySize P T = some K.n) (hr : K.R I w0 cs x) (he : v = pack K.agg cs)
    (hg : w.heap[b]? = some (.cells cur e (0, 0))) (off : Nat) (hfit : off + K.n ≤ cur.size) :
    (storeVar T ⟨b, off, none⟩ v).run P w = .ok () (w.setRow b (cur.toList.take off ++ cs ++ cur.toList.drop (off + cs.length)).toArray) := by
  have hc : v.cells = cs.toArray := by rw [he]; exact pack_cells K hr
  have hl := K.len hr
  have := run_storeCells_at P b off e cs 0 cur w hg (by omega) (K.one hr)
  simp only [Nat.add_zero] at this
  simp [storeVar, run_sizeOf' hn, hc, hl, this]

structure ZeroOk (P : Program) (T : TypeId) {α : Type} (K : Kd α) (z : α) : Prop where
  z : ∃ cs : List Value, (P.info? T).map (·.zero) = some (some (pack K.agg cs)) ∧ ∀ I w, K.R I w cs z

theorem zero_run {w : World} {α : Type} {K : Kd α} {T : TypeId} {z : α} (h : ZeroOk P T K z) : ∃ cs : List Value, (zeroValue T).run P w = .ok (pack K.agg cs) w ∧ ∀ I w, K.R I w cs z := by
  obtain ⟨cs, h1, h2⟩ := h.z
  refine ⟨cs, ?_, h2⟩
  cases hi : P.info? T with
  | none => simp [hi] at h1
  | some i => simp [hi] at h1; simp [zeroValue, typeInfo, hi, h1]

theorem alloc_run {w : World} {α : Type} {K : Kd α} {T : TypeId} {z : α} {a : Act} (h : ZeroOk P T K z) : ∃ cs : List Value, (∀ I w, K.R I w cs z) ∧
    (execOp a.eval ⟨some d, .alloc T, t, p, af, none⟩).run P w = .ok (.value (.pointer (some ⟨w.heap.size, 0, none⟩))) { w with heap := w.heap.push (.cells cs.toArray T) } := by
  obtain ⟨cs, h1, h2⟩ := zero_run (w := w) h
  have hc := pack_cells K (h2 (fun _ => False) w)
  exact ⟨cs, h2, by simp [execOp, Instr.alloc, h1, newVar, newRow, hc]⟩

theorem setRow_push (w : World) (c cs : Array Value) (e : TypeId) : (⟨w.heap.push (.cells c e), w.tape, w.drawn, w.os, w.output⟩ : World).setRow w.heap.size cs = ⟨w.heap.push (.cells cs e), w.tape, w.drawn, w.os, w.output⟩ := by
  unfold World.setRow
  congr 1
  apply Array.ext_getElem?
  intro k
  rw [Array.getElem?_modify, Array.getElem?_push, Array.getElem?_push]
  by_cases hk : k = w.heap.size
  · subst hk; simp
  · rw [if_neg (by omega), if_neg hk, if_neg hk]

def opNe : Operand → Nat → Bool
  | .tmp s, d => !(Nat.beq s d)
  | _, _ => true
theorem eval_ne {a : Act} {o : Operand} {d : Nat} {v : Value} (h : opNe o d = true) : (a.put (some d) v).eval o = a.eval o := by
  cases o with
  | tmp s =>
    have hs : ¬ d = s := by rintro rfl; simp [opNe] at h
    simp only [Act.eval, Act.put, Array.getD_eq_getD_getElem?, Array.getElem?_setIfInBounds, if_neg hs]
  | _ => rfl

theorem r_als {ops l} {T : TypeId} {o : Operand} {α : Type} {K : Kd α} {x z : α} {t' : TypeId} {p' : String} {af' : Array Edge} (hz : ZeroOk P T K z) (h : Opd Γ o K.v x) (ho : opNe o d = true)
    (hn : tySize P T = some K.n) (hd : d < B.N) (k : RL P B ops (⟨d, vPtr K, x⟩ :: Γ) Δ l Q) :
    RL P B ops Γ Δ (⟨some d, .alloc T, t, p, af, none⟩ :: ⟨none, .store T (.tmp d) o, t', p', af', none⟩ :: l) Q := by
  intro I a w s
  obtain ⟨zs, hzs, hr⟩ := alloc_run (d := d) (t := t) (p := p) (af := af) (w := w) (a := a) hz
  obtain ⟨cs, hx, he⟩ := h.ok (Sub.refl _) s
  refine wpList_plain rfl fun K1 hK1 => ?_
  unfold Oper.wp
  rw [hr, Oper.upon_value]
  refine hK1 _ _ ?_
  refine wpList_plain rfl fun K2 hK2 => ?_
  unfold Oper.wp
  have hd' : (a.put (some d) (.pointer (some ⟨w.heap.size, 0, none⟩))).eval (.tmp d) = .pointer (some ⟨w.heap.size, 0, none⟩) := by
    have : d < a.tmps.size := by rw [s.size]; exact hd
    simp [Act.eval, Act.put, Array.getD_eq_getD_getElem?, this]
  have hlz := K.len (hzs I w)
  have hlx := K.len hx
  have hst := storeVar_run (w := { w with heap := w.heap.push (.cells zs.toArray T) }) (e := T) (cur := zs.toArray) (b := w.heap.size) hn hx he (by simp) 0 (by simp [hlz])
  have hset : (⟨w.heap.push (.cells zs.toArray T), w.tape, w.drawn, w.os, w.output⟩ : World).setRow w.heap.size (zs.toArray.toList.take 0 ++ cs ++ zs.toArray.toList.drop (0 + cs.length)).toArray = ⟨w.heap.push (.cells cs.toArray T), w.tape, w.drawn, w.os, w.output⟩ := by
    have hdrop : zs.drop cs.length = [] := List.drop_eq_nil_of_le (by omega)
    simp only [List.take_zero, List.nil_append, Nat.zero_add, hdrop, List.append_nil]
    exact setRow_push w _ _ T
  have : (execOp (a.put (some d) (.pointer (some ⟨w.heap.size, 0, none⟩))).eval ⟨none, .store T (.tmp d) o, t', p', af', none⟩).run P { w with heap := w.heap.push (.cells zs.toArray T) } = .ok .skip { w with heap := w.heap.push (.cells cs.toArray T) } := by
    simp only [execOp, hd', eval_ne ho, Instr.storeAt, Instr.sureAddr, Sem.run_bind, Sem.run_pure, Result.andThen_ok]
    rw [he] at hst ⊢
    rw [hst, hset]
    rfl
  rw [this, Oper.upon_skip]
  obtain ⟨g, hw⟩ := new_imm (B := B) (.cells cs.toArray T) s.ws
  exact hK2 _ _ (k _ _ _ (s.put g hw hd (vPtr_iff.2 ⟨_, 0, rfl, at_new hx g (.inr rfl) rfl⟩)))
end rules
end Go.Pm
