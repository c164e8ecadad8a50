import Derived.Test.YtpaggjifaelcnaaGreatPmE
/-
  PM, part H: memory that the walk owns: variables, rows that grow.
-/
set_option linter.unusedVariables false
set_option linter.unusedSimpArgs false
namespace Go.Pm
open Go Go.RowKit

def rEmp : Rs := ⟨fun _ _ f => ∀ b, ¬ f b, fun _ _ h => h⟩
def rBox (b : Nat) (e : TypeId) {α : Type} (K : Kd α) (x : α) : Rs where
  P I w f := (∀ c, f c ↔ c = b) ∧ ∃ cs, K.R I w cs x ∧ w.heap[b]? = some (.cells cs.toArray e (0, 0))
  mono g hf := fun ⟨h1, cs, h2, h3⟩ => ⟨h1, cs, K.mono g h2, (hf _ ((h1 _).2 rfl)).trans h3⟩

theorem take_front {α : Type} {l : List α} {i : Nat} {x : α} (h : l[i]? = some x) : l.Perm (x :: l.eraseIdx i) := by
  obtain ⟨hi, he⟩ := List.getElem?_eq_some_iff.1 h
  subst he
  clear h
  induction l generalizing i with
  | nil => simp at hi
  | cons y l ih =>
    cases i with
    | zero => simp
    | succ i => simp only [List.getElem_cons_succ, List.eraseIdx_cons_succ]; exact ((ih (by simpa using hi)).cons y).trans (List.Perm.swap _ _ _)
theorem set_perm {α : Type} {l : List α} {i : Nat} {x y : α} (h : l[i]? = some x) : (y :: l.eraseIdx i).Perm (l.set i y) := by
  obtain ⟨hi, he⟩ := List.getElem?_eq_some_iff.1 h
  have h2 : (l.set i y)[i]? = some y := by simp [hi]
  have := (take_front h2).symm
  rwa [show (l.set i y).eraseIdx i = l.eraseIdx i from by simp [List.eraseIdx_set_eq]] at this

section
variable {P : Program} {B : Base} {Γ Γ' : List Ent} {Δ Δ' : List Rs} {Q : Exit → Act → World → Prop}

theorem ws_upd {i : Nat} {r : Rs} {I : ISet} {w : World} (hi : Δ[i]? = some r) (hw : ∃ F, Sep Δ I w F ∧ Fr B.I B.w B.F I w F) :
    ∃ f, r.P I w f ∧ (∀ b, I b → b < w.heap.size) ∧ (∀ b, f b → ¬ I b ∧ b < w.heap.size) ∧
      ∀ r' J u f', Fr I w f J u f' → r'.P J u f' → Grow I w J u ∧ ∃ F, Sep (Δ.set i r') J u F ∧ Fr B.I B.w B.F J u F := by
  obtain ⟨F, hS, hF⟩ := hw
  obtain ⟨f1, f2, he, hd, h1, h2⟩ := hS.perm (take_front hi)
  refine ⟨f1, h1, hF.lt, fun b hb => hF.gl b ((he b).2 (.inl hb)), fun r' J u f' hf hr => ?_⟩
  obtain ⟨g1, g2, g3⟩ := hf.frame he hd (fun b hb => hF.gl b hb)
  have gr := g1.grow hF.lt (fun b hb => (hF.gl b hb).1)
  exact ⟨gr, _, Sep.perm (set_perm hi) (f := fun b => f' b ∨ f2 b) ⟨f', f2, fun _ => Iff.rfl, g2, hr, h2.mono gr g3⟩, hF.trans g1⟩

theorem ws_add {I : ISet} {w : World} (hw : ∃ F, Sep Δ I w F ∧ Fr B.I B.w B.F I w F) {r' : Rs} {J : ISet} {u : World} {f' : ISet} (hf : Fr I w (fun _ => False) J u f') (hr : r'.P J u f') :
    Grow I w J u ∧ ∃ F, Sep (Δ ++ [r']) J u F ∧ Fr B.I B.w B.F J u F := by
  obtain ⟨F, hS, hF⟩ := hw
  obtain ⟨g1, g2, g3⟩ := hf.frame (F := F) (F2 := F) (fun b => by simp) (fun b h => h.elim) (fun b hb => hF.gl b hb)
  have gr := g1.grow hF.lt (fun b hb => (hF.gl b hb).1)
  refine ⟨gr, _, Sep.perm (Δ := r' :: Δ) (by simpa using (List.perm_append_comm (l₁ := [r']) (l₂ := Δ))) (f := fun b => f' b ∨ F b) ⟨f', F, fun _ => Iff.rfl, g2, hr, hS.mono gr g3⟩, hF.trans g1⟩

/-- A new block of one's own. -/
theorem fr_push {I : ISet} {w : World} (o : Obj) (hI : ∀ b, I b → b < w.heap.size) : Fr I w (fun _ => False) I { w with heap := w.heap.push o } (fun b => b = w.heap.size) where
  os := rfl
  tape := rfl
  output := rfl
  le := by simp
  sub _ h := h
  same b hb _ := heap_push w o hb
  only _ h := .inl h
  fp b hb := .inr (by omega)
  lt b hb := by have := hI b hb; simp; omega
  gl b hb := by subst hb; exact ⟨fun h => absurd (hI _ h) (by omega), by simp⟩
/-- One's own block is given to all. -/
theorem fr_free {I : ISet} {w : World} {f : ISet} (hI : ∀ b, I b → b < w.heap.size) (hf : ∀ b, f b → ¬ I b ∧ b < w.heap.size) : Fr I w f (fun b => I b ∨ f b) w (fun _ => False) where
  os := rfl
  tape := rfl
  output := rfl
  le := Nat.le_refl _
  sub _ h := .inl h
  same _ _ _ := rfl
  only b h := h.elim .inl (fun h => .inr (.inl h))
  fp _ h := h.elim
  lt b hb := hb.elim (hI b) (fun h => (hf b h).2)
  gl _ h := h.elim
theorem fr_same {I : ISet} {w u : World} {f : ISet} (h1 : u.os = w.os) (h2 : u.tape = w.tape) (h3 : u.output = w.output) (hs : u.heap.size = w.heap.size) (hb : ∀ b, ¬ f b → u.heap[b]? = w.heap[b]?)
    (hI : ∀ b, I b → b < w.heap.size) (hf : ∀ b, f b → ¬ I b ∧ b < w.heap.size) : Fr I w f I u f where
  os := h1
  tape := h2
  output := h3
  le := by omega
  sub _ h := h
  same b _ h := hb b h
  only _ h := .inl h
  fp _ h := .inl h
  lt b hb := by have := hI b hb; omega
  gl b hb := by have := hf b hb; exact ⟨this.1, by omega⟩

theorem setRow_other (w : World) (g : Nat) (cs : Array Value) (b : Nat) (h : b ≠ g) : (w.setRow g cs).heap[b]? = w.heap[b]? := by
  unfold World.setRow; simp only [Array.getElem?_modify]; rw [if_neg (fun e => h e.symm)]
theorem setRow_size (w : World) (g : Nat) (cs : Array Value) : (w.setRow g cs).heap.size = w.heap.size := by simp [World.setRow]
theorem fr_setRow {I : ISet} {w : World} {f : ISet} (g : Nat) (cs : Array Value) (hg : f g) (hI : ∀ b, I b → b < w.heap.size) (hf : ∀ b, f b → ¬ I b ∧ b < w.heap.size) : Fr I w f I (w.setRow g cs) f :=
  fr_same rfl rfl rfl (setRow_size w g cs) (fun b hb => setRow_other w g cs b (by rintro rfl; exact hb hg)) hI hf

variable {d : Nat} {t : TypeId} {p : String} {af : Array Edge}

theorem r_alloc {ops l} {T : TypeId} {α : Type} {K : Kd α} {z : α} (hz : ZeroOk P T K z) (hd : d < B.N) (k : ∀ b, RL P B ops (⟨d, vLoc, (b, 0)⟩ :: Γ) (Δ ++ [rBox b T K z]) l Q) :
    RL P B ops Γ Δ (⟨some d, .alloc T, t, p, af, none⟩ :: l) Q := by
  intro I a w s
  obtain ⟨zs, hzs, hr⟩ := alloc_run (d := d) (t := t) (p := p) (af := af) (w := w) (a := a) hz
  obtain ⟨F, _, hF⟩ := s.ws
  obtain ⟨g, hw⟩ := ws_add s.ws (r' := rBox w.heap.size T K z) (fr_push (.cells zs.toArray T) hF.lt) ⟨fun _ => Iff.rfl, zs, hzs _ _, by simp⟩
  refine wpList_plain rfl fun K1 hK1 => ?_
  unfold Oper.wp
  rw [hr, Oper.upon_value]
  exact hK1 _ _ (k _ _ _ _ (s.put g hw hd rfl))
theorem r_boxm {ops l} {T : TypeId} {o : Operand} {α : Type} {K : Kd α} {x : α} (h : Opd Γ o K.v x) (hd : d < B.N) (k : ∀ b, RL P B ops (⟨d, vLoc, (b, 0)⟩ :: Γ) (Δ ++ [rBox b T K x]) l Q) :
    RL P B ops Γ Δ (⟨some d, .box T o, t, p, af, none⟩ :: l) Q := by
  intro I a w s
  obtain ⟨cs, hr, he⟩ := h.ok (Sub.refl _) s
  have hc := pack_cells K hr
  obtain ⟨F, _, hF⟩ := s.ws
  have fr := fr_push (.cells cs.toArray T) hF.lt
  obtain ⟨g, hw⟩ := ws_add s.ws (r' := rBox w.heap.size T K x) fr ⟨fun _ => Iff.rfl, cs, K.mono (fr.grow hF.lt (fun _ h => h.elim)) hr, by simp⟩
  have hrun : (execOp a.eval ⟨some d, .box T o, t, p, af, none⟩).run P w = .ok (.value (.pointer (some ⟨w.heap.size, 0, none⟩))) { w with heap := w.heap.push (.cells cs.toArray T) } := by
    simp [execOp, Instr.box, newVar, newRow, he, hc]
  refine wpList_plain rfl fun K1 hK1 => ?_
  unfold Oper.wp
  rw [hrun, Oper.upon_value]
  exact hK1 _ _ (k _ _ _ _ (s.put g hw hd rfl))
theorem l_fam {T i off b q : Nat} {o : Operand} (h : Opd Γ o vLoc (b, q)) (hT : fldB P T i off = true) (hd : d < B.N) :
    Loc P B Γ Δ ⟨some d, .fieldAddr T o i, t, p, af, none⟩ ⟨d, vLoc, (b, q + off)⟩ Δ :=
  loc_val hd fun _ I a w hs s => by
    have he : a.eval o = .pointer (some ⟨b, q, none⟩) := h.ok hs s
    exact ⟨_, by simp [execOp, he, run_fieldAt' hT], rfl⟩
theorem l_ldm {T : TypeId} {o : Operand} {b q i : Nat} {e : TypeId} {α β : Type} {K : Kd α} {L : Kd β} {get set} {x : α} (h : Opd Γ o vLoc (b, q)) (hi : Δ[i]? = some (rBox b e K x)) (hf : Fld K q L get set) (hT : TyOk P T L) (hd : d < B.N) :
    Loc P B Γ Δ ⟨some d, .load T o, t, p, af, none⟩ ⟨d, L.v, get x⟩ Δ :=
  loc_val hd fun _ I a w hs s => by
    have he : a.eval o = .pointer (some ⟨b, q, none⟩) := h.ok hs s
    obtain ⟨f, ⟨_, cs, hr, hg⟩, _⟩ := ws_upd hi s.ws
    obtain ⟨c, d', e', rfl, hl, hr'⟩ := hf.get hr
    have hc : CellsAt w b q d' := CellsAt.block hg (by intro j v hj; subst hl; simp; rw [List.getElem?_append_right (by omega)]; simp; rw [List.getElem?_append_left (List.getElem?_eq_some_iff.1 hj).1]; exact hj)
    exact ⟨pack L.agg d', by simp [execOp, he, Instr.loadAt, Instr.sureAddr, run_loadVar' hT hr' hc], d', hr', rfl⟩
theorem r_stm {ops l} {T : TypeId} {o o' : Operand} {b q i : Nat} {e : TypeId} {α β : Type} {K : Kd α} {L : Kd β} {get set} {x : α} {y : β} (h : Opd Γ o vLoc (b, q)) (h' : Opd Γ o' L.v y) (hi : Δ[i]? = some (rBox b e K x)) (hf : Fld K q L get set) (hn : tySize P T = some L.n)
    (k : RL P B ops Γ (Δ.set i (rBox b e K (set y x))) l Q) : RL P B ops Γ Δ (⟨none, .store T o o', t, p, af, none⟩ :: l) Q := by
  intro I a w s
  have he : a.eval o = .pointer (some ⟨b, q, none⟩) := h.ok (Sub.refl _) s
  obtain ⟨ys, hy, hv⟩ := h'.ok (Sub.refl _) s
  obtain ⟨f, ⟨hfb, cs, hr, hg⟩, hI, hF, up⟩ := ws_upd hi s.ws
  obtain ⟨c, d', e', rfl, hl, hr'⟩ := hf.get hr
  have hd' := L.len hr'
  have hly := L.len hy
  have hst := storeVar_run (w := w) (w0 := w) (e := e) (cur := (c ++ (d' ++ e')).toArray) (b := b) hn hy hv hg q (by simp; omega)
  have hput := hf.put hr rfl hl hd' hy
  have hcells : ((c ++ (d' ++ e')).toArray.toList.take q ++ ys ++ (c ++ (d' ++ e')).toArray.toList.drop (q + ys.length)) = c ++ (ys ++ e') := by
    have h1 : (c ++ (d' ++ e')).take q = c := by rw [← hl]; simp
    have h2 : (c ++ (d' ++ e')).drop (q + ys.length) = e' := by rw [← hl, hly, ← hd']; simp [← List.drop_drop]
    simp only [h1, h2]; simp
  rw [hcells] at hst
  have fr := fr_setRow (w := w) b (c ++ (ys ++ e')).toArray ((hfb b).2 rfl) hI hF
  have g := fr.grow hI (fun b hb => (hF b hb).1)
  obtain ⟨_, hw⟩ := up (rBox b e K (set y x)) _ _ _ fr ⟨hfb, _, K.mono g hput, setRow_heap w b _ _ e _ hg⟩
  refine wpList_plain rfl fun K1 hK1 => ?_
  unfold Oper.wp
  have : (execOp a.eval ⟨none, .store T o o', t, p, af, none⟩).run P w = .ok .skip (w.setRow b (c ++ (ys ++ e')).toArray) := by
    simp only [execOp, he, Instr.storeAt, Instr.sureAddr, Sem.run_bind, Sem.run_pure, Result.andThen_ok, hst]
  rw [this, Oper.upon_skip]
  exact hK1 _ _ (k _ _ _ (s.step g hw))
/-- A variable that is written no more. -/
theorem r_frzb {ops l} {s i : Nat} {b : Nat} {e : TypeId} {α : Type} {K : Kd α} {x : α} (hs : look Γ s = some ⟨s, vLoc, (b, 0)⟩) (hi : Δ[i]? = some (rBox b e K x)) (k : RL P B ops (⟨s, vPtr K, x⟩ :: Γ) (Δ.set i rEmp) l Q) : RL P B ops Γ Δ l Q := by
  intro I a w st
  obtain ⟨f, ⟨hfb, cs, hr, hg⟩, hI, hF, up⟩ := ws_upd hi st.ws
  have fr := fr_free hI hF
  obtain ⟨g, hw⟩ := up rEmp _ _ _ fr (fun _ h => h)
  have st2 := st.step g hw
  refine k _ _ _ ⟨st2.size, st2.defs, fun s' e' he => ?_, st2.ws⟩
  simp only [look] at he
  by_cases h2 : s = s'
  · subst h2
    simp at he; subst he
    obtain ⟨v, hv, hp⟩ := st.env s _ hs
    exact ⟨v, hv, vPtr_iff.2 ⟨b, 0, hp, .inr ((hfb b).2 rfl), cs, K.mono g hr, CellsAt.block hg (by intro j v hj; simpa using hj)⟩⟩
  · rw [beq_ne h2] at he
    exact st2.env s' e' he

/-! rows that grow -/
/-- A slice of one's own: its elements. -/
def rArr (v : Value) (e : TypeId) {α : Type} (K : Kd α) (xs : List α) : Rs where
  P I w f := (∀ c, f c ↔ v.ownBlock = some c) ∧ ∃ cs, Flat K I w cs xs ∧ w.ownsRow 0 e K.n v xs.length cs
  mono {I w J u f} g hf := fun ⟨h1, cs, h2, h3, h4⟩ => ⟨h1, cs, h2.mono g, h3, by
    rcases h4 with h4 | ⟨gb, cap, cur, e1, e2, e3, e4⟩
    · exact .inl h4
    · refine .inr ⟨gb, cap, cur, e1, e2, (hf gb ((h1 gb).2 (by rw [e1]; rfl))).trans e3, e4⟩⟩

def mkFits (bytes : Nat) (n : Int) : Bool := decide (0 ≤ n) && decide (n * bytes ≤ 140737488355328) && decide (n ≤ 140737488355328)
def appFits (bytes n m : Nat) : Bool := decide ((n + m) * bytes ≤ 140737488355328) && decide (n + m ≤ 140737488355328)
structure ElOk (P : Program) (T e : TypeId) {α : Type} (K : Kd α) (bytes : Nat) : Prop where
  ok : ∃ i z, P.underlying T = some (.slice e) ∧ P.info? e = some i ∧ i.zero = some z ∧ i.size = K.n ∧ i.bytes = bytes ∧ z.cells.size = K.n ∧ 0 < K.n
def elB (P : Program) (T e n bytes : Nat) : Bool :=
  isSlice P T e && match P.info? e with
    | some i => (match i.zero with | some z => z.cells.size == n | none => false) && i.size == n && i.bytes == bytes && Nat.blt 0 n
    | none => false
theorem elOk {P : Program} {T e bytes : Nat} {α : Type} {K : Kd α} (h : elB P T e K.n bytes = true) : ElOk P T e K bytes := by
  unfold elB at h
  simp only [Bool.and_eq_true] at h
  obtain ⟨h1, h2⟩ := h
  cases hi : P.info? e with
  | none => simp [hi] at h2
  | some i =>
    cases hz : i.zero with
    | none => simp [hi, hz] at h2
    | some z =>
      simp only [hi, hz, Bool.and_eq_true, beq_iff_eq] at h2
      exact ⟨i, z, isSlice_eq h1, hi, hz, h2.1.1.2, h2.1.2, h2.1.1.1, lt h2.2⟩

theorem fr_grown {I : ISet} {w u : World} {f f' : ISet} {row : Option Nat} (hg : w.grownBy u row) (hr : ∀ b, row = some b → f b) (hf' : ∀ b, f' b → (f b ∨ w.heap.size ≤ b) ∧ b < u.heap.size)
    (hI : ∀ b, I b → b < w.heap.size) (hf : ∀ b, f b → ¬ I b ∧ b < w.heap.size) : Fr I w f I u f' where
  os := hg.os
  tape := hg.tape
  output := hg.output
  le := hg.size
  sub _ h := h
  same b hb hn := hg.block b hb (fun e => hn (hr b e.symm))
  only _ h := .inl h
  fp b hb := (hf' b hb).1
  lt b hb := Nat.lt_of_lt_of_le (hI b hb) hg.size
  gl b hb := ⟨fun hi => by
    rcases (hf' b hb).1 with h | h
    · exact (hf b h).1 hi
    · have := hI b hi; omega, (hf' b hb).2⟩

/-- 'make([]T, 0, n)'. -/
theorem r_mk0 {ops l} {T e bytes : Nat} {o o' : Operand} {n : Int} {α : Type} {K : Kd α} (hT : ElOk P T e K bytes) (h0 : Opd Γ o (vInt .i64) 0) (h : Opd Γ o' (vInt .i64) n) (hn : mkFits bytes n = true) (hd : d < B.N)
    (k : ∀ v, RL P B ops (⟨d, kVal.v, v⟩ :: Γ) (Δ ++ [rArr v e K []]) l Q) : RL P B ops Γ Δ (⟨some d, .makeSlice T o o', t, p, af, none⟩ :: l) Q := by
  intro I a w s
  obtain ⟨i, z, hu, hi, hz, hs, hb, hzs, hp⟩ := hT.ok
  have e0 := vInt_iff.1 (h0.ok (Sub.refl _) s)
  have e1 := vInt_iff.1 (h.ok (Sub.refl _) s)
  simp only [mkFits, Bool.and_eq_true, decide_eq_true_eq] at hn
  obtain ⟨⟨hn0, hn1⟩, hn2⟩ := hn
  obtain ⟨m, rfl⟩ := Int.eq_ofNat_of_zero_le hn0
  have hb' : i.bytes * m ≤ 281474976710656 := by
    rw [hb]
    have : ((bytes * m : Nat) : Int) ≤ 281474976710656 := by rw [Int.natCast_mul, Int.mul_comm]; omega
    omega
  obtain ⟨u, hr, hown, hg⟩ := run_make_own (P := P) w 0 T e i z K.n hu hi hz hs .i64 .i64 m hb' (by simp only [maxLen]; omega) (Nat.zero_le _)
  obtain ⟨F, _, hF⟩ := s.ws
  have hlt : w.heap.size < u.heap.size := (hown.lt _ (by rfl : Value.ownBlock (.slice (some ⟨w.heap.size, 0, none⟩) 0 m) = some w.heap.size)).2
  have fr := fr_grown (f := fun _ => False) (f' := fun b => b = w.heap.size) hg (by simp) (fun b hb => by subst hb; exact ⟨.inr (Nat.le_refl _), hlt⟩) hF.lt (fun _ h => h.elim)
  obtain ⟨g, hw⟩ := ws_add s.ws (r' := rArr (.slice (some ⟨w.heap.size, 0, none⟩) 0 m) e K []) fr ⟨fun c => by simp [Value.ownBlock]; exact eq_comm, [], rfl, hown⟩
  refine wpList_plain rfl fun K1 hK1 => ?_
  unfold Oper.wp
  have : (execOp a.eval ⟨some d, .makeSlice T o o', t, p, af, none⟩).run P w = .ok (.value (.slice (some ⟨w.heap.size, 0, none⟩) 0 m)) u := by
    simp only [execOp, e0, e1, Sem.run_bind, hr, Result.andThen_ok, Sem.run_pure]
  rw [this, Oper.upon_value]
  exact hK1 _ _ (k _ _ _ _ (s.put g hw hd (kVal_iff.2 ⟨rfl, rfl⟩)))

theorem SliceR.cells {α : Type} {K : Kd α} {I w v} {xs : List α} (h : SliceR K I w v xs) : ∃ A c, v = .slice A xs.length c ∧ (xs ≠ [] → ∃ ad news, A = some ad ∧ Flat K I w news xs ∧ ∀ j u, news[j]? = some u → w.cell? (ad.add j) = some u) := by
  obtain ⟨A, c, rfl, hc, hm, hE⟩ := h
  refine ⟨A, c, rfl, fun hn => ?_⟩
  obtain ⟨b, o, rfl, hel⟩ := hE hn
  obtain ⟨news, hf, hcs⟩ := hel.flat
  exact ⟨_, news, rfl, hf, fun j u hj => by rw [add_eq]; exact hcs j u hj⟩

/-- 'append(xs, ys...)' of one's own row; ys is not empty. -/
theorem r_app {ops l} {T T' e bytes i : Nat} {o o' : Operand} {v : Value} {α : Type} {K : Kd α} {xs ys : List α} (hT : ElOk P T e K bytes) (hTT : T' = T) (h : Opd Γ o kVal.v v) (h' : Opd Γ o' (vSlice K) ys) (hi : Δ[i]? = some (rArr v e K xs))
    (hy : ys ≠ []) (hn : appFits bytes xs.length ys.length = true) (hd : d < B.N)
    (k : ∀ v', RL P B ops (⟨d, kVal.v, v'⟩ :: Γ) (Δ.set i (rArr v' e K (xs ++ ys))) l Q) :
    RL P B ops Γ Δ (⟨some d, .call { callee := .builtin .append, args := #[o, o'], argTypes := #[T, T'] }, t, p, af, none⟩ :: l) Q := by
  subst hTT
  intro I a w s
  obtain ⟨ti, z, hu, hti, hz, hs, hb, hzs, hp⟩ := hT.ok
  have e0 := (kVal_iff.1 (h.ok (Sub.refl _) s)).1
  obtain ⟨A, c, e1, hA⟩ := (vSlice_iff.1 (h'.ok (Sub.refl _) s)).cells
  obtain ⟨ad, news, rfl, hfl, hcs⟩ := hA hy
  obtain ⟨f, ⟨hfb, olds, hold, hown⟩, hI, hF, up⟩ := ws_upd hi s.ws
  simp only [appFits, Bool.and_eq_true, decide_eq_true_eq] at hn
  have hl : news.length = ys.length * K.n := hfl.len
  obtain ⟨v', u, hr, hown', hg, hnil⟩ := run_append_own (P := P) w 0 T' t e ti z K.n bytes hu hti hz hs hb hzs hp v xs.length olds hown ad ys.length c news hl hcs hfl.one (by simp only [maxLen]; omega) hn.1 (Nat.zero_le _)
  have hblk : v'.ownBlock = v.ownBlock ∨ v'.ownBlock = some w.heap.size := by
    rcases hown.2 with ⟨rfl, hx⟩ | ⟨g, cap, cur, rfl, hbg, hg', hnc, hcm, hcs', htake⟩
    · have hlen : 0 < ys.length := List.length_pos_iff.2 hy
      have r2 := run_append_nil (P := P) w T' t e ti z hu hti hz ad ys.length c news (by rw [hl, hs]) hcs hlen (by omega) (by rw [hb]; have := hn.1; rw [hx, Nat.zero_add] at this; omega)
      rw [hr] at r2
      obtain ⟨rfl, _⟩ := Result.ok.inj r2
      exact .inr rfl
    · by_cases hroom : xs.length + ys.length ≤ cap
      · have r2 := run_append_room (P := P) w T' t e ti hu hti g xs.length cap cur hg' ad ys.length c news (by rw [hl, hs]) hcs hfl.one hroom (by rw [hl, hcs', hs, ← Nat.add_mul]; exact Nat.mul_le_mul_right _ hroom)
        rw [hr] at r2
        obtain ⟨rfl, _⟩ := Result.ok.inj r2
        exact .inl rfl
      · have holds : ∀ j u, olds[j]? = some u → w.cell? ((⟨g, 0, none⟩ : Addr).add j) = some u := hown.cells (g := g) rfl
        have r2 := run_append_grow (P := P) w T' t e ti z hu hti hz ⟨g, 0, none⟩ xs.length cap olds (by rw [hs]; exact hown.1) holds ad ys.length c news (by rw [hl, hs]) hcs (by omega) (by omega) (growslice_fits (by omega) (by rw [hb]; exact hn.1))
        rw [hr] at r2
        obtain ⟨rfl, _⟩ := Result.ok.inj r2
        exact .inr rfl
  have fr := fr_grown (f := f) (f' := fun b => v'.ownBlock = some b) hg (fun b hb => (hfb b).2 hb) (fun b hb => ⟨by
    rcases hblk with h | h
    · exact .inl ((hfb b).2 (by rw [← h]; exact hb))
    · rw [h] at hb; cases hb; exact .inr (Nat.le_refl _), (hown'.lt b hb).2⟩) hI hF
  have g := fr.grow hI (fun b hb => (hF b hb).1)
  obtain ⟨_, hw⟩ := up (rArr v' e K (xs ++ ys)) _ _ _ fr ⟨fun _ => Iff.rfl, olds ++ news, (hold.mono g).append (hfl.mono g), by rw [List.length_append]; exact hown'⟩
  refine wpList_plain rfl fun K1 hK1 => ?_
  unfold Oper.wp
  have : (execOp a.eval ⟨some d, .call { callee := .builtin .append, args := #[o, o'], argTypes := #[T', T'] }, t, p, af, none⟩).run P w = .ok (.value v') u := by
    simp [execOp, resolve, invoke, builtin, e0, e1, hr]
  rw [this, Oper.upon_value]
  refine hK1 _ _ (k _ _ _ _ (s.put g hw hd (kVal_iff.2 ⟨rfl, ?_⟩)))
  rcases hown'.2 with ⟨rfl, _⟩ | ⟨_, _, _, rfl, _⟩ <;> rfl

/-- One's own row is given to all. -/
theorem arr_free {I : ISet} {w : World} {f : ISet} {v : Value} {e : TypeId} {α : Type} {K : Kd α} {xs : List α} {J : ISet} {u : World} (h : (rArr v e K xs).P I w f) (g : Grow I w J u) (hs : ∀ b, f b → u.heap[b]? = w.heap[b]?) (hJ : ∀ b, f b → J b) : SliceR K J u v xs := by
  obtain ⟨hfb, cs, hfl, hlen, hown⟩ := h
  rcases hown with ⟨rfl, hx⟩ | ⟨gb, cap, cur, rfl, hbg, hg', hnc, hcm, hcs', htake⟩
  · have : xs = [] := List.length_eq_zero_iff.1 hx
    subst this
    exact ⟨none, 0, rfl, by simp, by simp, fun h => absurd rfl h⟩
  · refine ⟨_, cap, rfl, hnc, by simp only [maxLen] at hcm; omega, fun _ => ⟨gb, 0, rfl, (hfl.mono g).elems (hJ _ ((hfb gb).2 rfl)) (CellsAt.block (c := cur) (e := e) (fr := (0, 0)) ((hs gb ((hfb gb).2 rfl)).trans hg') (fun j v hj => ?_))⟩⟩
    rw [← htake, List.getElem?_take] at hj
    split at hj
    · simpa using hj
    · cases hj
theorem x_frz {s i : Nat} {v : Value} {e : TypeId} {α : Type} {K : Kd α} {xs : List α} {I : ISet} {a : Act} {w : World} (hs : look Γ s = some ⟨s, kVal.v, v⟩) (hi : Δ[i]? = some (rArr v e K xs)) (st : St B Γ Δ I a w) : ∃ J, St B (⟨s, vSlice K, xs⟩ :: Γ) (Δ.set i rEmp) J a w := by
  obtain ⟨f, hr, hI, hF, up⟩ := ws_upd hi st.ws
  have fr := fr_free hI hF
  obtain ⟨g, hw⟩ := up rEmp _ _ _ fr (fun _ h => h)
  have st2 := st.step g hw
  refine ⟨_, st2.size, st2.defs, fun s' e' he => ?_, st2.ws⟩
  simp only [look] at he
  by_cases h2 : s = s'
  · subst h2
    simp at he; subst he
    obtain ⟨u, hu, hp⟩ := st.env s _ hs
    have := (kVal_iff.1 hp).1
    subst this
    exact ⟨_, hu, vSlice_iff.2 (arr_free hr g (fun _ _ => rfl) (fun b hb => .inr hb))⟩
  · rw [beq_ne h2] at he
    exact st2.env s' e' he
theorem r_frz {ops l} {s i : Nat} {v : Value} {e : TypeId} {α : Type} {K : Kd α} {xs : List α} (hs : look Γ s = some ⟨s, kVal.v, v⟩) (hi : Δ[i]? = some (rArr v e K xs)) (k : RL P B ops (⟨s, vSlice K, xs⟩ :: Γ) (Δ.set i rEmp) l Q) : RL P B ops Γ Δ l Q :=
  fun I a w st => let ⟨J, h⟩ := x_frz hs hi st; k J a w h
theorem k_frz {s i : Nat} {v : Value} {e : TypeId} {α : Type} {K : Kd α} {xs : List α} {ex : Exit} (hs : look Γ s = some ⟨s, kVal.v, v⟩) (hi : Δ[i]? = some (rArr v e K xs)) (k : Kx B (⟨s, vSlice K, xs⟩ :: Γ) (Δ.set i rEmp) Q ex) : Kx B Γ Δ Q ex :=
  fun I a w st => let ⟨J, h⟩ := x_frz hs hi st; k J a w h
theorem t_frz {c} {s i : Nat} {v : Value} {e : TypeId} {α : Type} {K : Kd α} {xs : List α} (hs : look Γ s = some ⟨s, kVal.v, v⟩) (hi : Δ[i]? = some (rArr v e K xs)) (k : Tr P B (⟨s, vSlice K, xs⟩ :: Γ) (Δ.set i rEmp) c Q) : Tr P B Γ Δ c Q :=
  fun I a w st => let ⟨J, h⟩ := x_frz hs hi st; k J a w h

/-- What one owns at the end, and no one asks for. -/
theorem k_drop {ex : Exit} (k : Kx B Γ [] Q ex) : Kx B Γ Δ Q ex := by
  intro I a w st
  obtain ⟨F, hS, hF⟩ := st.ws
  refine k (fun b => I b ∨ F b) a w (st.step ((fr_free hF.lt hF.gl).grow hF.lt (fun b hb => (hF.gl b hb).1)) ⟨fun _ => False, fun _ h => h, hF.trans (fr_free hF.lt hF.gl)⟩)
/-- The nil slice as one's own row. -/
theorem r_nilo {ops l} {op : Op} {e : TypeId} {α : Type} {K : Kd α} (ho : op = .assign (.const (.slice none 0 0)) ∨ op = .move (.const (.slice none 0 0))) (hd : d < B.N) (k : RL P B ops (⟨d, kVal.v, .slice none 0 0⟩ :: Γ) (Δ ++ [rArr (.slice none 0 0) e K []]) l Q) :
    RL P B ops Γ Δ (⟨some d, op, t, p, af, none⟩ :: l) Q := by
  intro I a w s
  obtain ⟨F, _, hF⟩ := s.ws
  have fr : Fr I w (fun _ => False) I w (fun _ => False) := Fr.refl hF.lt (fun _ h => h.elim)
  obtain ⟨g, hw⟩ := ws_add s.ws (r' := rArr (.slice none 0 0) e K []) fr ⟨fun c => by simp [Value.ownBlock], [], rfl, World.ownsRow_nil w 0 e K.n⟩
  refine wpList_plain rfl fun K1 hK1 => ?_
  unfold Oper.wp
  have : (execOp a.eval ⟨some d, op, t, p, af, none⟩).run P w = .ok (.value (.slice none 0 0)) w := by rcases ho with rfl | rfl <;> simp [execOp, Act.eval]
  rw [this, Oper.upon_value]
  exact hK1 _ _ (k _ _ _ (s.put g hw hd (kVal_iff.2 ⟨rfl, rfl⟩)))
theorem l_leno {T e e' i : Nat} {o : Operand} {v : Value} {α : Type} {K : Kd α} {xs : List α} (h : Opd Γ o kVal.v v) (hi : Δ[i]? = some (rArr v e K xs)) (hT : isSlice P T e' = true) (hd : d < B.N) :
    Loc P B Γ Δ ⟨some d, .call { callee := .builtin .len, args := #[o], argTypes := #[T] }, t, p, af, none⟩ ⟨d, vInt .i64, (xs.length : Int)⟩ Δ :=
  loc_val hd fun _ I a w hs s => by
    have he := (kVal_iff.1 (h.ok hs s)).1
    obtain ⟨f, ⟨_, cs, _, _, hown⟩, _⟩ := ws_upd hi s.ws
    refine ⟨.int .i64 xs.length, ?_, vInt_iff.2 rfl⟩
    rcases hown with ⟨rfl, hx⟩ | ⟨g, cap, cur, rfl, _⟩
    · simp [execOp, resolve, invoke, builtin, Builtin.len_, he, run_underlying (isSlice_eq hT), goInt, hx]
    · simp [execOp, resolve, invoke, builtin, Builtin.len_, he, run_underlying (isSlice_eq hT), goInt]
end
end Go.Pm
namespace Go.Pm
open Go Go.RowKit
section
variable {P : Program} {B : Base} {Γ Γ' : List Ent} {Δ Δ' : List Rs} {Q : Exit → Act → World → Prop}
/-- What was made on the way is let go of. -/
theorem k_take {ex : Exit} (n : Nat) (k : Kx B Γ (Δ.take n) Q ex) : Kx B Γ Δ Q ex := by
  intro I a w st
  obtain ⟨F, hS, hF⟩ := st.ws
  rw [← List.take_append_drop n Δ] at hS
  obtain ⟨F1, F2, he, hd, h1, h2⟩ := Sep.append.1 hS
  have fr : Fr I w F (fun b => I b ∨ F2 b) w F1 := {
    os := rfl, tape := rfl, output := rfl, le := Nat.le_refl _, sub := fun _ h => .inl h, same := fun _ _ _ => rfl,
    only := fun b h => h.elim .inl (fun h => .inr (.inl ((he b).2 (.inr h)))), fp := fun b h => .inl ((he b).2 (.inl h)),
    lt := fun b h => h.elim (hF.lt b) (fun h => (hF.gl b ((he b).2 (.inr h))).2),
    gl := fun b h => ⟨fun h' => h'.elim (hF.gl b ((he b).2 (.inl h))).1 (hd b h), (hF.gl b ((he b).2 (.inl h))).2⟩ }
  have g : Grow I w (fun b => I b ∨ F2 b) w := ⟨Nat.le_refl _, fun _ h => .inl h, fun _ _ => rfl⟩
  exact k _ a w (st.step g ⟨F1, h1.mono g (fun _ _ => rfl), hF.trans fr⟩)
end
end Go.Pm
