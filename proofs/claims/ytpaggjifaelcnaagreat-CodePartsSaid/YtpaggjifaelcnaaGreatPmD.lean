import Derived.Test.YtpaggjifaelcnaaGreatPmC
/-
  PM, part D: structs and lists that are written out.
-/
set_option linter.unusedVariables false
set_option linter.unusedSimpArgs false
namespace Go.Pm
open Go Go.RowKit

theorem foldl_set : ∀ (vs d c e : List Value) (i : Nat) (cells : Array Value) (off : Nat), cells = (c ++ (d ++ e)).toArray → c.length = off + i → d.length = vs.length →
    (vs.zipIdx i).foldl (fun cs (x : Value × Nat) => cs.setIfInBounds (off + x.2) x.1) cells = (c ++ (vs ++ e)).toArray
  | [], d, c, e, i, cells, off, hc, hl, hd => by
    obtain rfl := List.length_eq_zero_iff.1 hd
    simp [hc]
  | v :: vs, d, c, e, i, cells, off, hc, hl, hd => by
    obtain ⟨u, d, rfl⟩ : ∃ u d', d = u :: d' := by cases d with | nil => simp at hd | cons u d' => exact ⟨u, d', rfl⟩
    have ih := foldl_set vs d (c ++ [v]) e (i + 1) (cells.setIfInBounds (off + i) v) off (by subst hc; simp [← hl]) (by simp [hl]; omega) (by simpa using hd)
    rw [List.zipIdx_cons, List.foldl_cons, ih]; simp

theorem fill_cons {place : Nat → Option (Nat × Nat)} {i off : Nat} {v : Value} {vs c d e : List Value} {rest : List (Nat × Value)} (hp : place i = some (off, vs.length)) (hv : v.cells = vs.toArray) (hc : c.length = off) (hd : d.length = vs.length) :
    Instr.fill place (c ++ (d ++ e)).toArray ((i, v) :: rest) = Instr.fill place (c ++ (vs ++ e)).toArray rest := by
  simp only [Instr.fill, hp, hv]
  rw [if_neg (by simp; omega), ← Array.foldl_toList, Array.toList_zipIdx, foldl_set vs d c e 0 _ off rfl (by simpa using hc) hd]

section rules
variable {P : Program} {B : Base} {Γ Γ' : List Ent} {Δ Δ' : List Rs} {Q : Exit → Act → World → Prop}
variable {d : Nat} {t : TypeId} {p : String} {af : Array Edge}

inductive Parts (P : Program) (Γ : List Ent) (T : TypeId) {α : Type} (K : Kd α) : List (Nat × Operand) → α → α → Prop
  | nil {z} : Parts P Γ T K [] z z
  | cons {i o ps z r off} {β : Type} {L : Kd β} {get set} {y : β} (h : Opd Γ o L.v y) (hf : Fld K off L get set) (hT : fldT P T i off L.n L.agg = true) (k : Parts P Γ T K ps (set y z) r) : Parts P Γ T K ((i, o) :: ps) z r

def structB (P : Program) (T : TypeId) : Bool :=
  match P.underlying T with
  | some (.struct fs) => fs.toList.all fun f => (tySize P f.type).isSome
  | _ => false
def places (P : Program) (T : TypeId) : Array (Nat × Nat) :=
  match P.underlying T with
  | some (.struct fs) => (fs.toList.map fun f => (f.offset, (tySize P f.type).getD 0)).toArray
  | _ => #[]
theorem mapM_run {w : World} : ∀ (l : List Field), (l.all fun f => (tySize P f.type).isSome) = true →
    (l.mapM fun f => (do pure (f.offset, ← sizeOf f.type) : Sem (Nat × Nat))).run P w = .ok (l.map fun f => (f.offset, (tySize P f.type).getD 0)) w
  | [], _ => by simp
  | f :: l, h => by
    simp only [List.all_cons, Bool.and_eq_true] at h
    obtain ⟨n, hn⟩ := Option.isSome_iff_exists.1 h.1
    simp only [List.mapM_cons, Sem.run_bind, run_sizeOf' hn, Result.andThen_ok, Sem.run_pure, mapM_run l h.2, List.map_cons, hn, Option.getD_some]
theorem places_of {T i off n agg} (h : fldT P T i off n agg = true) : (places P T)[i]? = some (off, n) := by
  unfold fldT at h; unfold places
  cases hu : P.underlying T with
  | none => simp [hu] at h
  | some ds =>
    cases ds with
    | struct fs =>
      cases hg : fs[i]? with
      | none => simp [hu, hg] at h
      | some f =>
        simp only [hu, hg, Bool.and_eq_true, beq_iff_eq] at h
        obtain ⟨⟨rfl, h1⟩, h2⟩ := h
        have : fs.toList[i]? = some f := by simpa using hg
        simp [this, h1]
    | _ => simp [hu] at h

theorem fill_parts {I w a} {T : TypeId} {α : Type} {K : Kd α} {ps : List (Nat × Operand)} {z r : α} (hp : Parts P Γ T K ps z r) {Γ'} (hs : Sub Γ Γ') (s : St B Γ' Δ I a w) :
    ∀ {cs : List Value}, K.R I w cs z → ∃ ds : List Value, Instr.fill ((places P T)[·]?) cs.toArray (ps.map fun (i, x) => (i, a.eval x)) = some ds.toArray ∧ K.R I w ds r := by
  induction hp with
  | nil => exact fun {cs} h => ⟨cs, rfl, h⟩
  | @cons i o ps z r off β L get set y h hf hT k ih =>
    intro cs hz
    obtain ⟨vs, hy, he⟩ := h.ok hs s
    obtain ⟨c, d, e, rfl, hc, hd⟩ := hf.get hz
    have hl := L.len hy
    have hv : (a.eval o).cells = vs.toArray := by rw [he]; exact pack_cells L hy
    obtain ⟨ds, h1, h2⟩ := ih (hf.put hz rfl hc (L.len hd) hy)
    refine ⟨ds, ?_, h2⟩
    rw [← h1]
    exact fill_cons (by rw [hl]; exact places_of hT) hv hc (by rw [L.len hd, hl])

theorem l_build {T : TypeId} {ps : List (Nat × Operand)} {α : Type} {K : Kd α} {z r : α} (hz : ZeroOk P T K z) (hp : Parts P Γ T K ps z r) (ha : K.agg = true) (hT : structB P T = true) (hd : d < B.N) :
    Loc P B Γ Δ ⟨some d, .build T ps.toArray, t, p, af, none⟩ ⟨d, K.v, r⟩ Δ :=
  loc_val hd fun Γ' I a w hs s => by
    obtain ⟨cs, h1, h2⟩ := zero_run (w := w) hz
    obtain ⟨ds, hf, hr⟩ := fill_parts hp hs s (h2 I w)
    refine ⟨.agg ds.toArray, ?_, ds, hr, by simp [pack, ha]⟩
    have hT' := hT
    unfold structB at hT'
    cases hu : P.underlying T with
    | none => simp [hu] at hT'
    | some dd =>
      cases dd with
      | struct fs =>
        simp only [hu] at hT'
        have hm := mapM_run (w := w) fs.toList hT'
        have hpl : places P T = (fs.toList.map fun f => (f.offset, (tySize P f.type).getD 0)).toArray := by simp [places, hu]
        have hmm : (fs.mapM fun f => (do pure (f.offset, ← sizeOf f.type) : Sem (Nat × Nat))).run P w = .ok (places P T) w := by
          rw [hpl, Array.mapM_eq_mapM_toList]
          simp only [Sem.run_map, hm, Result.andThen_ok]
        have hc : (pack K.agg cs).cells = cs.toArray := pack_cells K (h2 I w)
        have hmap : (Array.map (fun x : Nat × Operand => (x.1, a.eval x.2)) ps.toArray).toList = ps.map fun (i, x) => (i, a.eval x) := by simp
        simp only [execOp, Instr.build, Sem.run_bind, h1, Result.andThen_ok, run_underlying hu, hmm, hc, hmap, hf, Sem.run_pure]
      | _ => simp [hu] at hT'

/-! a list that is written out: all its elements, in order -/
inductive Items (Γ : List Ent) {α : Type} (K : Kd α) : Nat → List (Nat × Operand) → List α → Prop
  | nil {n} : Items Γ K n [] []
  | cons {n o ps x xs} (h : Opd Γ o K.v x) (k : Items Γ K (n + 1) ps xs) : Items Γ K n ((n, o) :: ps) (x :: xs)

def Flat {α : Type} (K : Kd α) (I : ISet) (w : World) : List Value → List α → Prop
  | cs, [] => cs = []
  | cs, x :: xs => ∃ c d, cs = c ++ d ∧ K.R I w c x ∧ Flat K I w d xs
theorem Flat.len {α : Type} {K : Kd α} {I w} : ∀ {xs : List α} {cs}, Flat K I w cs xs → cs.length = xs.length * K.n
  | [], _, h => by cases h; simp
  | x :: xs, _, ⟨c, d, e, h, k⟩ => by subst e; simp [K.len h, Flat.len k, Nat.add_mul, Nat.add_comm]
theorem Flat.one {α : Type} {K : Kd α} {I w} : ∀ {xs : List α} {cs}, Flat K I w cs xs → ∀ u ∈ cs, u.oneCell' = true
  | [], _, h => by cases h; simp
  | x :: xs, _, ⟨c, d, e, h, k⟩ => by
    subst e; intro u hu
    rcases List.mem_append.1 hu with hu | hu
    · exact K.one h u hu
    · exact Flat.one k u hu
theorem Flat.mono {α : Type} {K : Kd α} {I w J u} (g : Grow I w J u) : ∀ {xs : List α} {cs}, Flat K I w cs xs → Flat K J u cs xs
  | [], _, h => h
  | x :: xs, _, ⟨c, d, e, h, k⟩ => ⟨c, d, e, K.mono g h, Flat.mono g k⟩
theorem Flat.append {α : Type} {K : Kd α} {I w} : ∀ {xs ys : List α} {cs ds}, Flat K I w cs xs → Flat K I w ds ys → Flat K I w (cs ++ ds) (xs ++ ys)
  | [], ys, _, ds, h, k => by cases h; simpa using k
  | x :: xs, ys, _, ds, ⟨c, d, e, h, h'⟩, k => by subst e; exact ⟨c, d ++ ds, by simp, h, Flat.append h' k⟩
theorem Flat.get {α : Type} {K : Kd α} {I w} : ∀ {xs : List α} {cs} {i : Nat} {x : α}, Flat K I w cs xs → xs[i]? = some x → ∃ c d e, cs = c ++ (d ++ e) ∧ c.length = i * K.n ∧ K.R I w d x
  | [], _, i, x, _, h => by simp at h
  | y :: ys, _, 0, x, ⟨c, d, e, h, k⟩, hx => by simp at hx; subst hx; exact ⟨[], c, d, by simp [e], by simp, h⟩
  | y :: ys, _, i + 1, x, ⟨c, d, e, h, k⟩, hx => by
    obtain ⟨c', d', e', he, hl, hr⟩ := Flat.get k (by simpa using hx)
    exact ⟨c ++ c', d', e', by simp [e, he], by simp [hl, K.len h, Nat.add_mul, Nat.add_comm], hr⟩
theorem Flat.elems {α : Type} {K : Kd α} {I w} {xs : List α} {cs} (h : Flat K I w cs xs) {b o : Nat} (hb : I b) (hc : CellsAt w b o cs) : Elems K I w b o xs := by
  intro i x hx
  obtain ⟨c, d, e, rfl, hl, hr⟩ := h.get hx
  have := hc.append.2.append.1
  rw [hl] at this
  exact ⟨hb, d, hr, this⟩
theorem Elems.flat {α : Type} {K : Kd α} {I w} : ∀ {xs : List α} {b o : Nat}, Elems K I w b o xs → ∃ cs, Flat K I w cs xs ∧ CellsAt w b o cs
  | [], b, o, _ => ⟨[], rfl, fun j v h => by simp at h⟩
  | x :: xs, b, o, h => by
    obtain ⟨_, c, hr, hc⟩ := h 0 x rfl
    obtain ⟨d, hd, hcd⟩ := Elems.flat (xs := xs) (b := b) (o := o + K.n) (fun i y hy => by have := h (i + 1) y (by simpa using hy); rwa [Nat.add_mul, Nat.one_mul, Nat.add_comm (i * K.n), ← Nat.add_assoc] at this)
    refine ⟨c ++ d, ⟨c, d, rfl, hr, hd⟩, CellsAt.mk (by simpa using hc) (by rwa [K.len hr])⟩

theorem fill_items {I w a} {α : Type} {K : Kd α} {Γ'} (hs : Sub Γ Γ') (s : St B Γ' Δ I a w) {n : Nat} {ps : List (Nat × Operand)} {xs : List α} (hp : Items Γ K n ps xs) :
    ∀ {c d : List Value}, c.length = n * K.n → d.length = xs.length * K.n →
      ∃ ds : List Value, Instr.fill (fun i => some (i * K.n, K.n)) (c ++ d).toArray (ps.map fun (i, x) => (i, a.eval x)) = some (c ++ ds).toArray ∧ Flat K I w ds xs := by
  induction hp with
  | nil => intro c d hc hd; simp at hd; subst hd; exact ⟨[], by simp [Instr.fill], rfl⟩
  | @cons n o ps x xs h k ih =>
    intro c d hc hd
    obtain ⟨vs, hy, he⟩ := h.ok hs s
    have hl := K.len hy
    have hv : (a.eval o).cells = vs.toArray := by rw [he]; exact pack_cells K hy
    have hd' : K.n ≤ d.length := by rw [hd]; simp [Nat.add_mul]
    obtain ⟨ds, h1, h2⟩ := ih (c := c ++ vs) (d := d.drop K.n) (by simp [hc, hl, Nat.add_mul]) (by simp [hd, Nat.add_mul])
    refine ⟨vs ++ ds, ?_, vs, ds, rfl, hy, h2⟩
    have : c ++ d = c ++ (d.take K.n ++ d.drop K.n) := by rw [List.take_append_drop]
    rw [this]
    have := fill_cons (place := fun i => some (i * K.n, K.n)) (i := n) (off := n * K.n) (v := a.eval o) (vs := vs) (c := c) (d := d.take K.n) (e := d.drop K.n) (rest := ps.map fun (i, x) => (i, a.eval x)) (by simp [hl]) hv hc (by simp [hl]; omega)
    simp only [List.map_cons]
    rw [this, ← List.append_assoc, h1]
    simp

def zeroB (P : Program) (e : TypeId) : Bool := match P.info? e with | some i => i.zero.isSome | none => false
theorem l_bslice {T e : TypeId} {n : Nat} {ps : List (Nat × Operand)} {α : Type} {K : Kd α} {xs : List α} (hp : Items Γ K 0 ps xs) (hn : xs.length = n) (hsm : n * K.n ≤ 16777216) (h1 : 0 < n * K.n) (hT : isSlice P T e = true) (hz : zeroB P e = true) (hs : tySize P e = some K.n) (hd : d < B.N) :
    Loc P B Γ Δ ⟨some d, .buildSlice T n ps.toArray, t, p, af, none⟩ ⟨d, vSlice K, xs⟩ Δ := by
  intro Γ' I a w hsb s
  obtain ⟨zv, hzv⟩ : ∃ zv, (zeroValue e).run P w = .ok zv w := by
    unfold zeroB at hz
    cases hi : P.info? e with
    | none => simp [hi] at hz
    | some i =>
      simp only [hi] at hz
      obtain ⟨v, hv⟩ := Option.isSome_iff_exists.1 hz
      exact ⟨v, by simp [zeroValue, typeInfo, hi, hv]⟩
  obtain ⟨ds, hf, hfl⟩ := fill_items hsb s hp (c := []) (d := ((Array.range (n * K.n)).map fun k => zv.cells[k % zv.cells.size]!).toList) (by simp) (by simp [hn])
  simp only [List.nil_append, Array.toArray_toList] at hf
  have hmap : (Array.map (fun x : Nat × Operand => (x.1, a.eval x.2)) ps.toArray).toList = ps.map fun (i, x) => (i, a.eval x) := by simp
  have hrun : (execOp a.eval ⟨some d, .buildSlice T n ps.toArray, t, p, af, none⟩).run P w = .ok (.value (.slice (some ⟨w.heap.size, 0, none⟩) n n)) { w with heap := w.heap.push (.cells ds.toArray e) } := by
    have hb : ¬ (n * K.n > 2 ^ 24) := by simp; omega
    have hb' : ¬ (n * K.n = 0) := by omega
    simp only [execOp, Instr.buildSlice, Sem.run_bind, run_underlying (isSlice_eq hT), Result.andThen_ok, run_sizeOf' hs, hb, hb', if_false, hzv, Sem.run_pure, hmap]
    rw [hf]
    simp [newRow]
  obtain ⟨g, hw⟩ := new_imm (B := B) (.cells ds.toArray e) s.ws
  unfold Oper.wp
  rw [hrun, Oper.upon_value]
  refine ⟨_, s.put g hw hd (vSlice_iff.2 ⟨_, n, by rw [hn], by omega, by have : n ≤ 16777216 := Nat.le_trans (Nat.le_mul_of_pos_right n (Nat.pos_of_mul_pos_left h1)) hsm; omega, fun _ => ⟨_, 0, rfl, ?_⟩⟩)⟩
  exact (hfl.mono g).elems (.inr rfl) (CellsAt.block (c := ds.toArray) (e := e) (fr := (0, 0)) (by simp) (by intro j v hj; simpa using hj))
end rules
end Go.Pm
