import Derived.WalkKit
import Derived.KernelRfl
/-
  PM, part A: worlds that grow, what a value represents, footprints, states of a walk.
  I: the blocks that no one writes any more; the rest of what is reachable is owned (resources, each with a footprint).
-/
namespace Go.Pm
open Go Go.RowKit

abbrev ISet := Nat → Prop

structure Grow (I : ISet) (w : World) (J : ISet) (u : World) : Prop where
  le : w.heap.size ≤ u.heap.size
  sub : ∀ b, I b → J b
  same : ∀ b, I b → u.heap[b]? = w.heap[b]?

theorem Grow.refl (I w) : Grow I w I w := ⟨Nat.le_refl _, fun _ h => h, fun _ _ => rfl⟩
theorem Grow.trans {I w J u K v} (h : Grow I w J u) (k : Grow J u K v) : Grow I w K v :=
  ⟨Nat.le_trans h.le k.le, fun b hb => k.sub b (h.sub b hb), fun b hb => (k.same b (h.sub b hb)).trans (h.same b hb)⟩

/-- What a value stands for. -/
structure Vd (α : Type) where
  P : ISet → World → Value → α → Prop
  mono : ∀ {I w J u v x}, Grow I w J u → P I w v x → P J u v x

/-- What a row of cells stands for. -/
structure Kd (α : Type) where
  n : Nat
  agg : Bool
  R : ISet → World → List Value → α → Prop
  len : ∀ {I w cs x}, R I w cs x → cs.length = n
  one : ∀ {I w cs x}, R I w cs x → ∀ u ∈ cs, u.oneCell' = true
  mono : ∀ {I w J u cs x}, Grow I w J u → R I w cs x → R J u cs x
  h1 : agg = false → n = 1

def pack (agg : Bool) (cs : List Value) : Value := if agg then .agg cs.toArray else cs.headD undef

def Kd.v {α} (K : Kd α) : Vd α where
  P I w v x := ∃ cs, K.R I w cs x ∧ v = pack K.agg cs
  mono g := fun ⟨cs, h, e⟩ => ⟨cs, K.mono g h, e⟩

theorem pack_cells {α} (K : Kd α) {I w cs x} (h : K.R I w cs x) : (pack K.agg cs).cells = cs.toArray := by
  unfold pack
  cases ha : K.agg with
  | true => rfl
  | false =>
    have hl := K.len h; rw [K.h1 ha] at hl
    obtain ⟨v, rfl⟩ := List.length_eq_one_iff.1 hl
    have h1 := K.one h v (by simp)
    cases v <;> first | rfl | simp [Value.oneCell'] at h1

/-! cells in memory -/
def CellsAt (w : World) (b o : Nat) (cs : List Value) : Prop := ∀ j v, cs[j]? = some v → w.cell? ⟨b, o + j, none⟩ = some v

theorem cell_same {w u : World} {b : Nat} (h : u.heap[b]? = w.heap[b]?) (o : Nat) : u.cell? ⟨b, o, none⟩ = w.cell? ⟨b, o, none⟩ := by
  unfold World.cell?; simp only [h]

theorem CellsAt.same {w u : World} {b o cs} (h : u.heap[b]? = w.heap[b]?) (hc : CellsAt w b o cs) : CellsAt u b o cs :=
  fun j v hj => (cell_same h _).trans (hc j v hj)

theorem CellsAt.append {w b o cs ds} (h : CellsAt w b o (cs ++ ds)) : CellsAt w b o cs ∧ CellsAt w b (o + cs.length) ds :=
  ⟨fun j v hj => h j v (by rw [List.getElem?_append_left]; exact hj; exact (List.getElem?_eq_some_iff.1 hj).1),
   fun j v hj => by
    have := h (cs.length + j) v (by rw [List.getElem?_append_right (by omega)]; simpa using hj)
    rwa [← Nat.add_assoc] at this⟩

theorem CellsAt.mk {w b o cs ds} (h : CellsAt w b o cs) (k : CellsAt w b (o + cs.length) ds) : CellsAt w b o (cs ++ ds) := by
  intro j v hj
  rcases Nat.lt_or_ge j cs.length with hl | hl
  · exact h j v (by rwa [List.getElem?_append_left hl] at hj)
  · rw [List.getElem?_append_right hl] at hj
    have := k (j - cs.length) v hj
    rwa [Nat.add_assoc, Nat.add_sub_cancel' hl] at this

theorem CellsAt.block {w b o cs} {c : Array Value} {e fr} (h : w.heap[b]? = some (.cells c e fr)) (hc : ∀ j v, cs[j]? = some v → c[o + j]? = some v) : CellsAt w b o cs := by
  intro j v hj; simp [World.cell?, h, hc j v hj]

def Kd.At {α} (K : Kd α) (I : ISet) (w : World) (b o : Nat) (x : α) : Prop := I b ∧ ∃ cs, K.R I w cs x ∧ CellsAt w b o cs

theorem Kd.At.mono {α} {K : Kd α} {I w J u b o x} (g : Grow I w J u) (h : K.At I w b o x) : K.At J u b o x :=
  ⟨g.sub _ h.1, let ⟨cs, hr, hc⟩ := h.2; ⟨cs, K.mono g hr, hc.same (g.same _ h.1)⟩⟩

/-! kinds -/
def kInt (k : IntKind) : Kd Int where
  n := 1; agg := false
  R _ _ cs x := cs = [.int k x]
  len := by rintro _ _ _ _ rfl; rfl
  one := by rintro _ _ _ _ rfl; simp [Value.oneCell']
  mono _ h := h
  h1 _ := rfl
def kBool : Kd Bool where
  n := 1; agg := false
  R _ _ cs x := cs = [.bool x]
  len := by rintro _ _ _ _ rfl; rfl
  one := by rintro _ _ _ _ rfl; simp [Value.oneCell']
  mono _ h := h
  h1 _ := rfl
def kStr : Kd ByteArray where
  n := 1; agg := false
  R _ _ cs x := cs = [.string x]
  len := by rintro _ _ _ _ rfl; rfl
  one := by rintro _ _ _ _ rfl; simp [Value.oneCell']
  mono _ h := h
  h1 _ := rfl
/-- The value itself (an address, a slice's three words, a function value): what is known of it stands elsewhere. -/
def kVal : Kd Value where
  n := 1; agg := false
  R _ _ cs x := cs = [x] ∧ x.oneCell' = true
  len := by rintro _ _ _ _ ⟨rfl, _⟩; rfl
  one := by rintro _ _ _ _ ⟨rfl, h⟩; simpa using h
  mono _ h := h
  h1 _ := rfl

def vInt (k : IntKind) : Vd Int := (kInt k).v
def vBool : Vd Bool := kBool.v
def vStr : Vd ByteArray := kStr.v

theorem vInt_iff {k I w v x} : (vInt k).P I w v x ↔ v = .int k x := ⟨fun ⟨_, h, e⟩ => by cases h; exact e, fun h => ⟨_, rfl, h⟩⟩
theorem vBool_iff {I w v x} : vBool.P I w v x ↔ v = .bool x := ⟨fun ⟨_, h, e⟩ => by cases h; exact e, fun h => ⟨_, rfl, h⟩⟩
theorem vStr_iff {I w v x} : vStr.P I w v x ↔ v = .string x := ⟨fun ⟨_, h, e⟩ => by cases h; exact e, fun h => ⟨_, rfl, h⟩⟩
theorem kVal_iff {I w v x} : kVal.v.P I w v x ↔ v = x ∧ x.oneCell' = true := ⟨fun ⟨_, ⟨h, k⟩, e⟩ => by cases h; exact ⟨e, k⟩, fun ⟨h, k⟩ => ⟨_, ⟨rfl, k⟩, h⟩⟩

/-- A location: block and offset. -/
def vLoc : Vd (Nat × Nat) := ⟨fun _ _ v x => v = .pointer (some ⟨x.1, x.2, none⟩), fun _ h => h⟩

/-- A pointer to memory that no one writes any more. -/
def kPtr {α} (K : Kd α) : Kd α where
  n := 1; agg := false
  R I w cs x := ∃ b o, cs = [.pointer (some ⟨b, o, none⟩)] ∧ K.At I w b o x
  len := by rintro _ _ _ _ ⟨_, _, rfl, _⟩; rfl
  one := by rintro _ _ _ _ ⟨_, _, rfl, _⟩; simp [Value.oneCell']
  mono g := fun ⟨b, o, e, h⟩ => ⟨b, o, e, h.mono g⟩
  h1 _ := rfl
def vPtr {α} (K : Kd α) : Vd α := (kPtr K).v
theorem vPtr_iff {α} {K : Kd α} {I w v x} : (vPtr K).P I w v x ↔ ∃ b o, v = .pointer (some ⟨b, o, none⟩) ∧ K.At I w b o x :=
  ⟨fun ⟨_, ⟨b, o, e, h⟩, he⟩ => by subst e; exact ⟨b, o, he, h⟩, fun ⟨b, o, e, h⟩ => ⟨_, ⟨b, o, rfl, h⟩, e⟩⟩

/-- Elements one behind the other. -/
def Elems {α} (K : Kd α) (I : ISet) (w : World) (b o : Nat) (xs : List α) : Prop := ∀ i x, xs[i]? = some x → K.At I w b (o + i * K.n) x

theorem Elems.mono {α} {K : Kd α} {I w J u b o xs} (g : Grow I w J u) (h : Elems K I w b o xs) : Elems K J u b o xs := fun i x hx => (h i x hx).mono g

/-- A slice of memory that no one writes any more; behind its length there is at least what 'sp' says. -/
def SliceR {α} (K : Kd α) (I : ISet) (w : World) (v : Value) (xs : List α) : Prop :=
  ∃ A c, v = .slice A xs.length c ∧ xs.length ≤ c ∧ (xs.length : Int) ≤ 9223372036854775807 ∧ (xs ≠ [] → ∃ b o, A = some ⟨b, o, none⟩ ∧ Elems K I w b o xs)

def kSlice {α} (K : Kd α) : Kd (List α) where
  n := 1; agg := false
  R I w cs xs := ∃ v, cs = [v] ∧ SliceR K I w v xs
  len := by rintro _ _ _ _ ⟨_, rfl, _⟩; rfl
  one := by rintro _ _ _ _ ⟨_, rfl, _, _, rfl, _⟩; simp [Value.oneCell']
  mono g := fun ⟨v, e, A, c, h1, h2, h3, h4⟩ => ⟨v, e, A, c, h1, h2, h3, fun hn => let ⟨b, o, hA, hE⟩ := h4 hn; ⟨b, o, hA, hE.mono g⟩⟩
  h1 _ := rfl
def vSlice {α} (K : Kd α) : Vd (List α) := (kSlice K).v
theorem vSlice_iff {α} {K : Kd α} {I w v x} : (vSlice K).P I w v x ↔ SliceR K I w v x :=
  ⟨fun ⟨_, ⟨b, e, h⟩, he⟩ => by subst e; subst he; exact h, fun h => ⟨_, ⟨v, rfl, h⟩, rfl⟩⟩

/-- Two rows, one behind the other; 'kNil': none. A struct is 'kSt' of such. -/
def kNil : Kd Unit where
  n := 0; agg := true
  R _ _ cs _ := cs = []
  len := by rintro _ _ _ _ rfl; rfl
  one := by rintro _ _ _ _ rfl; simp
  mono _ h := h
  h1 h := by simp at h
def kPair {α β} (K : Kd α) (L : Kd β) : Kd (α × β) where
  n := K.n + L.n; agg := true
  R I w cs x := ∃ c d, cs = c ++ d ∧ K.R I w c x.1 ∧ L.R I w d x.2
  len := by rintro _ _ _ _ ⟨c, d, rfl, h, k⟩; simp [K.len h, L.len k]
  one := by
    rintro _ _ _ _ ⟨c, d, rfl, h, k⟩ u hu
    rcases List.mem_append.1 hu with hu | hu
    · exact K.one h u hu
    · exact L.one k u hu
  mono g := fun ⟨c, d, e, h, k⟩ => ⟨c, d, e, K.mono g h, L.mono g k⟩
  h1 h := by simp at h
def kSt {α β} (K : Kd α) (f : β → α) : Kd β where
  n := K.n; agg := true
  R I w cs x := K.R I w cs (f x)
  len h := K.len h
  one h := K.one h
  mono g h := K.mono g h
  h1 h := by simp at h

/-- Field of a struct: where it lies, what it is, what it becomes. -/
structure Fld {α β} (K : Kd α) (off : Nat) (L : Kd β) (get : α → β) (set : β → α → α) : Prop where
  get : ∀ {I w cs x}, K.R I w cs x → ∃ c d e, cs = c ++ (d ++ e) ∧ c.length = off ∧ L.R I w d (get x)
  put : ∀ {I w cs x c d e d' y}, K.R I w cs x → cs = c ++ (d ++ e) → c.length = off → d.length = L.n → L.R I w d' y → K.R I w (c ++ (d' ++ e)) (set y x)

theorem Fld.refl {α} (K : Kd α) : Fld K 0 K (fun x => x) (fun y _ => y) where
  get {I w cs x} h := ⟨[], cs, [], by simp, rfl, h⟩
  put {I w cs x c d e d' y} h he hc hd h' := by
    have : c = [] := List.length_eq_zero_iff.1 hc
    subst this
    have hl := K.len h
    have : e = [] := by rw [he] at hl; simp at hl; exact List.length_eq_zero_iff.1 (by omega)
    subst this; simpa using h'

theorem Fld.trans {α β γ} {K : Kd α} {L : Kd β} {M : Kd γ} {o p g s g' s'} (h : Fld K o L g s) (k : Fld L p M g' s') :
    Fld K (o + p) M (fun x => g' (g x)) (fun y x => s (s' y (g x)) x) where
  get {I w cs x} hx := by
    obtain ⟨c, d, e, rfl, hc, hd⟩ := h.get hx
    obtain ⟨c', d', e', rfl, hc', hd'⟩ := k.get hd
    exact ⟨c ++ c', d', e' ++ e, by simp, by simp [hc, hc'], hd'⟩
  put {I w cs x c d e d' y} hx he hc hd h' := by
    obtain ⟨c1, d1, e1, h1, hc1, hd1⟩ := h.get hx
    obtain ⟨c2, d2, e2, h2, hc2, hd2⟩ := k.get hd1
    have hl2 := M.len hd2
    subst h2
    have hh : c ++ (d ++ e) = (c1 ++ c2) ++ (d2 ++ (e2 ++ e1)) := by rw [← he, h1]; simp
    have := List.append_inj hh (by simp [hc, hc1, hc2])
    obtain ⟨rfl, hr⟩ := this
    obtain ⟨rfl, rfl⟩ := List.append_inj hr (by omega)
    have r1 := k.put hd1 rfl hc2 hd h'
    have r2 := h.put hx (d := c2 ++ (d ++ e2)) (e := e1) (by rw [h1]) hc1 (L.len hd1) r1
    simpa using r2

theorem Fld.fst {α β} (K : Kd α) (L : Kd β) : Fld (kPair K L) 0 K (·.1) (fun y x => (y, x.2)) where
  get := by rintro I w cs x ⟨c, d, rfl, h, k⟩; exact ⟨[], c, d, rfl, rfl, h⟩
  put := by
    rintro I w cs x c d e d' y ⟨c1, d1, rfl, h, k⟩ he hc hd h'
    obtain rfl := List.length_eq_zero_iff.1 hc
    simp only [List.nil_append] at he
    obtain ⟨rfl, rfl⟩ := List.append_inj he (by rw [K.len h, hd])
    exact ⟨d', d1, rfl, h', k⟩

theorem Fld.snd {α β} (K : Kd α) (L : Kd β) : Fld (kPair K L) K.n L (·.2) (fun y x => (x.1, y)) where
  get := by rintro I w cs x ⟨c, d, rfl, h, k⟩; exact ⟨c, d, [], by simp, K.len h, k⟩
  put := by
    rintro I w cs x c d e d' y ⟨c1, d1, rfl, h, k⟩ he hc hd h'
    obtain ⟨rfl, hr⟩ := List.append_inj he (by rw [K.len h, hc])
    have hl := L.len k
    have : e = [] := by rw [hr] at hl; simp at hl; exact List.length_eq_zero_iff.1 (by omega)
    subst this
    exact ⟨c1, d', by simp, h, h'⟩

theorem Fld.st {α β γ} {K : Kd α} {f : β → α} {L : Kd γ} {o g s} (h : Fld K o L g s) (g' : β → γ) (s' : γ → β → β) (hg : ∀ x, g (f x) = g' x) (hs : ∀ y x, s y (f x) = f (s' y x)) :
    Fld (kSt K f) o L g' s' where
  get {I w cs x} hx := by have := h.get (K := K) hx; rwa [hg] at this
  put {I w cs x c d e d' y} hx he hc hd h' := by have := h.put (K := K) hx he hc hd h'; rwa [hs] at this

/-! resources -/
structure Rs where
  P : ISet → World → ISet → Prop
  mono : ∀ {I w J u f}, Grow I w J u → (∀ b, f b → u.heap[b]? = w.heap[b]?) → P I w f → P J u f

def Sep : List Rs → ISet → World → ISet → Prop
  | [], _, _, f => ∀ b, ¬ f b
  | r :: Δ, I, w, f => ∃ f1 f2 : ISet, (∀ b, f b ↔ f1 b ∨ f2 b) ∧ (∀ b, f1 b → ¬ f2 b) ∧ r.P I w f1 ∧ Sep Δ I w f2

theorem Sep.mono {Δ I w J u f} (g : Grow I w J u) (hf : ∀ b, f b → u.heap[b]? = w.heap[b]?) (h : Sep Δ I w f) : Sep Δ J u f := by
  induction Δ generalizing f with
  | nil => exact h
  | cons r Δ ih =>
    obtain ⟨f1, f2, he, hd, h1, h2⟩ := h
    exact ⟨f1, f2, he, hd, r.mono g (fun b hb => hf b ((he b).2 (.inl hb))) h1, ih (fun b hb => hf b ((he b).2 (.inr hb))) h2⟩

theorem Sep.append {Δ Δ' I w f} : Sep (Δ ++ Δ') I w f ↔ ∃ f1 f2 : ISet, (∀ b, f b ↔ f1 b ∨ f2 b) ∧ (∀ b, f1 b → ¬ f2 b) ∧ Sep Δ I w f1 ∧ Sep Δ' I w f2 := by
  induction Δ generalizing f with
  | nil =>
    constructor
    · intro h; exact ⟨fun _ => False, f, by simp, by simp, fun _ h => h, h⟩
    · rintro ⟨f1, f2, he, _, h1, h2⟩
      have : f2 = f := funext fun b => propext ⟨fun h => (he b).2 (.inr h), fun h => ((he b).1 h).resolve_left (h1 b)⟩
      rw [← this]; exact h2
  | cons r Δ ih =>
    constructor
    · rintro ⟨f1, f2, he, hd, h1, h2⟩
      obtain ⟨g1, g2, he', hd', k1, k2⟩ := ih.1 h2
      refine ⟨fun b => f1 b ∨ g1 b, g2, fun b => ?_, ?_, ⟨f1, g1, fun _ => Iff.rfl, fun b hb hg => hd b hb ((he' b).2 (.inl hg)), h1, k1⟩, k2⟩
      · rw [he, he', or_assoc]
      · rintro b (hb | hb) hg
        · exact hd b hb ((he' b).2 (.inr hg))
        · exact hd' b hb hg
    · rintro ⟨f1, f2, he, hd, ⟨g1, g2, he', hd', k1, k2⟩, h2⟩
      refine ⟨g1, fun b => g2 b ∨ f2 b, fun b => ?_, ?_, k1, ih.2 ⟨g2, f2, fun _ => Iff.rfl, fun b hb => hd b ((he' b).2 (.inr hb)), k2, h2⟩⟩
      · rw [he, he', or_assoc]
      · rintro b hb (hg | hg)
        · exact hd' b hb hg
        · exact hd b ((he' b).2 (.inl hb)) hg

theorem Sep.swap {r s Δ I w f} (h : Sep (r :: s :: Δ) I w f) : Sep (s :: r :: Δ) I w f := by
  obtain ⟨f1, f2, he, hd, h1, g1, g2, he', hd', k1, k2⟩ := h
  refine ⟨g1, fun b => f1 b ∨ g2 b, fun b => ?_, ?_, k1, f1, g2, fun _ => Iff.rfl, fun b hb hg => hd b hb ((he' b).2 (.inr hg)), h1, k2⟩
  · rw [he, he']; exact or_left_comm
  · rintro b hb (hg | hg)
    · exact hd b hg ((he' b).2 (.inl hb))
    · exact hd' b hb hg

theorem Sep.perm {Δ Δ' I w} (p : Δ.Perm Δ') : ∀ {f}, Sep Δ I w f → Sep Δ' I w f := by
  induction p with
  | nil => exact id
  | cons r _ ih => rintro f ⟨f1, f2, he, hd, h1, h2⟩; exact ⟨f1, f2, he, hd, h1, ih h2⟩
  | swap r s Δ => exact Sep.swap
  | trans _ _ ih1 ih2 => exact fun h => ih2 (ih1 h)

/-- From one world to another: what lies outside the footprint F, and was there, is as it was. -/
structure Fr (I : ISet) (w : World) (F : ISet) (J : ISet) (u : World) (G : ISet) : Prop where
  os : u.os = w.os
  tape : u.tape = w.tape
  output : u.output = w.output
  le : w.heap.size ≤ u.heap.size
  sub : ∀ b, I b → J b
  same : ∀ b, b < w.heap.size → ¬ F b → u.heap[b]? = w.heap[b]?
  only : ∀ b, J b → I b ∨ F b ∨ w.heap.size ≤ b
  fp : ∀ b, G b → F b ∨ w.heap.size ≤ b
  lt : ∀ b, J b → b < u.heap.size
  gl : ∀ b, G b → ¬ J b ∧ b < u.heap.size

theorem Fr.refl {I w F} (h1 : ∀ b, I b → b < w.heap.size) (h2 : ∀ b, F b → ¬ I b ∧ b < w.heap.size) : Fr I w F I w F :=
  ⟨rfl, rfl, rfl, Nat.le_refl _, fun _ h => h, fun _ _ _ => rfl, fun _ h => .inl h, fun _ h => .inl h, h1, h2⟩

theorem Fr.grow {I w F J u G} (h : Fr I w F J u G) (hI : ∀ b, I b → b < w.heap.size) (hF : ∀ b, F b → ¬ I b) : Grow I w J u :=
  ⟨h.le, h.sub, fun b hb => h.same b (hI b hb) (fun hf => hF b hf hb)⟩

theorem Fr.trans {I w F J u G K v H} (h : Fr I w F J u G) (k : Fr J u G K v H) : Fr I w F K v H where
  os := k.os.trans h.os
  tape := k.tape.trans h.tape
  output := k.output.trans h.output
  le := Nat.le_trans h.le k.le
  sub b hb := k.sub b (h.sub b hb)
  same b hb hf := (k.same b (Nat.lt_of_lt_of_le hb h.le) (fun hg => (h.fp b hg).elim hf (fun hl => absurd hb (by omega)))).trans (h.same b hb hf)
  only b hb := by
    rcases k.only b hb with hj | hg | hl
    · exact h.only b hj
    · exact (h.fp b hg).elim (fun hf => .inr (.inl hf)) (fun hl => .inr (.inr hl))
    · exact .inr (.inr (Nat.le_trans h.le hl))
  fp b hb := by
    rcases k.fp b hb with hg | hl
    · exact h.fp b hg
    · exact .inr (Nat.le_trans h.le hl)
  lt := k.lt
  gl := k.gl

/-- The frame rule: a step that has the footprint F1 alone, beside F2. -/
theorem Fr.frame {I : ISet} {w : World} {F F1 F2 : ISet} {J : ISet} {u : World} {G1 : ISet} (h : Fr I w F1 J u G1) (he : ∀ b, F b ↔ F1 b ∨ F2 b) (hd : ∀ b, F1 b → ¬ F2 b) (hF : ∀ b, F b → ¬ I b ∧ b < w.heap.size) :
    Fr I w F J u (fun b => G1 b ∨ F2 b) ∧ (∀ b, G1 b → ¬ F2 b) ∧ (∀ b, F2 b → u.heap[b]? = w.heap[b]?) := by
  have hG : ∀ b, G1 b → ¬ F2 b := fun b hg h2 => by
    rcases h.fp b hg with h1 | hl
    · exact hd b h1 h2
    · have := (hF b ((he b).2 (.inr h2))).2; omega
  have hs : ∀ b, F2 b → u.heap[b]? = w.heap[b]? := fun b h2 => h.same b (hF b ((he b).2 (.inr h2))).2 (fun h1 => hd b h1 h2)
  refine ⟨⟨h.os, h.tape, h.output, h.le, h.sub, fun b hb hf => h.same b hb (fun h1 => hf ((he b).2 (.inl h1))), fun b hb => ?_, fun b hb => ?_, h.lt, fun b hb => ?_⟩, hG, hs⟩
  · rcases h.only b hb with h1 | h1 | h1
    · exact .inl h1
    · exact .inr (.inl ((he b).2 (.inl h1)))
    · exact .inr (.inr h1)
  · rcases hb with hb | hb
    · rcases h.fp b hb with h1 | h1
      · exact .inl ((he b).2 (.inl h1))
      · exact .inr h1
    · exact .inl ((he b).2 (.inr hb))
  · rcases hb with hb | hb
    · exact h.gl b hb
    · have hb' := hF b ((he b).2 (.inr hb))
      refine ⟨fun hj => ?_, Nat.lt_of_lt_of_le hb'.2 h.le⟩
      rcases h.only b hj with h1 | h1 | h1
      · exact hb'.1 h1
      · exact hd b h1 hb
      · omega

/-! the state of a walk -/
structure Ent where
  s : Nat
  {α : Type}
  V : Vd α
  x : α

theorem beq_ne {a b : Nat} (h : ¬ a = b) : Nat.beq a b = false := by
  cases hb : Nat.beq a b with
  | false => rfl
  | true => exact absurd (Nat.eq_of_beq_eq_true hb) h

def look : List Ent → Nat → Option Ent
  | [], _ => none
  | e :: Γ, s => cond (Nat.beq e.s s) (some e) (look Γ s)

structure Base where
  N : Nat
  I : ISet
  w : World
  F : ISet

structure St (B : Base) (Γ : List Ent) (Δ : List Rs) (I : ISet) (a : Act) (w : World) : Prop where
  size : a.tmps.size = B.N
  defs : a.defers = []
  env : ∀ s e, look Γ s = some e → ∃ v, a.tmps[s]? = some v ∧ e.V.P I w v e.x
  ws : ∃ F, Sep Δ I w F ∧ Fr B.I B.w B.F I w F

theorem St.grow {B Γ Δ I a w} (h : St B Γ Δ I a w) : ∃ F, Sep Δ I w F ∧ (∀ b, I b → b < w.heap.size) ∧ (∀ b, F b → ¬ I b ∧ b < w.heap.size) :=
  let ⟨F, hs, hf⟩ := h.ws; ⟨F, hs, hf.lt, hf.gl⟩

/-- A slot is written, the world has moved on. -/
theorem St.put {B Γ Δ Δ' I a w J u d v} {α : Type} {V : Vd α} {x : α} (h : St B Γ Δ I a w) (g : Grow I w J u) (hw : ∃ F, Sep Δ' J u F ∧ Fr B.I B.w B.F J u F) (hd : d < B.N) (hv : V.P J u v x) :
    St B (⟨d, V, x⟩ :: Γ) Δ' J (a.put (some d) v) u where
  size := by simp [Act.put, h.size]
  defs := h.defs
  env s e he := by
    simp only [look] at he
    by_cases hs : d = s
    · subst hs
      simp at he; subst he
      refine ⟨v, ?_, hv⟩
      simp [Act.put, h.size, hd]
    · have : Nat.beq d s = false := beq_ne hs
      rw [this] at he
      obtain ⟨u', hu, hp⟩ := h.env s e he
      refine ⟨u', ?_, e.V.mono g hp⟩
      simp only [Act.put, Array.getElem?_setIfInBounds]
      rw [if_neg hs]; exact hu
  ws := hw

theorem St.step {B Γ Δ Δ' I a w J u} (h : St B Γ Δ I a w) (g : Grow I w J u) (hw : ∃ F, Sep Δ' J u F ∧ Fr B.I B.w B.F J u F) : St B Γ Δ' J a u where
  size := h.size
  defs := h.defs
  env s e he := let ⟨v, hv, hp⟩ := h.env s e he; ⟨v, hv, e.V.mono g hp⟩
  ws := hw

theorem St.put0 {B Γ Δ I a w d v} {α : Type} {V : Vd α} {x : α} (h : St B Γ Δ I a w) (hd : d < B.N) (hv : V.P I w v x) :
    St B (⟨d, V, x⟩ :: Γ) Δ I (a.put (some d) v) w := h.put (Grow.refl _ _) h.ws hd hv

/-- A slot is written of which nothing is told: what was told of it is told no more. -/
theorem St.forget {B Γ Δ I a w d v} (h : St B Γ Δ I a w) (hl : look Γ d = none) : St B Γ Δ I (a.put (some d) v) w where
  size := by simp [Act.put, h.size]
  defs := h.defs
  env s e he := by
    obtain ⟨u, hu, hp⟩ := h.env s e he
    refine ⟨u, ?_, hp⟩
    simp only [Act.put, Array.getElem?_setIfInBounds]
    rw [if_neg (by rintro rfl; rw [hl] at he; cases he)]; exact hu
  ws := h.ws

/-- Γ' tells no more than Γ. -/
def Sub (Γ' Γ : List Ent) : Prop := ∀ s e, look Γ' s = some e → look Γ s = some e
theorem Sub.refl (Γ) : Sub Γ Γ := fun _ _ h => h
theorem Sub.nil (Γ) : Sub [] Γ := fun _ _ h => by simp [look] at h
theorem Sub.cons {Γ Γ' e} (h : look Γ e.s = some e) (k : Sub Γ' Γ) : Sub (e :: Γ') Γ := by
  intro s f hf
  simp only [look] at hf
  by_cases hs : e.s = s
  · subst hs; simp at hf; subst hf; exact h
  · have : Nat.beq e.s s = false := beq_ne hs
    rw [this] at hf; exact k s f hf
theorem Sub.trans {Γ Γ' Γ''} (h : Sub Γ Γ') (k : Sub Γ' Γ'') : Sub Γ Γ'' := fun s e he => k s e (h s e he)

theorem St.sub {B Γ Γ' Δ I a w} (h : St B Γ Δ I a w) (hs : Sub Γ' Γ) : St B Γ' Δ I a w := ⟨h.size, h.defs, fun s e he => h.env s e (hs s e he), h.ws⟩

/-! operands -/
structure Opd (Γ : List Ent) (o : Operand) {α : Type} (V : Vd α) (x : α) : Prop where
  ok : ∀ {B Δ I a w Γ'}, Sub Γ Γ' → St B Γ' Δ I a w → V.P I w (a.eval o) x

theorem o_t {Γ s α V x} (h : look Γ s = some (@Ent.mk s α V x)) : Opd Γ (.tmp s) V x where
  ok hs st := by
    obtain ⟨v, hv, hp⟩ := st.env s _ (hs _ _ h)
    simpa [Act.eval, Array.getD_eq_getD_getElem?, hv] using hp
theorem o_i {Γ k n} : Opd Γ (.const (.int k n)) (vInt k) n where ok _ _ := vInt_iff.2 rfl
theorem o_b {Γ b} : Opd Γ (.const (.bool b)) vBool b where ok _ _ := vBool_iff.2 rfl
theorem o_s {Γ s} : Opd Γ (.const (.string s)) vStr s where ok _ _ := vStr_iff.2 rfl
theorem o_nil {Γ α} {K : Kd α} : Opd Γ (.const (.slice none 0 0)) (vSlice K) [] where
  ok _ _ := vSlice_iff.2 ⟨none, 0, rfl, by simp, by simp, fun h => absurd rfl h⟩
theorem o_v {Γ v} (h : v.oneCell' = true) : Opd Γ (.const v) kVal.v v where ok _ _ := kVal_iff.2 ⟨rfl, h⟩
theorem o_f {Γ f} : Opd Γ (.func f) kVal.v (.func (.func f) #[] #[]) where ok _ _ := kVal_iff.2 ⟨rfl, rfl⟩

end Go.Pm
