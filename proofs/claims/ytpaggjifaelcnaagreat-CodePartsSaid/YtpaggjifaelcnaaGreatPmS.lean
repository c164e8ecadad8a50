import Derived.Test.YtpaggjifaelcnaaGreatPmR
import Derived.ProofKit
import Derived.Below
import Derived.Carry
import Derived.OpenShut
import Derived.Deep.Slices
/-
  PM, part S: what came in: from the reading of an argument to what its value stands for, with the bounds that the form's reach gives.
-/
set_option linter.unusedVariables false
set_option linter.unusedSimpArgs false
namespace Go.Pm
open Go Go.RowKit

abbrev trodIn {H : Type} (enc : TypeId × Value → H) (P : Program) (w : World) := DataW.trod enc P w 0 (fun _ => true) true
abbrev inW (w : World) : ISet := fun b => b < w.heap.size
abbrev Wts (l : List Nat) : Prop := ∀ x ∈ l, x ≤ 140737488351232

/-- Whatever is read at type t is what K says, and is bounded as Q says. -/
structure Rd (P : Program) (t : TypeId) {α : Type} (K : Kd α) (Q : α → Prop) : Prop where
  sz : P.cellsOf t = K.n
  rd : ∀ {H : Type} (enc : TypeId × Value → H) (w : World) (fuel : Nat) (cs : List Value) (d : DataW H) (ps : List MemPlace), trodIn enc P w fuel t cs = some (d, ps) → Wts (d.weights P t) → ∃ x, K.R (inW w) w cs x ∧ Q x

theorem Rd.weaken {P : Program} {t : TypeId} {α : Type} {K : Kd α} {Q Q' : α → Prop} (h : Rd P t K Q) (k : ∀ x, Q x → Q' x) : Rd P t K Q' :=
  ⟨h.sz, fun enc w fuel cs d ps ht hf => let ⟨x, h1, h2⟩ := h.rd enc w fuel cs d ps ht hf; ⟨x, h1, k x h2⟩⟩

def Rng (k : IntKind) (n : Int) : Prop := k.min ≤ n ∧ n ≤ k.max
abbrev bdStr (s : ByteArray) : Prop := s.size ≤ 140737488351232
def bdSl (b : Nat) {α : Type} (Q : α → Prop) (xs : List α) : Prop := ((xs.length + 1) * b ≤ 140737488355328 ∧ 0 < b) ∧ ∀ x ∈ xs, Q x

theorem rd_int {P : Program} {t : TypeId} {k : IntKind} (hu : P.underlying t = some (.int k)) (hs : P.cellsOf t = 1) : Rd P t (kInt k) (Rng k) where
  sz := hs
  rd {H} enc w fuel cs d ps h _ := by
    obtain ⟨n, rfl, _, hw⟩ := DataW.trod_int hu h
    simp [Lit.wf] at hw
    exact ⟨n, rfl, hw⟩
theorem rd_bool {P : Program} {t : TypeId} (hu : P.underlying t = some .bool) (hs : P.cellsOf t = 1) : Rd P t kBool (fun _ => True) where
  sz := hs
  rd {H} enc w fuel cs d ps h _ := by
    obtain ⟨n, rfl, _⟩ := DataW.trod_bool hu h
    exact ⟨n, rfl, trivial⟩
theorem rd_str {P : Program} {t : TypeId} (hu : P.underlying t = some .string) (hs : P.cellsOf t = 1) : Rd P t kStr bdStr where
  sz := hs
  rd {H} enc w fuel cs d ps h hw := by
    obtain ⟨n, rfl, hx, _⟩ := DataW.trod_string hu h
    simp only [Prod.mk.injEq] at hx
    obtain ⟨rfl, rfl⟩ := hx
    refine ⟨n, rfl, ?_⟩
    have := hw _ (show n.data.toList.length ∈ _ by simp [DataW.weights])
    simpa [bdStr] using this
theorem cells_at {w : World} {a : Addr} {n : Nat} {cs : List Value} (h : w.cells? 0 a n = some cs) (hn : 0 < n) : a.spot = none ∧ inW w a.block ∧ CellsAt w a.block a.off cs := by
  obtain ⟨hb, hl, hc⟩ := World.cells?_some h
  obtain ⟨b, o, s⟩ := a
  have h0 := hc 0 hn
  rw [List.getElem?_eq_getElem (by omega)] at h0
  have hs : s = none := by simpa [Addr.add] using World.cell?_spot h0
  subst hs
  refine ⟨rfl, ?_, fun j v hj => ?_⟩
  · simp only [World.cell?] at h0
    show b < w.heap.size
    rcases Nat.lt_or_ge b w.heap.size with hb | hb
    · exact hb
    · simp [Addr.add, Array.getElem?_eq_none hb] at h0
  · have := hc j (by have := (List.getElem?_eq_some_iff.1 hj).1; omega)
    rw [hj, add_eq] at this
    exact this
theorem wts_all {H : Type} {P : Program} {e : TypeId} {ds : List (DataW H)} (h : Wts (DataW.weightsAll P e ds)) : ∀ d ∈ ds, Wts (d.weights P e) := by
  induction ds with
  | nil => intro d hd; cases hd
  | cons d ds ih =>
    intro c hc
    simp only [DataW.weightsAll, Wts, List.mem_append] at h
    rcases List.mem_cons.1 hc with rfl | hc
    · exact fun x hx => h x (.inl hx)
    · exact ih (fun x hx => h x (.inr hx)) c hc
theorem exists_list {α : Type} {n : Nat} {p : Nat → α → Prop} (h : ∀ i, i < n → ∃ x, p i x) : ∃ xs : List α, xs.length = n ∧ ∀ i x, xs[i]? = some x → p i x := by
  induction n with
  | zero => exact ⟨[], rfl, by simp⟩
  | succ n ih =>
    obtain ⟨xs, h1, h2⟩ := ih fun i hi => h i (by omega)
    obtain ⟨y, hy⟩ := h n (by omega)
    refine ⟨xs ++ [y], by simp [h1], fun i x hx => ?_⟩
    rcases Nat.lt_or_ge i n with hi | hi
    · exact h2 i x (by rwa [List.getElem?_append_left (by omega)] at hx)
    · rw [List.getElem?_append_right (by omega)] at hx
      have : i = n := by
        have := (List.getElem?_eq_some_iff.1 hx).1
        simp at this; omega
      subst this
      simp [h1] at hx; subst hx; exact hy
theorem rd_slice {P : Program} {t e : TypeId} {α : Type} {K : Kd α} {Q : α → Prop} {b : Nat} (hu : P.underlying t = some (.slice e)) (hs : P.cellsOf t = 1) (hb : P.bytesOf e = b) (hb1 : 0 < b) (hb2 : b ≤ 4096) (hn : 0 < K.n) (he : Rd P e K Q) :
    Rd P t (kSlice K) (bdSl b Q) where
  sz := hs
  rd {H} enc w fuel cs d ps h hw := by
    rcases Go.Deep.open_slice hu h with ⟨rfl, hx⟩ | ⟨a, len, cap, m, n, D, Pl, rfl, _, hlc, hcm, hm, hx, hel⟩
    · exact ⟨[], ⟨_, rfl, none, 0, rfl, by simp, by simp, fun h => absurd rfl h⟩, by simp; omega, by simp⟩
    · simp only [if_true] at hm; subst hm
      simp only [Prod.mk.injEq] at hx
      obtain ⟨rfl, rfl⟩ := hx
      simp only [DataW.weights, hu, hb] at hw
      have hcap : m * b ≤ 140737488351232 := by
        have := hw _ (List.mem_cons_self ..)
        simp at this
        rwa [show len + (m - len) = m by omega] at this
      have hws : ∀ i, i < len → Wts ((D i).weights P e) := fun i hi => wts_all (ds := (List.range len).map D) (fun x hx => hw x (by simp [hx])) _ (by simp; exact ⟨i, hi, rfl⟩)
      obtain ⟨xs, hl, hxs⟩ := exists_list (n := len) (p := fun i x => ∃ cs', w.cells? 0 (a.add (i * K.n)) K.n = some cs' ∧ K.R (inW w) w cs' x ∧ Q x) (fun i hi => by
        obtain ⟨cs', h1, h2⟩ := hel i (by omega)
        rw [he.sz] at h1
        obtain ⟨x, h3, h4⟩ := he.rd enc w n cs' _ _ h2 (hws i hi)
        exact ⟨x, cs', h1, h3, h4⟩)
      have hlb : (len + 1) * b ≤ 140737488355328 := by
        have : len * b ≤ m * b := Nat.mul_le_mul_right _ hlc
        rw [Nat.add_mul]; omega
      have hlen : len + 1 ≤ 140737488355328 := Nat.le_trans (Nat.le_mul_of_pos_right _ hb1) hlb
      refine ⟨xs, ⟨_, rfl, some a, m, by rw [hl], by omega, by omega, fun hne => ?_⟩, ⟨by rw [hl]; exact hlb, hb1⟩, fun x hx => ?_⟩
      · obtain ⟨x0, hx0⟩ : ∃ x, xs[0]? = some x := by cases xs with
          | nil => exact absurd rfl hne
          | cons x l => exact ⟨x, rfl⟩
        obtain ⟨cs0, h1, _, _⟩ := hxs 0 x0 hx0
        obtain ⟨h2, h3, h4⟩ := cells_at h1 hn
        obtain ⟨ab, ao, as⟩ := a
        simp [Addr.add] at h2
        subst h2
        refine ⟨ab, ao, rfl, fun i x hx => ?_⟩
        obtain ⟨cs', k1, k2, k3⟩ := hxs i x hx
        obtain ⟨_, k4, k5⟩ := cells_at k1 hn
        rw [add_eq] at k4 k5
        exact ⟨k4, cs', k2, k5⟩
      · obtain ⟨i, hi, rfl⟩ := List.getElem_of_mem hx
        obtain ⟨_, _, _, h4⟩ := hxs i _ (List.getElem?_eq_getElem hi)
        exact h4
theorem rd_ptr {P : Program} {t e : TypeId} {α : Type} {K : Kd α} {Q : α → Prop} (hu : P.underlying t = some (.pointer e)) (hs : P.cellsOf t = 1) (hn : 0 < K.n) (he : Rd P e K Q) {H : Type} {enc : TypeId × Value → H} {w : World} {fuel : Nat} {cs : List Value} {d : DataW H} {ps : List MemPlace}
    (h : trodIn enc P w fuel t cs = some (d, ps)) (hw : Wts (d.weights P t)) : cs = [.pointer none] ∨ ∃ x, (kPtr K).R (inW w) w cs x ∧ Q x := by
  rcases DataW.trod_pointer hu h with ⟨rfl, _⟩ | ⟨a, cs', y, n, _, rfl, hx, h1, h2⟩
  · exact .inl rfl
  · right
    simp only [Prod.mk.injEq] at hx
    obtain ⟨rfl, rfl⟩ := hx
    simp only [DataW.weights, hu] at hw
    rw [he.sz] at h1
    obtain ⟨x, h3, h4⟩ := he.rd enc w n cs' _ _ h2 hw
    obtain ⟨k1, k2, k3⟩ := cells_at h1 hn
    obtain ⟨ab, ao, as⟩ := a
    simp at k1; subst k1
    exact ⟨x, ⟨ab, ao, rfl, k2, cs', h3, k3⟩, h4⟩

/-- The fields of a struct from one on. -/
structure RdF (P : Program) (fs : List Field) (off : Nat) {α : Type} (K : Kd α) (Q : α → Prop) : Prop where
  rd : ∀ {H : Type} (enc : TypeId × Value → H) (w : World) (n : Nat) (cs : List Value) (xs : List (DataW H × List MemPlace)), cs.length = off + K.n → xs.length = fs.length →
    (∀ (i : Nat) (f : Field), fs[i]? = some f → trodIn enc P w n f.type ((cs.drop f.offset).take (P.cellsOf f.type)) = xs[i]?) → Wts (DataW.weightsEach P (fs.map (·.type)) (xs.map (·.1))) → ∃ x, K.R (inW w) w (cs.drop off) x ∧ Q x
theorem rdf_nil {P : Program} {off : Nat} : RdF P [] off kNil (fun _ => True) where
  rd {H} enc w n cs xs hl hx _ _ := ⟨(), by simp [kNil] at hl ⊢; omega, trivial⟩
theorem rdf_cons {P : Program} {f : Field} {fs : List Field} {off : Nat} {α β : Type} {K : Kd α} {L : Kd β} {Q : α → Prop} {R : β → Prop} (ho : f.offset = off) (h : Rd P f.type K Q) (k : RdF P fs (off + K.n) L R) :
    RdF P (f :: fs) off (kPair K L) (fun x => Q x.1 ∧ R x.2) where
  rd {H} enc w n cs xs hl hx ht hw := by
    match xs, hx with
    | x :: xs, hx =>
      simp only [List.map_cons, DataW.weightsEach] at hw
      have h0 := ht 0 f rfl
      rw [h.sz, ho] at h0
      have hl' : cs.length = off + (K.n + L.n) := hl
      obtain ⟨a, ha, hq⟩ := h.rd enc w n _ x.1 x.2 (by simpa using h0) (fun y hy => hw y (List.mem_append_left _ hy))
      obtain ⟨b, hb, hr⟩ := k.rd enc w n cs xs (by omega) (by simpa using hx) (fun i g hg => by simpa using ht (i + 1) g (by simpa using hg)) (fun y hy => hw y (List.mem_append_right _ hy))
      refine ⟨(a, b), ⟨_, _, ?_, ha, hb⟩, hq, hr⟩
      rw [← List.drop_drop, List.take_append_drop]
theorem rd_st {P : Program} {t : TypeId} {fs : Array Field} {α β : Type} {K : Kd α} {Q : α → Prop} {f : β → α} (hu : P.underlying t = some (.struct fs)) (hs : P.cellsOf t = K.n) (g : α → β) (hg : ∀ x, f (g x) = x) (k : RdF P fs.toList 0 K Q) :
    Rd P t (kSt K f) (fun y => Q (f y)) where
  sz := hs
  rd {H} enc w fuel cs d ps h hw := by
    obtain ⟨xs, n, _, hx, hl, hlx, ht⟩ := DataW.trod_struct hu h
    simp only [Prod.mk.injEq] at hx
    obtain ⟨rfl, rfl⟩ := hx
    simp only [DataW.weights, hu] at hw
    obtain ⟨x, h1, h2⟩ := k.rd enc w n cs xs (by omega) (by simpa using hlx) (fun i f hf => ht i f (by simpa using hf)) hw
    exact ⟨g x, by show K.R _ _ _ _; rw [hg]; simpa using h1, by rw [hg]; exact h2⟩

/-- From the end of a call of mine to the kit's words. -/
theorem below_of {w u : World} {G J : ISet} (h : Fr (inW w) w (fun _ => False) J u G) : Below w.heap.size w u := ⟨h.os, h.tape, h.output, h.le, fun k hk => h.same k hk (fun h => h)⟩
theorem calls_bool {P : Program} {f : FuncId} {as : List Arg} {b : Bool} (h : FP P f as vBool b) {w : World} {vs : List Value} (ha : ArgsOK (inW w) w vs as) : Calls P f vs.toArray w fun e w' => e = .returned (.bool b) ∧ Below w.heap.size w w' :=
  (h.calls (inW w) w vs (fun _ => False) ha (fun _ h => h) (fun _ h => h) (fun _ h => h.elim)).mono fun e u ⟨_, J, G, ⟨v, he, hv⟩, _, hf⟩ => ⟨by rw [he, vBool_iff.1 hv], below_of hf⟩
theorem noagg {P : Program} {w : World} {r : Reach} {base : Nat} {t : TypeId} {cs : Array Value} (h : Cell.okWide P w r base t (.agg cs)) : False := by
  unfold Cell.okWide at h
  split at h <;> first | (rename_i h1 h2; cases h2; done) | (unfold Cell.ok at h; split at h <;> simp_all)
/-- An argument that came in. -/
theorem rd_arg {P : Program} {t : TypeId} {α : Type} {K : Kd α} {Q : α → Prop} (hr : Rd P t K Q) (ha : tyAgg P t = some K.agg) {H : Type} {enc : TypeId × Value → H} {w : World} {r : Reach} {base : Nat} {v : Value} {d : DataW H} {ps : List MemPlace}
    (hv : Value.okWide P w r base t v) (h : DataW.Trod enc P w 0 (fun _ => true) true t v d ps) (hw : Wts (d.weights P t)) : ∃ x, K.v.P (inW w) w v x ∧ Q x := by
  obtain ⟨fuel, hf⟩ := h
  obtain ⟨x, h1, h2⟩ := hr.rd enc w fuel _ d ps hf hw
  refine ⟨x, ⟨_, h1, ?_⟩, h2⟩
  unfold tyAgg at ha
  unfold Value.okWide at hv
  cases hu : P.underlying t with
  | none => simp [hu] at ha
  | some ds =>
    rw [hu] at hv ha
    have key : K.agg = false → Cell.okWide P w r base t v → v = pack K.agg v.cells.toList := by
      intro hk hc
      rw [hk]
      cases v <;> first | rfl | exact (noagg hc).elim
    cases hk : K.agg with
    | false =>
      rw [← hk]
      refine key hk ?_
      cases ds <;> first | exact hv | simp [hk] at ha
    | true =>
      cases ds <;> first | (simp [hk] at ha; done) | (obtain ⟨cs, rfl, _⟩ := hv; rfl)
theorem wts_each {H : Type} {P : Program} {t : TypeId} {ts : List TypeId} {d : DataW H} {ds : List (DataW H)} (h : Wts (DataW.weightsEach P (t :: ts) (d :: ds))) : Wts (d.weights P t) ∧ Wts (DataW.weightsEach P ts ds) :=
  ⟨fun x hx => h x (by simp [DataW.weightsEach, hx]), fun x hx => h x (by simp [DataW.weightsEach, hx])⟩
theorem wts_of {l : List Nat} (h : l.all (· ≤ reachBytes) = true) : Wts l := fun x hx => by
  have := List.all_eq_true.1 h x hx
  exact of_decide_eq_true this
end Go.Pm
