import Derived.Test.YtpaggjifaelcnaaGreatPmN
/-
  PM, part O: maps.
-/
set_option linter.unusedVariables false
set_option linter.unusedSimpArgs false
namespace Go.Pm
open Go Go.RowKit

/-! maps as lists of pairs -/
def mget {κ β : Type} (eq : κ → κ → Bool) (x : κ) : List (κ × β) → Option β
  | [] => none
  | e :: m => if eq x e.1 then some e.2 else mget eq x m
def mset {κ β : Type} (eq : κ → κ → Bool) (x : κ) (v : β) : List (κ × β) → List (κ × β)
  | [] => [(x, v)]
  | e :: m => if eq x e.1 then (e.1, v) :: m else e :: mset eq x v m
def mdel {κ β : Type} (eq : κ → κ → Bool) (x : κ) : List (κ × β) → List (κ × β)
  | [] => []
  | e :: m => if eq x e.1 then m else e :: mdel eq x m
def midx {κ β : Type} (eq : κ → κ → Bool) (x : κ) : List (κ × β) → Nat → Option Nat
  | [], _ => none
  | e :: m, i => if eq x e.1 then some i else midx eq x m (i + 1)

def MapRep {κ β : Type} (K : Kd κ) (V : Kd β) (I : ISet) (w : World) : List MapEntry → List (κ × β) → Prop
  | [], [] => True
  | e :: es, x :: m => (∃ cs, K.R I w cs x.1 ∧ e.key = pack K.agg cs) ∧ V.v.P I w e.val x.2 ∧ MapRep K V I w es m
  | _, _ => False
theorem MapRep.mono {κ β : Type} {K : Kd κ} {V : Kd β} {I w J u} (g : Grow I w J u) : ∀ {es : List MapEntry} {m : List (κ × β)}, MapRep K V I w es m → MapRep K V J u es m
  | [], [], _ => trivial
  | e :: es, x :: m, ⟨⟨cs, h1, h2⟩, h3, h4⟩ => ⟨⟨cs, K.mono g h1, h2⟩, V.v.mono g h3, MapRep.mono g h4⟩
  | [], _ :: _, h => h.elim
  | _ :: _, [], h => h.elim
theorem MapRep.len {κ β : Type} {K : Kd κ} {V : Kd β} {I w} : ∀ {es : List MapEntry} {m : List (κ × β)}, MapRep K V I w es m → es.length = m.length
  | [], [], _ => rfl
  | e :: es, x :: m, ⟨_, _, h⟩ => by simp [MapRep.len h]
  | [], _ :: _, h => h.elim
  | _ :: _, [], h => h.elim

def findR (es : List MapEntry) : Option Nat → Option (Nat × Value)
  | none => none
  | some i => some (i, ((es[i]?).map (·.val)).getD undef)

structure KeyOk (P : Program) (T : TypeId) {κ : Type} (K : Kd κ) (eq : κ → κ → Bool) : Prop where
  check : ∀ {I w cs x} (b : Bool), K.R I w cs x → (Instr.checkKey b 10000 T (pack K.agg cs)).run P w = .ok () w
  find : ∀ {I w cs x} {β : Type} {V : Kd β} {es : List MapEntry} {m : List (κ × β)}, K.R I w cs x → MapRep K V I w es m → (Instr.findKey T (pack K.agg cs) es).run P w = .ok (findR es (midx eq x m 0)) w
  stays : ∀ {I w cs ds x y}, K.R I w cs x → K.R I w ds y → eq x y = true → (Instr.keyThatStays (pack K.agg ds) (pack K.agg cs)).run P w = .ok (pack K.agg cs) w
  eq_eq : ∀ {x y}, eq x y = true → x = y

section
variable {P : Program} {w : World}
theorem midx_add {κ β : Type} {eq : κ → κ → Bool} {x : κ} : ∀ (m : List (κ × β)) (i : Nat), midx eq x m i = (midx eq x m 0).map (· + i)
  | [], _ => rfl
  | e :: m, i => by
    simp only [midx]
    split
    · simp
    · rw [midx_add m (i + 1), midx_add m (0 + 1)]
      cases midx eq x m 0 <;> simp; omega
theorem findNow_run {κ β : Type} {K : Kd κ} {V : Kd β} {I w kd} {v : Value} {eq : κ → κ → Bool} {x : κ} (hs : ∀ cs y, K.R I w cs y → Instr.sameNow kd v (pack K.agg cs) = some (eq x y)) :
    ∀ {es : List MapEntry} {m : List (κ × β)} (i : Nat), MapRep K V I w es m → Instr.findNow kd v es i = some ((midx eq x m 0).map fun j => (i + j, ((es[j]?).map (·.val)).getD undef))
  | [], [], i, _ => rfl
  | e :: es, y :: m, i, ⟨⟨cs, h1, h2⟩, _, h4⟩ => by
    have h := hs cs y.1 h1
    simp only [Instr.findNow, h2, h, midx]
    cases eq x y.1
    · simp only [Bool.false_eq_true, if_false]
      rw [findNow_run hs (i + 1) h4, midx_add m (0 + 1)]
      cases midx eq x m 0 <;> simp; omega
    · simp
  | [], _ :: _, _, h => h.elim
  | _ :: _, [], _, h => h.elim
theorem chk_int {T k n b} {x : Int} (h : P.underlying T = some (.int k)) : (Instr.checkKey b (n + 1) T (.int k x)).run P w = .ok () w := by simp [Instr.checkKey, run_underlying h]
theorem chk_str {T n b} {x : ByteArray} (h : P.underlying T = some .string) : (Instr.checkKey b (n + 1) T (.string x)).run P w = .ok () w := by simp [Instr.checkKey, run_underlying h]
theorem key_int {T k} (h : isInt P T k = true) : KeyOk P T (kInt k) (fun x y => x == y) where
  check b hr := by cases hr; exact chk_int (n := 9999) (isInt_eq h)
  find {I w cs x β V es m} hr hm := by
    cases hr
    have := findNow_run (kd := .int k) (v := .int k x) (eq := fun x y => x == y) (x := x) (K := kInt k) (V := V) (I := I) (w := w) (by rintro cs y rfl; simp [Instr.sameNow, pack, kInt]) 0 hm
    simp only [Instr.findKey, pack, kInt, Bool.false_eq_true, if_false, List.headD_cons, Sem.run_bind, run_underlying (isInt_eq h), Result.andThen_ok, this, Sem.run_pure]
    cases midx (fun x y => x == y) x m 0 <;> simp [findR]
  stays h1 h2 he := by cases h1; cases h2; simp at he; subst he; simp [Instr.keyThatStays, Instr.sameBits, pack, kInt]
  eq_eq he := by simpa using he
theorem key_str {T} (h : isStr P T = true) : KeyOk P T kStr (fun x y => x.toList == y.toList) where
  check b hr := by cases hr; exact chk_str (n := 9999) (isStr_eq h)
  find {I w cs x β V es m} hr hm := by
    cases hr
    have := findNow_run (kd := .string) (v := .string x) (eq := fun x y => x.toList == y.toList) (x := x) (K := kStr) (V := V) (I := I) (w := w) (by rintro cs y rfl; simp [Instr.sameNow, pack, kStr, beq_toListBytes]) 0 hm
    simp only [Instr.findKey, pack, kStr, Bool.false_eq_true, if_false, List.headD_cons, Sem.run_bind, run_underlying (isStr_eq h), Result.andThen_ok, this, Sem.run_pure]
    cases midx (fun x y => x.toList == y.toList) x m 0 <;> simp [findR]
  stays {I w cs ds x y} h1 h2 he := by
    cases h1; cases h2
    have : (y == x) = true := by rw [beq_toListBytes]; simp at he ⊢; exact he.symm
    simp [Instr.keyThatStays, Instr.sameBits, pack, kStr, this]
  eq_eq {x y} he := by
    have h1 : x.toList = y.toList := by simpa using he
    rw [ByteArray.toList_eq, ByteArray.toList_eq] at h1
    obtain ⟨⟨a⟩⟩ := x
    obtain ⟨⟨b⟩⟩ := y
    simp at h1; rw [h1]

theorem mget_idx {κ β : Type} {K : Kd κ} {V : Kd β} {I w} {eq : κ → κ → Bool} {x : κ} : ∀ {es : List MapEntry} {m : List (κ × β)}, MapRep K V I w es m →
    match mget eq x m with
    | none => midx eq x m 0 = none
    | some y => ∃ i v, midx eq x m 0 = some i ∧ (es[i]?).map (·.val) = some v ∧ V.v.P I w v y
  | [], [], _ => rfl
  | e :: es, z :: m, ⟨h1, h2, h3⟩ => by
    simp only [mget, midx]
    cases hx : eq x z.1
    · have ih := mget_idx (eq := eq) (x := x) h3
      simp only [Bool.false_eq_true, if_false]
      rw [midx_add m (0 + 1)]
      cases hg : mget eq x m with
      | none => rw [hg] at ih; simp only at ih ⊢; rw [ih]; rfl
      | some y =>
        rw [hg] at ih
        obtain ⟨i, v, e1, e2, e3⟩ := ih
        exact ⟨i + 1, v, by rw [e1]; rfl, by simpa using e2, e3⟩
    · simp only [if_true]
      exact ⟨0, e.val, rfl, rfl, h2⟩
  | [], _ :: _, h => h.elim
  | _ :: _, [], h => h.elim
theorem mset_rep {κ β : Type} {K : Kd κ} {V : Kd β} {I w} {eq : κ → κ → Bool} {x : κ} {y : β} {cs : List Value} {v : Value} (hq : ∀ {x y}, eq x y = true → x = y) (hx : K.R I w cs x) (hv : V.v.P I w v y) : ∀ {es : List MapEntry} {m : List (κ × β)} (c : Nat), MapRep K V I w es m →
    match midx eq x m 0 with
    | none => MapRep K V I w (es ++ [{ key := pack K.agg cs, val := v, born := c }]) (mset eq x y m)
    | some i => MapRep K V I w (es.modify i fun e => { e with key := pack K.agg cs, val := v }) (mset eq x y m)
  | [], [], c, _ => ⟨⟨cs, hx, rfl⟩, hv, trivial⟩
  | e :: es, z :: m, c, ⟨h1, h2, h3⟩ => by
    simp only [mset, midx]
    cases hz : eq x z.1
    · have ih := mset_rep (eq := eq) hq hx hv c h3
      simp only [Bool.false_eq_true, if_false]
      rw [midx_add m (0 + 1)]
      cases hi : midx eq x m 0 with
      | none => rw [hi] at ih; exact ⟨h1, h2, ih⟩
      | some i => rw [hi] at ih; simp only [Option.map_some, List.modify_succ_cons]; exact ⟨h1, h2, ih⟩
    · have := hq hz
      simp only [if_true, List.modify_zero_cons]
      exact ⟨⟨cs, by rw [← this]; exact hx, rfl⟩, hv, h3⟩
  | [], _ :: _, _, h => h.elim
  | _ :: _, [], _, h => h.elim
end

/-! a map that no one writes -/
def kMap {κ β : Type} (K : Kd κ) (V : Kd β) : Kd (List (κ × β)) where
  n := 1; agg := false
  R I w cs m := (cs = [.map none] ∧ m = []) ∨ ∃ b es c, cs = [.map (some b)] ∧ I b ∧ w.heap[b]? = some (.map es c) ∧ MapRep K V I w es.toList m
  len := by rintro _ _ _ _ (⟨rfl, _⟩ | ⟨_, _, _, rfl, _⟩) <;> rfl
  one := by rintro _ _ _ _ (⟨rfl, _⟩ | ⟨_, _, _, rfl, _⟩) <;> simp [Value.oneCell']
  mono g h := h.imp _root_.id fun ⟨b, es, c, h1, h2, h3, h4⟩ => ⟨b, es, c, h1, g.sub _ h2, (g.same _ h2).trans h3, h4.mono g⟩
  h1 _ := rfl
/-- A map of one's own. -/
def rMap (v : Value) {κ β : Type} (K : Kd κ) (V : Kd β) (m : List (κ × β)) : Rs where
  P I w f := ∃ b es c, v = .map (some b) ∧ (∀ x, f x ↔ x = b) ∧ w.heap[b]? = some (.map es c) ∧ MapRep K V I w es.toList m
  mono g hf := fun ⟨b, es, c, h0, h1, h2, h3⟩ => ⟨b, es, c, h0, h1, (hf _ ((h1 _).2 rfl)).trans h2, h3.mono g⟩

def isMap (P : Program) (t k e : TypeId) : Bool := match P.underlying t with | some (.map k' e') => k == k' && e == e' | _ => false
theorem isMap_eq {P t k e} (h : isMap P t k e = true) : P.underlying t = some (.map k e) := by unfold isMap at h; split at h <;> simp_all

section
variable {P : Program} {B : Base} {Γ Γ' : List Ent} {Δ Δ' : List Rs} {Q : Exit → Act → World → Prop}
variable {d : Nat} {t : TypeId} {p : String} {af : Array Edge}
theorem r_mkmap {ops l} {T : TypeId} {κ β : Type} {K : Kd κ} {V : Kd β} (hd : d < B.N) (k : ∀ v, RL P B ops (⟨d, kVal.v, v⟩ :: Γ) (Δ ++ [rMap v K V []]) l Q) : RL P B ops Γ Δ (⟨some d, .makeMap T none, t, p, af, none⟩ :: l) Q := by
  intro I a w s
  obtain ⟨F, _, hF⟩ := s.ws
  obtain ⟨g, hw⟩ := ws_add s.ws (r' := rMap (.map (some w.heap.size)) K V []) (fr_push (.map #[] 0) hF.lt) ⟨_, #[], 0, rfl, fun _ => Iff.rfl, by simp, trivial⟩
  refine wpList_plain rfl fun K1 hK1 => ?_
  unfold Oper.wp
  have : (execOp a.eval ⟨some d, .makeMap T none, t, p, af, none⟩).run P w = .ok (.value (.map (some w.heap.size))) { w with heap := w.heap.push (.map #[] 0) } := by simp [execOp, Instr.makeMap]
  rw [this, Oper.upon_value]
  exact hK1 _ _ (k _ _ _ _ (s.put g hw hd (kVal_iff.2 ⟨rfl, rfl⟩)))

theorem update_run {w : World} {T kt e : TypeId} {κ β : Type} {K : Kd κ} {V : Kd β} {eq : κ → κ → Bool} {x : κ} {y : β} {m : List (κ × β)} {b : Nat} {es : Array MapEntry} {c : Nat} {I : ISet} {cs : List Value} {v : Value}
    (hT : isMap P T kt e = true) (hK : KeyOk P kt K eq) (hb : w.heap[b]? = some (.map es c)) (hm : MapRep K V I w es.toList m) (hx : K.R I w cs x) (hv : V.v.P I w v y) :
    ∃ es' c', (Instr.mapUpdate T (.map (some b)) (pack K.agg cs) v).run P w = .ok () { w with heap := w.heap.setIfInBounds b (.map es' c') } ∧ MapRep K V I w es'.toList (mset eq x y m) := by
  have hr := mset_rep hK.eq_eq hx hv c hm
  have hgo : (getObj b).run P w = .ok (.map es c) w := by simp [getObj, Sem.run, hb]
  have hso : ∀ o, (setObj b o).run P w = .ok () { w with heap := w.heap.setIfInBounds b o } := fun o => by simp [setObj, Sem.run, hb]
  have hf := hK.find hx hm
  have hc := hK.check false hx
  cases hi : midx eq x m 0 with
  | none =>
    rw [hi] at hr hf
    refine ⟨es.push { key := pack K.agg cs, val := v, born := c }, c + 1, ?_, by simpa using hr⟩
    simp only [Instr.mapUpdate, Sem.run_bind, run_underlying (isMap_eq hT), Result.andThen_ok, hgo, hc, hf, findR, hso]
  | some i =>
    rw [hi] at hr hf
    have hg := mget_idx (eq := eq) (x := x) hm
    have hlt : i < es.size := by
      cases hgm : mget eq x m with
      | none => rw [hgm] at hg; simp only at hg; rw [hi] at hg; cases hg
      | some z =>
        rw [hgm] at hg
        obtain ⟨j, u, h1, h2, _⟩ := hg
        rw [hi] at h1; cases h1
        rcases Nat.lt_or_ge i es.size with h | h
        · exact h
        · rw [List.getElem?_eq_none (by simpa using h)] at h2; cases h2
    -- the key that stands there
    have key : ∀ {es : List MapEntry} {m : List (κ × β)} {i : Nat}, MapRep K V I w es m → midx eq x m 0 = some i → ∃ e ds z, es[i]? = some e ∧ K.R I w ds z ∧ e.key = pack K.agg ds ∧ eq x z = true := by
      intro es m
      induction m generalizing es with
      | nil => intro i _ h; cases h
      | cons z m ih =>
        intro i h hi
        cases es with
        | nil => exact h.elim
        | cons e es =>
          obtain ⟨⟨ds, h1, h2⟩, _, h3⟩ := h
          simp only [midx] at hi
          split at hi
          · cases hi; exact ⟨e, ds, z.1, rfl, h1, h2, by assumption⟩
          · rw [midx_add] at hi
            cases hm' : midx eq x m 0 with
            | none => rw [hm'] at hi; cases hi
            | some j =>
              rw [hm'] at hi; cases hi
              obtain ⟨e', ds', z', q1, q2, q3, q4⟩ := ih h3 hm'
              exact ⟨e', ds', z', by simpa using q1, q2, q3, q4⟩
    obtain ⟨e0, ds, z, q1, q2, q3, q4⟩ := key hm hi
    have hst := hK.stays hx q2 q4
    have q1' : es[i]? = some e0 := by simpa using q1
    refine ⟨es.modify i fun e => { e with key := pack K.agg cs, val := v }, c, ?_, by simpa using hr⟩
    simp only [Instr.mapUpdate, Sem.run_bind, run_underlying (isMap_eq hT), Result.andThen_ok, hgo, hc, hf, findR, q1', Option.map_some, Option.getD_some, q3, hst, hso]

theorem map_ws {i : Nat} {v : Value} {κ β : Type} {K : Kd κ} {V : Kd β} {m m' : List (κ × β)} {I : ISet} {w : World} (hi : Δ[i]? = some (rMap v K V m)) (hw : ∃ F, Sep Δ I w F ∧ Fr B.I B.w B.F I w F) :
    ∃ b es c, v = .map (some b) ∧ w.heap[b]? = some (.map es c) ∧ MapRep K V I w es.toList m ∧
      ∀ es' c', MapRep K V I w es'.toList m' → Grow I w I { w with heap := w.heap.setIfInBounds b (.map es' c') } ∧ ∃ F, Sep (Δ.set i (rMap v K V m')) I { w with heap := w.heap.setIfInBounds b (.map es' c') } F ∧ Fr B.I B.w B.F I { w with heap := w.heap.setIfInBounds b (.map es' c') } F := by
  obtain ⟨f, ⟨b, es, c, hv, hf, hb, hm⟩, hI, hF, up⟩ := ws_upd hi hw
  refine ⟨b, es, c, hv, hb, hm, fun es' c' hm' => ?_⟩
  have fr : Fr I w f I { w with heap := w.heap.setIfInBounds b (.map es' c') } f :=
    fr_same rfl rfl rfl (by simp) (fun x hx => by
      have : b ≠ x := by rintro rfl; exact hx ((hf _).2 rfl)
      simp [this]) hI hF
  have hlt : b < w.heap.size := (hF b ((hf b).2 rfl)).2
  exact up _ _ _ _ fr ⟨b, es', c', hv, hf, by simp [hlt], hm'.mono (fr.grow hI (fun b hb => (hF b hb).1))⟩

theorem r_mu {ops l} {op : Op} {T kt e i : Nat} {o1 o2 o3 : Operand} {v : Value} {κ β : Type} {K : Kd κ} {V : Kd β} {eq : κ → κ → Bool} {x : κ} {y : β} {m : List (κ × β)} (hop : op = .mapUpdate T o1 o2 o3 ∨ op = .insert T o1 o2 o3)
    (hT : isMap P T kt e = true) (hK : KeyOk P kt K eq) (h1 : Opd Γ o1 kVal.v v) (h2 : Opd Γ o2 K.v x) (h3 : Opd Γ o3 V.v y) (hi : Δ[i]? = some (rMap v K V m)) (k : RL P B ops Γ (Δ.set i (rMap v K V (mset eq x y m))) l Q) :
    RL P B ops Γ Δ (⟨none, op, t, p, af, none⟩ :: l) Q := by
  intro I a w s
  have e1 := (kVal_iff.1 (h1.ok (Sub.refl _) s)).1
  obtain ⟨cs, hx, e2⟩ := h2.ok (Sub.refl _) s
  have hy := h3.ok (Sub.refl _) s
  obtain ⟨b, es, c, rfl, hb, hm, up⟩ := map_ws (m' := mset eq x y m) hi s.ws
  obtain ⟨es', c', hr, hm'⟩ := update_run hT hK hb hm hx hy
  obtain ⟨g, hw⟩ := up es' c' hm'
  refine wpList_plain rfl fun K1 hK1 => ?_
  unfold Oper.wp
  have : (execOp a.eval ⟨none, op, t, p, af, none⟩).run P w = .ok .skip { w with heap := w.heap.setIfInBounds b (.map es' c') } := by
    rcases hop with rfl | rfl <;> simp only [execOp, e1, e2, Sem.run_bind, hr, Result.andThen_ok, Sem.run_pure]
  rw [this, Oper.upon_skip]
  exact hK1 _ _ (k _ _ _ (s.step g hw))

theorem lookup_run {w : World} {T kt e : TypeId} {κ β : Type} {K : Kd κ} {V : Kd β} {eq : κ → κ → Bool} {x : κ} {m : List (κ × β)} {z : β} {mv : Value} {es : Array MapEntry} {I : ISet} {cs : List Value} (ok : Bool)
    (hT : isMap P T kt e = true) (hK : KeyOk P kt K eq) (hz : ZeroOk P e V z) (hes : (mv = .map none ∧ es = #[]) ∨ ∃ b c, mv = .map (some b) ∧ w.heap[b]? = some (.map es c)) (hm : MapRep K V I w es.toList m) (hx : K.R I w cs x) :
    ∃ v, (Instr.lookup T mv (pack K.agg cs) ok).run P w = .ok (if ok then .tuple #[v, .bool (mget eq x m).isSome] else v) w ∧ V.v.P I w v ((mget eq x m).getD z) := by
  have hf := hK.find hx hm
  have hg := mget_idx (eq := eq) (x := x) hm
  cases hgm : mget eq x m with
  | none =>
    rw [hgm] at hg
    simp only at hg
    rw [hg] at hf
    obtain ⟨zs, hz1, hz2⟩ := zero_run (w := w) hz
    refine ⟨_, ?_, zs, hz2 I w, rfl⟩
    rcases hes with ⟨rfl, rfl⟩ | ⟨b, c, rfl, hb⟩
    · simp only [Instr.lookup, Sem.run_bind, run_underlying (isMap_eq hT), Result.andThen_ok, Sem.run_pure, hK.check _ hx, hf, findR, hz1]; rfl
    · have hgo : (getObj b).run P w = .ok (.map es c) w := by simp [getObj, Sem.run, hb]
      simp only [Instr.lookup, Sem.run_bind, run_underlying (isMap_eq hT), Result.andThen_ok, hgo, Sem.run_pure, hK.check _ hx, hf, findR, hz1]; rfl
  | some y =>
    rw [hgm] at hg
    obtain ⟨i, v, h1, h2, h3⟩ := hg
    rw [h1] at hf
    refine ⟨v, ?_, h3⟩
    rcases hes with ⟨rfl, rfl⟩ | ⟨b, c, rfl, hb⟩
    · simp at h2
    · have hgo : (getObj b).run P w = .ok (.map es c) w := by simp [getObj, Sem.run, hb]
      simp only [Instr.lookup, Sem.run_bind, run_underlying (isMap_eq hT), Result.andThen_ok, hgo, Sem.run_pure, hK.check _ hx, hf, findR, h2, Option.getD_some]; rfl

/-- Asked of a map of one's own; of one that no one writes. -/
theorem l_lk {T kt e i : Nat} {o1 o2 : Operand} {v : Value} {κ β : Type} {K : Kd κ} {V : Kd β} {eq : κ → κ → Bool} {x : κ} {z : β} {m : List (κ × β)} (hT : isMap P T kt e = true) (hK : KeyOk P kt K eq) (hz : ZeroOk P e V z) (h1 : Opd Γ o1 kVal.v v) (h2 : Opd Γ o2 K.v x) (hi : Δ[i]? = some (rMap v K V m)) (hd : d < B.N) :
    Loc P B Γ Δ ⟨some d, .lookup T o1 o2 false, t, p, af, none⟩ ⟨d, V.v, (mget eq x m).getD z⟩ Δ :=
  loc_val hd fun _ I a w hs s => by
    have e1 := (kVal_iff.1 (h1.ok hs s)).1
    obtain ⟨cs, hx, e2⟩ := h2.ok hs s
    obtain ⟨b, es, c, rfl, hb, hm, _⟩ := map_ws (m' := m) hi s.ws
    obtain ⟨u, hr, hu⟩ := lookup_run false hT hK hz (.inr ⟨b, c, rfl, hb⟩) hm hx
    exact ⟨u, by simpa [execOp, e1, e2] using congrArg (fun r => r.andThen fun v w' => Result.ok (Next.value v) w') hr, hu⟩
theorem l_lki {T kt e : Nat} {o1 o2 : Operand} {κ β : Type} {K : Kd κ} {V : Kd β} {eq : κ → κ → Bool} {x : κ} {z : β} {m : List (κ × β)} (hT : isMap P T kt e = true) (hK : KeyOk P kt K eq) (hz : ZeroOk P e V z) (h1 : Opd Γ o1 (kMap K V).v m) (h2 : Opd Γ o2 K.v x) (hd : d < B.N) :
    Loc P B Γ Δ ⟨some d, .lookup T o1 o2 false, t, p, af, none⟩ ⟨d, V.v, (mget eq x m).getD z⟩ Δ :=
  loc_val hd fun _ I a w hs s => by
    obtain ⟨ms, hm, e1⟩ := h1.ok hs s
    obtain ⟨cs, hx, e2⟩ := h2.ok hs s
    obtain ⟨mv, es, he, hes, hrep⟩ : ∃ (mv : Value) (es : Array MapEntry), a.eval o1 = mv ∧ ((mv = .map none ∧ es = #[]) ∨ ∃ b c, mv = .map (some b) ∧ w.heap[b]? = some (.map es c)) ∧ MapRep K V I w es.toList m := by
      rcases hm with ⟨rfl, rfl⟩ | ⟨b, es, c, rfl, hI, hb, hm⟩
      · exact ⟨_, #[], e1, .inl ⟨rfl, rfl⟩, trivial⟩
      · exact ⟨_, es, e1, .inr ⟨b, c, rfl, hb⟩, hm⟩
    obtain ⟨u, hr, hu⟩ := lookup_run false hT hK hz hes hrep hx
    exact ⟨u, by simpa [execOp, he, e2] using congrArg (fun r => r.andThen fun v w' => Result.ok (Next.value v) w') hr, hu⟩
/-- .. with a word on whether it was there. -/
theorem l_lkok {T kt e i : Nat} {o1 o2 : Operand} {v : Value} {κ β : Type} {K : Kd κ} {V : Kd β} {eq : κ → κ → Bool} {x : κ} {z : β} {m : List (κ × β)} (hT : isMap P T kt e = true) (hK : KeyOk P kt K eq) (hz : ZeroOk P e V z) (h1 : Opd Γ o1 kVal.v v) (h2 : Opd Γ o2 K.v x) (hi : Δ[i]? = some (rMap v K V m)) (hd : d < B.N) :
    Loc P B Γ Δ ⟨some d, .lookup T o1 o2 true, t, p, af, none⟩ ⟨d, vTup (vlCons V.v (vlCons vBool vlNil)), ((mget eq x m).getD z, (mget eq x m).isSome, ())⟩ Δ :=
  loc_val hd fun _ I a w hs s => by
    have e1 := (kVal_iff.1 (h1.ok hs s)).1
    obtain ⟨cs, hx, e2⟩ := h2.ok hs s
    obtain ⟨b, es, c, rfl, hb, hm, _⟩ := map_ws (m' := m) hi s.ws
    obtain ⟨u, hr, hu⟩ := lookup_run true hT hK hz (.inr ⟨b, c, rfl, hb⟩) hm hx
    exact ⟨_, by simpa [execOp, e1, e2] using congrArg (fun r => r.andThen fun v w' => Result.ok (Next.value v) w') hr, [_, _], rfl, _, _, rfl, hu, _, _, rfl, vBool_iff.2 rfl, rfl⟩
theorem l_lkiok {T kt e : Nat} {o1 o2 : Operand} {κ β : Type} {K : Kd κ} {V : Kd β} {eq : κ → κ → Bool} {x : κ} {z : β} {m : List (κ × β)} (hT : isMap P T kt e = true) (hK : KeyOk P kt K eq) (hz : ZeroOk P e V z) (h1 : Opd Γ o1 (kMap K V).v m) (h2 : Opd Γ o2 K.v x) (hd : d < B.N) :
    Loc P B Γ Δ ⟨some d, .lookup T o1 o2 true, t, p, af, none⟩ ⟨d, vTup (vlCons V.v (vlCons vBool vlNil)), ((mget eq x m).getD z, (mget eq x m).isSome, ())⟩ Δ :=
  loc_val hd fun _ I a w hs s => by
    obtain ⟨ms, hm, e1⟩ := h1.ok hs s
    obtain ⟨cs, hx, e2⟩ := h2.ok hs s
    obtain ⟨mv, es, he, hes, hrep⟩ : ∃ (mv : Value) (es : Array MapEntry), a.eval o1 = mv ∧ ((mv = .map none ∧ es = #[]) ∨ ∃ b c, mv = .map (some b) ∧ w.heap[b]? = some (.map es c)) ∧ MapRep K V I w es.toList m := by
      rcases hm with ⟨rfl, rfl⟩ | ⟨b, es, c, rfl, hI, hb, hm⟩
      · exact ⟨_, #[], e1, .inl ⟨rfl, rfl⟩, trivial⟩
      · exact ⟨_, es, e1, .inr ⟨b, c, rfl, hb⟩, hm⟩
    obtain ⟨u, hr, hu⟩ := lookup_run true hT hK hz hes hrep hx
    exact ⟨_, by simpa [execOp, he, e2] using congrArg (fun r => r.andThen fun v w' => Result.ok (Next.value v) w') hr, [_, _], rfl, _, _, rfl, hu, _, _, rfl, vBool_iff.2 rfl, rfl⟩

/-- One's own map is given to all. -/
theorem x_frzm {s i : Nat} {v : Value} {κ β : Type} {K : Kd κ} {V : Kd β} {m : List (κ × β)} {I : ISet} {a : Act} {w : World} (hs : look Γ s = some ⟨s, kVal.v, v⟩) (hi : Δ[i]? = some (rMap v K V m)) (st : St B Γ Δ I a w) : ∃ J, St B (⟨s, (kMap K V).v, m⟩ :: Γ) (Δ.set i rEmp) J a w := by
  obtain ⟨f, ⟨b, es, c, hv, hf, hb, hm⟩, hI, hF, up⟩ := ws_upd hi st.ws
  have fr := fr_free hI hF
  obtain ⟨g, hw⟩ := up rEmp _ _ _ fr (fun _ h => h)
  have st2 := st.step g hw
  refine ⟨_, st2.size, st2.defs, fun s' e' he => ?_, st2.ws⟩
  simp only [look] at he
  by_cases h2 : s = s'
  · subst h2
    simp at he; subst he
    obtain ⟨u, hu, hp⟩ := st.env s _ hs
    have := (kVal_iff.1 hp).1
    subst this
    exact ⟨_, hu, [_], .inr ⟨b, es, c, by rw [hv], .inr ((hf b).2 rfl), hb, hm.mono g⟩, rfl⟩
  · rw [beq_ne h2] at he
    exact st2.env s' e' he
theorem r_frzm {ops l} {s i : Nat} {v : Value} {κ β : Type} {K : Kd κ} {V : Kd β} {m : List (κ × β)} (hs : look Γ s = some ⟨s, kVal.v, v⟩) (hi : Δ[i]? = some (rMap v K V m)) (k : RL P B ops (⟨s, (kMap K V).v, m⟩ :: Γ) (Δ.set i rEmp) l Q) : RL P B ops Γ Δ l Q :=
  fun I a w st => let ⟨J, h⟩ := x_frzm hs hi st; k J a w h
theorem k_frzm {s i : Nat} {v : Value} {κ β : Type} {K : Kd κ} {V : Kd β} {m : List (κ × β)} {ex : Exit} (hs : look Γ s = some ⟨s, kVal.v, v⟩) (hi : Δ[i]? = some (rMap v K V m)) (k : Kx B (⟨s, (kMap K V).v, m⟩ :: Γ) (Δ.set i rEmp) Q ex) : Kx B Γ Δ Q ex :=
  fun I a w st => let ⟨J, h⟩ := x_frzm hs hi st; k J a w h
end
end Go.Pm
