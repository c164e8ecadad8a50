import Derived.Test.YtpaggjifaelcnaaGreatPmQ
/-
  PM, part R: elements of one's own rows; calls that bring forth rows of one's own; calls that are lent what one owns.
-/
set_option linter.unusedVariables false
set_option linter.unusedSimpArgs false
namespace Go.Pm
open Go Go.RowKit

def rblk : Value → Nat
  | .slice (some a) _ _ => a.block
  | _ => 0
/-- The i-th of several things brought forth at once. -/
def tg (v : Value) (i : Nat) : Value := match v with
  | .tuple a => a.getD i undef
  | _ => undef

theorem flat_at {α : Type} {K : Kd α} {I w} : ∀ {xs : List α} {cs : List Value} {j : Nat} {x : α}, Flat K I w cs xs → xs[j]? = some x →
    ∃ c d e, cs = c ++ (d ++ e) ∧ c.length = j * K.n ∧ K.R I w d x ∧ ∀ d' y, K.R I w d' y → Flat K I w (c ++ (d' ++ e)) (xs.set j y)
  | x' :: xs, cs, 0, x, ⟨c, d, he, h, k⟩, hx => by
    simp at hx; subst hx
    exact ⟨[], c, d, by simpa using he, by simp, h, fun d' y hy => ⟨d', d, by simp, hy, k⟩⟩
  | x' :: xs, cs, j + 1, x, ⟨c, d, he, h, k⟩, hx => by
    obtain ⟨c', d', e', h1, h2, h3, h4⟩ := flat_at k (by simpa using hx)
    refine ⟨c ++ c', d', e', by rw [he, h1]; simp, by rw [List.length_append, h2, K.len h, Nat.add_mul, Nat.one_mul, Nat.add_comm], h3, fun d2 y hy => ⟨c, c' ++ (d2 ++ e'), by simp, h, h4 d2 y hy⟩⟩
  | [], _, _, _, _, hx => by simp at hx

section
variable {P : Program} {B : Base} {Γ Γ' : List Ent} {Δ Δ' : List Rs} {Q : Exit → Act → World → Prop}
variable {d : Nat} {t : TypeId} {p : String} {af : Array Edge}

theorem arr_some {I : ISet} {w : World} {f : ISet} {v : Value} {e : TypeId} {α : Type} {K : Kd α} {xs : List α} {j : Nat} {x : α} (h : (rArr v e K xs).P I w f) (hx : xs[j]? = some x) :
    ∃ g cap cur cs, v = .slice (some ⟨g, 0, none⟩) xs.length cap ∧ f g ∧ Flat K I w cs xs ∧ w.heap[g]? = some (.cells cur e (0, 0)) ∧ xs.length ≤ cap ∧ cap ≤ maxLen ∧ cur.size = cap * K.n ∧ cur.toList.take (xs.length * K.n) = cs ∧ cs.length = xs.length * K.n := by
  obtain ⟨hfb, cs, hfl, hl, hown⟩ := h
  rcases hown with ⟨rfl, h0⟩ | ⟨g, cap, cur, rfl, hb, hg, h1, h2, h3, h4⟩
  · have : xs = [] := List.length_eq_zero_iff.1 h0
    subst this; simp at hx
  · exact ⟨g, cap, cur, cs, rfl, (hfb g).2 rfl, hfl, hg, h1, h2, h3, h4, hl⟩

theorem l_iao {T e e' q : Nat} {o o' : Operand} {α : Type} {K : Kd α} {xs : List α} {k : IntKind} {i : Int} {x : α} {v : Value} (h : Opd Γ o kVal.v v) (h' : Opd Γ o' (vInt k) i) (hi : Δ[q]? = some (rArr v e K xs)) (hx : idx xs i = some x)
    (hT : isSlice P T e' = true) (hn : tySize P e' = some K.n) (hd : d < B.N) :
    Loc P B Γ Δ ⟨some d, .indexAddr T o o', t, p, af, none⟩ ⟨d, vLoc, (rblk v, i.toNat * K.n)⟩ Δ :=
  loc_val hd fun _ I a w hs s => by
    have he := (kVal_iff.1 (h.ok hs s)).1
    have hiv := vInt_iff.1 (h'.ok hs s)
    obtain ⟨h0, hl, hg⟩ := idx_some hx
    obtain ⟨f, hf, _⟩ := ws_upd hi s.ws
    obtain ⟨g, cap, cur, cs, rfl, _⟩ := arr_some hf hg
    refine ⟨.pointer (some ⟨g, i.toNat * K.n, none⟩), ?_, rfl⟩
    simp [execOp, he, hiv, Instr.indexAt, asIntOf, run_underlying (isSlice_eq hT), h0, hl, run_sizeOf' hn, add_eq]

theorem split_row {α : Type} {K : Kd α} {β : Type} {L : Kd β} {get set} {off : Nat} {I w} {xs : List α} {j : Nat} {x : α} {cs : List Value} {cur : Array Value} (hf : Fld K off L get set) (hfl : Flat K I w cs xs) (hj : xs[j]? = some x) (hcs : cur.toList.take (xs.length * K.n) = cs) :
    ∃ c d e, cur.toList = c ++ (d ++ e) ∧ c.length = j * K.n + off ∧ L.R I w d (get x) ∧ d.length = L.n ∧
      ∀ ys y, L.R I w ys y → Flat K I w ((c ++ (ys ++ e)).take (xs.length * K.n)) (xs.set j (set y x)) ∧ (c ++ (ys ++ e)).length = cur.size := by
  obtain ⟨c, d, e, h1, h2, h3, h4⟩ := flat_at hfl hj
  obtain ⟨c1, d1, e1, h5, h6, h7⟩ := hf.get h3
  have hd1 := L.len h7
  obtain ⟨rest, hcur⟩ : ∃ rest, cur.toList = cs ++ rest := ⟨cur.toList.drop (xs.length * K.n), by rw [← hcs, List.take_append_drop]⟩
  have hlen := hfl.len
  refine ⟨c ++ c1, d1, e1 ++ (e ++ rest), by rw [hcur, h1, h5]; simp, by simp [h2, h6], h7, hd1, fun ys y hy => ?_⟩
  have hy' := L.len hy
  have hput := hf.put h3 h5 h6 hd1 hy
  have hnew := h4 _ _ hput
  have hnl := hnew.len
  have heq : (c ++ c1 ++ (ys ++ (e1 ++ (e ++ rest)))) = (c ++ ((c1 ++ (ys ++ e1)) ++ e)) ++ rest := by simp
  have htl : (c ++ ((c1 ++ (ys ++ e1)) ++ e)).length = xs.length * K.n := by rw [hnl]; simp
  constructor
  · rw [heq, List.take_append_of_le_length (by omega), List.take_of_length_le (by omega)]; exact hnew
  · have h8 : cur.toList.length = cur.size := by simp
    have h9 := congrArg List.length hcur
    rw [List.length_append] at h9
    rw [heq, List.length_append, htl]; omega

theorem l_ldo {T : TypeId} {o : Operand} {v : Value} {j off i : Nat} {e : TypeId} {α β : Type} {K : Kd α} {L : Kd β} {get set} {xs : List α} {x : α} (h : Opd Γ o vLoc (rblk v, j * K.n + off)) (hi : Δ[i]? = some (rArr v e K xs)) (hj : xs[j]? = some x) (hf : Fld K off L get set) (hT : TyOk P T L) (hd : d < B.N) :
    Loc P B Γ Δ ⟨some d, .load T o, t, p, af, none⟩ ⟨d, L.v, get x⟩ Δ :=
  loc_val hd fun _ I a w hs s => by
    have he : a.eval o = .pointer (some ⟨rblk v, j * K.n + off, none⟩) := h.ok hs s
    obtain ⟨f, hr, _⟩ := ws_upd hi s.ws
    obtain ⟨g, cap, cur, cs, rfl, _, hfl, hg, h1, h2, h3, h4, _⟩ := arr_some hr hj
    obtain ⟨c, dd, ee, h5, h6, h7, h8, _⟩ := split_row hf hfl hj h4
    have hc : CellsAt w g (j * K.n + off) dd := CellsAt.block hg (by
      intro k u hk
      rw [← Array.getElem?_toList, h5, List.getElem?_append_right (by omega), h6, Nat.add_sub_cancel_left, List.getElem?_append_left (List.getElem?_eq_some_iff.1 hk).1]; exact hk)
    exact ⟨pack L.agg dd, by simp [execOp, he, rblk, Instr.loadAt, Instr.sureAddr, run_loadVar' hT h7 hc], dd, h7, rfl⟩

theorem r_sto {ops l} {T : TypeId} {o o' : Operand} {v : Value} {j off i : Nat} {e : TypeId} {α β : Type} {K : Kd α} {L : Kd β} {get set} {xs : List α} {x : α} {y : β} (h : Opd Γ o vLoc (rblk v, j * K.n + off)) (h' : Opd Γ o' L.v y) (hi : Δ[i]? = some (rArr v e K xs)) (hj : xs[j]? = some x) (hf : Fld K off L get set) (hn : tySize P T = some L.n)
    (k : RL P B ops Γ (Δ.set i (rArr v e K (xs.set j (set y x)))) l Q) : RL P B ops Γ Δ (⟨none, .store T o o', t, p, af, none⟩ :: l) Q := by
  intro I a w s
  have he : a.eval o = .pointer (some ⟨rblk v, j * K.n + off, none⟩) := h.ok (Sub.refl _) s
  obtain ⟨ys, hy, hv⟩ := h'.ok (Sub.refl _) s
  obtain ⟨f, hr, hI, hF, up⟩ := ws_upd hi s.ws
  have hfb := hr.1
  obtain ⟨g, cap, cur, cs, rfl, hfg, hfl, hg, h1, h2, h3, h4, h4'⟩ := arr_some hr hj
  obtain ⟨c, dd, ee, h5, h6, h7, h8, h9⟩ := split_row hf hfl hj h4
  obtain ⟨hnew, hsz⟩ := h9 ys y hy
  have hly := L.len hy
  have hcl : (c ++ (dd ++ ee)).length = cur.size := by rw [← h5]; simp
  have hst := storeVar_run (w := w) (w0 := w) (e := e) (cur := cur) (b := g) hn hy hv hg (j * K.n + off) (by simp at hcl; omega)
  have hcells : cur.toList.take (j * K.n + off) ++ ys ++ cur.toList.drop (j * K.n + off + ys.length) = c ++ (ys ++ ee) := by
    rw [h5, ← h6, hly, ← h8]
    simp [← List.drop_drop]
  rw [hcells] at hst
  have fr := fr_setRow (w := w) g (c ++ (ys ++ ee)).toArray hfg hI hF
  have gr := fr.grow hI (fun b hb => (hF b hb).1)
  obtain ⟨_, hw⟩ := up (rArr (.slice (some ⟨g, 0, none⟩) xs.length cap) e K (xs.set j (set y x))) _ _ _ fr ⟨hfb, _, hnew.mono gr, by
    rw [List.length_set]
    refine ⟨by rw [List.length_take, hsz, h3]; exact Nat.min_eq_left (Nat.mul_le_mul_right _ h1), .inr ⟨g, cap, (c ++ (ys ++ ee)).toArray, rfl, Nat.zero_le _, setRow_heap w g _ _ e _ hg, h1, h2, by rw [← h3, ← hsz]; simp, by simp⟩⟩⟩
  refine wpList_plain rfl fun K1 hK1 => ?_
  unfold Oper.wp
  have : (execOp a.eval ⟨none, .store T o o', t, p, af, none⟩).run P w = .ok .skip (w.setRow g (c ++ (ys ++ ee)).toArray) := by
    simp only [execOp, he, rblk, Instr.storeAt, Instr.sureAddr, Sem.run_bind, Sem.run_pure, Result.andThen_ok, hst]
  rw [this, Oper.upon_skip]
  exact hK1 _ _ (k _ _ _ (s.step gr hw))
theorem e_sto {T : TypeId} {o o' : Operand} {v : Value} {j off i : Nat} {e : TypeId} {α β : Type} {K : Kd α} {L : Kd β} {get set} {xs : List α} {x : α} {y : β} (h : Opd Γ o vLoc (rblk v, j * K.n + off)) (h' : Opd Γ o' L.v y) (hi : Δ[i]? = some (rArr v e K xs)) (hj : xs[j]? = some x) (hf : Fld K off L get set) (hn : tySize P T = some L.n) :
    LocX P B Γ Δ ⟨none, .store T o o', t, p, af, none⟩ (fun _ => none) (fun _ => Δ.set i (rArr v e K (xs.set j (set y x)))) :=
  lx_r rfl fun _ hs _ k => r_sto (h.sub hs) (h'.sub hs) hi hj hf hn (k undef)

/-! calls that bring forth -/
theorem r_callo {ops l} {f : FuncId} {os : List Operand} {ats : Array TypeId} {as : List Arg} {Δa Δ0 : List Rs} {out : Value → Out} {Dr Δ2 : Value → List Rs} {β : Value → Type} {V : ∀ v, Vd (β v)} {y : ∀ v, β v}
    (h : FC P f as Δa out Dr) (ho : Opds Γ os as) (hr : ∀ v, out v = .ret (V v) (y v)) (p1 : Δ.Perm (Δa ++ Δ0)) (p2 : ∀ v, (Dr v ++ Δ0).Perm (Δ2 v)) (hd : d < B.N) (k : ∀ v, RL P B ops (⟨d, V v, y v⟩ :: Γ) (Δ2 v) l Q) :
    RL P B ops Γ Δ (⟨some d, .call { callee := .value (.func f), args := os.toArray, argTypes := ats }, t, p, af, none⟩ :: l) Q := by
  refine r_perm p1 (r_call h ho hr hd fun g => r_perm (p2 g) (k g))
theorem e_callo {f : FuncId} {os : List Operand} {ats : Array TypeId} {as : List Arg} {Δa Δ0 : List Rs} {out : Value → Out} {Dr Δ2 : Value → List Rs} {β : Value → Type} {V : ∀ v, Vd (β v)} {y : ∀ v, β v}
    (h : FC P f as Δa out Dr) (ho : Opds Γ os as) (hr : ∀ v, out v = .ret (V v) (y v)) (p1 : Δ.Perm (Δa ++ Δ0)) (p2 : ∀ v, (Dr v ++ Δ0).Perm (Δ2 v)) (hd : d < B.N) :
    LocX P B Γ Δ ⟨some d, .call { callee := .value (.func f), args := os.toArray, argTypes := ats }, t, p, af, none⟩ (fun v => some ⟨d, V v, y v⟩) Δ2 := by
  intro Γ' I a w hs s
  refine call_wp h ho hs (s.perm p1) fun g J u hg hw => ?_
  rw [hr g]
  exact fun v hv => ⟨g, J, (s.put hg hw hd hv).perm (p2 g)⟩
theorem pn_end {Δr Δ : List Rs} : (Δr ++ Δ).Perm (Δ ++ Δr) := List.perm_append_comm

/-- What is kept at the end. -/
theorem k_keep {Δa Δ0 : List Rs} {ex : Exit} (p : Δ.Perm (Δa ++ Δ0)) (k : Kx B Γ Δa Q ex) : Kx B Γ Δ Q ex :=
  fun I a w st => k_take (Δ := Δa ++ Δ0) Δa.length (by rw [List.take_left]; exact k) I a w (st.perm p)
/-! calls that are lent what one owns -/
theorem sep_mem {I : ISet} {w : World} {F : ISet} {i : Nat} {r : Rs} (h : Sep Δ I w F) (hi : Δ[i]? = some r) : ∃ f, r.P I w f ∧ ∀ b, f b → F b := by
  obtain ⟨f1, f2, he, _, h1, _⟩ := h.perm (take_front hi)
  exact ⟨f1, h1, fun b hb => (he b).2 (.inl hb)⟩
structure OpdB (Γ : List Ent) (Δ : List Rs) (o : Operand) {α : Type} (V : Vd α) (x : α) : Prop where
  ok : ∀ {B I a w Γ' F}, Sub Γ Γ' → St B Γ' Δ I a w → Sep Δ I w F → V.P (fun b => I b ∨ F b) w (a.eval o) x
theorem ob_o {o : Operand} {α : Type} {V : Vd α} {x : α} (h : Opd Γ o V x) : OpdB Γ Δ o V x :=
  ⟨fun hs st _ => V.mono ⟨Nat.le_refl _, fun _ h => .inl h, fun _ _ => rfl⟩ (h.ok hs st)⟩
inductive OpdsB (Γ : List Ent) (Δ : List Rs) : List Operand → List Arg → Prop
  | nil : OpdsB Γ Δ [] []
  | cons {o os} {α : Type} {V : Vd α} {x : α} {as} (h : OpdB Γ Δ o V x) (k : OpdsB Γ Δ os as) : OpdsB Γ Δ (o :: os) (⟨V, x⟩ :: as)
theorem OpdsB.ok {os as} (h : OpdsB Γ Δ os as) {B Γ' I a w F} (hs : Sub Γ Γ') (st : St B Γ' Δ I a w) (hS : Sep Δ I w F) : ArgsOK (fun b => I b ∨ F b) w (os.map a.eval) as := by
  induction h with
  | nil => trivial
  | cons h k ih => exact ⟨h.ok hs st hS, ih⟩
def FlatV {β : Type} (V : Vd β) : Prop := ∀ {I w J u v x}, V.P I w v x → V.P J u v x
theorem flat_int {k} : FlatV (vInt k) := fun h => vInt_iff.2 (vInt_iff.1 h)
theorem flat_bool : FlatV vBool := fun h => vBool_iff.2 (vBool_iff.1 h)
theorem flat_str : FlatV vStr := fun h => vStr_iff.2 (vStr_iff.1 h)
theorem l_callb {f : FuncId} {os : List Operand} {ats : Array TypeId} {as : List Arg} {β : Type} {V : Vd β} {y : β} (h : FP P f as V y) (hV : FlatV V) (ho : OpdsB Γ Δ os as) (hd : d < B.N) :
    Loc P B Γ Δ ⟨some d, .call { callee := .value (.func f), args := os.toArray, argTypes := ats }, t, p, af, none⟩ ⟨d, V, y⟩ Δ := by
  intro Γ' I a w hs s
  obtain ⟨F, hS, hF⟩ := s.ws
  unfold Oper.wp
  rw [call_run h.ok, Oper.upon_enter]
  refine (h.calls (fun b => I b ∨ F b) w _ (fun _ => False) (ho.ok hs s hS) (fun _ h => h) (fun b hb => hb.elim (hF.lt b) (fun h => (hF.gl b h).2)) (fun _ h => h.elim)).mono fun e u hp => ?_
  obtain ⟨_, J, G, ⟨v, rfl, hv⟩, _, hfr⟩ := hp
  have hsame : ∀ b, b < w.heap.size → u.heap[b]? = w.heap[b]? := fun b hb => hfr.same b hb (fun h => h)
  have g : Grow I w I u := ⟨hfr.le, fun _ h => h, fun b hb => hsame b (hF.lt b hb)⟩
  have fr : Fr I w F I u F := ⟨hfr.os, hfr.tape, hfr.output, hfr.le, fun _ h => h, fun b hb _ => hsame b hb, fun _ h => .inl h, fun _ h => .inl h, fun b hb => Nat.lt_of_lt_of_le (hF.lt b hb) hfr.le, fun b hb => ⟨(hF.gl b hb).1, Nat.lt_of_lt_of_le (hF.gl b hb).2 hfr.le⟩⟩
  exact ⟨I, s.put g ⟨F, hS.mono g fun b hb => hsame b (hF.gl b hb).2, hF.trans fr⟩ hd (hV hv)⟩
/-- From what is owned to what may be read. -/
structure Cv (Δ : List Rs) {α β : Type} (K : Kd α) (L : Kd β) (x : α) (y : β) : Prop where
  ok : ∀ {I w F cs}, Sep Δ I w F → K.R I w cs x → L.R (fun b => I b ∨ F b) w cs y
theorem cv_eq {α : Type} {K : Kd α} {x : α} : Cv Δ K K x x := ⟨fun _ h => K.mono ⟨Nat.le_refl _, fun _ h => .inl h, fun _ _ => rfl⟩ h⟩
theorem cv_nil : Cv Δ kNil kNil () () := cv_eq
theorem cv_pair {α β γ δ : Type} {K : Kd α} {L : Kd β} {M : Kd γ} {N : Kd δ} {x : α × β} {y : γ × δ} (h : Cv Δ K M x.1 y.1) (k : Cv Δ L N x.2 y.2) : Cv Δ (kPair K L) (kPair M N) x y :=
  ⟨fun hS ⟨c, d, e, h1, h2⟩ => ⟨c, d, e, h.ok hS h1, k.ok hS h2⟩⟩
theorem cv_st {α β γ δ : Type} {K : Kd α} {L : Kd β} {f : γ → α} {g : δ → β} {x : γ} {y : δ} (h : Cv Δ K L (f x) (g y)) : Cv Δ (kSt K f) (kSt L g) x y := ⟨fun hS h1 => h.ok hS h1⟩
theorem cv_own {i : Nat} {v : Value} {e : TypeId} {α : Type} {K : Kd α} {xs : List α} (hi : Δ[i]? = some (rArr v e K xs)) : Cv Δ kVal (kSlice K) v xs := ⟨fun {I w F cs} hS ⟨hc, _⟩ => by
  obtain ⟨f, hf, hF⟩ := sep_mem hS hi
  exact ⟨v, hc, arr_free hf ⟨Nat.le_refl _, fun _ h => .inl h, fun _ _ => rfl⟩ (fun _ _ => rfl) (fun b hb => .inr (hF b hb))⟩⟩
theorem ob_cv {o : Operand} {α β : Type} {K : Kd α} {L : Kd β} {x : α} {y : β} (h : Opd Γ o K.v x) (hc : Cv Δ K L x y) (ha : K.agg = L.agg) : OpdB Γ Δ o L.v y :=
  ⟨fun hs st hS => let ⟨cs, hr, he⟩ := h.ok hs st; ⟨cs, hc.ok hS hr, by rw [he, ha]⟩⟩
end
end Go.Pm
