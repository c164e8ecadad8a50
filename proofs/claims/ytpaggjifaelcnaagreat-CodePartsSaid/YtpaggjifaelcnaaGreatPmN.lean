import Derived.Test.YtpaggjifaelcnaaGreatPmM
/-
  PM, part N: pieces of slices and texts, results that lie in memory, runes, maps.
-/
set_option linter.unusedVariables false
set_option linter.unusedSimpArgs false
namespace Go.Pm
open Go Go.RowKit

/-- xs[lo:hi], of what is there. -/
def slc {α : Type} (xs : List α) (lo hi : Int) : Option (List α) := if 0 ≤ lo ∧ lo ≤ hi ∧ hi ≤ xs.length then some ((xs.take hi.toNat).drop lo.toNat) else none
def sslc (s : ByteArray) (lo hi : Int) : Option ByteArray := if 0 ≤ lo ∧ lo ≤ hi ∧ hi ≤ s.size then some (s.extract lo.toNat hi.toNat) else none

section
variable {P : Program} {B : Base} {Γ Γ' : List Ent} {Δ Δ' : List Rs} {Q : Exit → Act → World → Prop}
variable {d : Nat} {t : TypeId} {p : String} {af : Array Edge}

/-- A bound that may be left out: what it is then. -/
structure OOpd (Γ : List Ent) (o : Option Operand) (dflt x : Int) : Prop where
  ok : (o = none ∧ x = dflt) ∨ ∃ o' k, o = some o' ∧ Opd Γ o' (vInt k) x
theorem oo_n {Γ : List Ent} {x : Int} : OOpd Γ none x x := ⟨.inl ⟨rfl, rfl⟩⟩
theorem oo_s {Γ : List Ent} {o : Operand} {k : IntKind} {x y : Int} (h : Opd Γ o (vInt k) x) : OOpd Γ (some o) y x := ⟨.inr ⟨o, k, rfl, h⟩⟩

theorem bound_run {w : World} {k : IntKind} {x : Int} {y : Nat} {c : BoundsCode} (h0 : 0 ≤ x) (h1 : x ≤ y) : (Instr.sliceBound (.int k x) y c).run P w = .ok x.toNat w := by
  simp [Instr.sliceBound, asIntOf, h0, h1]
theorem bounds_run {w : World} {b : Bool} {n c : Nat} {lo hi : Int} {ol oh : Option Operand} {a : Act} {I Γ1} (hl : OOpd Γ ol 0 lo) (hh : OOpd Γ oh n hi) (hs : Sub Γ Γ1) (st : St B Γ1 Δ I a w) (h0 : 0 ≤ lo) (h1 : lo ≤ hi) (h2 : hi ≤ c) :
    (Instr.sliceBounds b n c (ol.map a.eval) (oh.map a.eval) none).run P w = .ok (lo.toNat, hi.toNat, c) w := by
  have hr : (match oh.map a.eval with | some v => Instr.sliceBound v c (if b then .sliceAcap else .sliceAlen) | none => pure n : Sem Nat).run P w = .ok hi.toNat w := by
    rcases hh.ok with ⟨rfl, rfl⟩ | ⟨o', k, rfl, ho⟩
    · simp
    · simp only [Option.map_some, vInt_iff.1 (ho.ok hs st)]; exact bound_run (by omega) h2
  have lr : (match ol.map a.eval with | some v => Instr.sliceBound v hi.toNat .sliceB | none => pure 0 : Sem Nat).run P w = .ok lo.toNat w := by
    rcases hl.ok with ⟨rfl, rfl⟩ | ⟨o', k, rfl, ho⟩
    · simp
    · simp only [Option.map_some, vInt_iff.1 (ho.ok hs st)]; exact bound_run h0 (by omega)
  unfold Instr.sliceBounds
  rcases hh.ok with ⟨rfl, rfl⟩ | ⟨o', k, rfl, ho⟩ <;> rcases hl.ok with ⟨rfl, rfl⟩ | ⟨o2, k2, rfl, ho2⟩ <;>
    simp only [Option.map_none, Option.map_some, Sem.run_bind, Sem.run_pure, Result.andThen_ok, Option.isSome_none, Bool.false_eq_true, if_false] at hr lr ⊢ <;> first
    | rfl
    | (simp only [hr, lr, Result.andThen_ok, Sem.run_pure]; done)
    | (simp only [hr, Result.andThen_ok, Sem.run_pure]; rfl)
    | (simp only [Int.toNat_natCast] at lr ⊢; simp only [lr, Result.andThen_ok, Sem.run_pure]; done)
    | (simp; done)

theorem l_sl {T e : TypeId} {o : Operand} {ol oh : Option Operand} {α : Type} {K : Kd α} {xs ys : List α} {lo hi : Int} (h : Opd Γ o (vSlice K) xs) (hl : OOpd Γ ol 0 lo) (hh : OOpd Γ oh xs.length hi) (hy : slc xs lo hi = some ys)
    (hT : isSlice P T e = true) (hn : tySize P e = some K.n) (hd : d < B.N) : Loc P B Γ Δ ⟨some d, .slice T o ol oh none, t, p, af, none⟩ ⟨d, vSlice K, ys⟩ Δ :=
  loc_val hd fun Γ1 I a w hs s => by
    obtain ⟨A, c, he, hc, hm, hE⟩ := vSlice_iff.1 (h.ok hs s)
    unfold slc at hy
    split at hy
    · rename_i hb
      obtain ⟨h0, h1, h2⟩ := hb
      cases hy
      have hbr := bounds_run (P := P) (b := true) hl hh hs s h0 h1 (show hi ≤ c by omega)
      obtain ⟨L, rfl⟩ := Int.eq_ofNat_of_zero_le h0
      obtain ⟨H, rfl⟩ := Int.eq_ofNat_of_zero_le (show 0 ≤ hi by omega)
      simp only [Int.toNat_natCast] at hbr ⊢
      have hlen : ((xs.take H).drop L).length = H - L := by simp; omega
      refine ⟨.slice (if c = L then A else A.map (·.add (L * K.n))) (H - L) (c - L), ?_, vSlice_iff.2 ⟨_, c - L, by rw [hlen], by omega, by omega, fun hne => ?_⟩⟩
      · have hu := isSlice_eq hT
        simp only [execOp, Instr.sliceAt, Sem.run_bind, run_underlying hu, Result.andThen_ok, he, Instr.slice, Option.map_none, hbr, run_sizeOf' hn, Sem.run_pure]
      · have hpos : L < H := by
          have : 0 < ((xs.take H).drop L).length := List.length_pos_iff.2 hne
          omega
        obtain ⟨b, q, rfl, hE'⟩ := hE (by rintro rfl; simp at h2; omega)
        have hcl : ¬ c = L := by omega
        refine ⟨b, q + L * K.n, by simp [hcl, add_eq], fun i x hx => ?_⟩
        have hx' : xs[L + i]? = some x := by
          rw [List.getElem?_drop] at hx
          rw [List.getElem?_take] at hx
          split at hx
          · exact hx
          · cases hx
        have := hE' _ _ hx'
        rwa [Nat.add_mul, ← Nat.add_assoc] at this
    · cases hy
theorem l_ssl {T : TypeId} {o : Operand} {ol oh : Option Operand} {x y : ByteArray} {lo hi : Int} (h : Opd Γ o vStr x) (hl : OOpd Γ ol 0 lo) (hh : OOpd Γ oh x.size hi) (hy : sslc x lo hi = some y) (hT : isStr P T = true) (hd : d < B.N) :
    Loc P B Γ Δ ⟨some d, .slice T o ol oh none, t, p, af, none⟩ ⟨d, vStr, y⟩ Δ :=
  loc_val hd fun Γ1 I a w hs s => by
    have he := vStr_iff.1 (h.ok hs s)
    unfold sslc at hy
    split at hy
    · rename_i hb
      obtain ⟨h0, h1, h2⟩ := hb
      cases hy
      have hbr := bounds_run (P := P) (b := false) hl hh hs s h0 h1 h2
      refine ⟨_, ?_, vStr_iff.2 rfl⟩
      simp only [execOp, Instr.sliceAt, Sem.run_bind, run_underlying (isStr_eq hT), Result.andThen_ok, he, Instr.slice, Option.map_none, Option.isSome_none, Bool.false_eq_true, if_false, Sem.run_pure, hbr]
    · cases hy
/-- .. of one's own row: it is the row, cut. -/
theorem r_slo {ops l} {T e i : Nat} {o : Operand} {oh : Option Operand} {v : Value} {α : Type} {K : Kd α} {xs : List α} {hi : Int} (h : Opd Γ o kVal.v v) (hi' : Δ[i]? = some (rArr v e K xs)) (hh : OOpd Γ oh xs.length hi) (hb : (decide (0 ≤ hi) && decide (hi ≤ xs.length)) = true)
    (hT : isSlice P T e = true) (hn : tySize P e = some K.n) (hd : d < B.N) (k : ∀ v', RL P B ops (⟨d, kVal.v, v'⟩ :: Γ) (Δ.set i (rArr v' e K (xs.take hi.toNat))) l Q) :
    RL P B ops Γ Δ (⟨some d, .slice T o none oh none, t, p, af, none⟩ :: l) Q := by
  intro I a w s
  simp only [Bool.and_eq_true, decide_eq_true_eq] at hb
  have he := (kVal_iff.1 (h.ok (Sub.refl _) s)).1
  obtain ⟨f, ⟨hfb, cs, hfl, hown⟩, hI, hF, up⟩ := ws_upd hi' s.ws
  obtain ⟨H, rfl⟩ := Int.eq_ofNat_of_zero_le hb.1
  have hH : H ≤ xs.length := by omega
  have take_flat : ∀ (xs : List α) (cs : List Value) (n : Nat), Flat K I w cs xs → Flat K I w (cs.take (n * K.n)) (xs.take n) := by
    intro xs
    induction xs with
    | nil => intro cs n h; cases h; simp [Flat]
    | cons x xs ih =>
      intro cs n h
      cases n with
      | zero => simp [Flat]
      | succ n =>
        obtain ⟨c, d', rfl, h1, h2⟩ := h
        refine ⟨c, d'.take (n * K.n), ?_, h1, ih _ _ h2⟩
        have := K.len h1
        rw [Nat.add_mul, Nat.one_mul, Nat.add_comm, ← this, List.take_length_add_append]
  obtain ⟨A, c, hv, hxc, hrow⟩ : ∃ A c, v = .slice A xs.length c ∧ xs.length ≤ c ∧ ∀ v', v' = Value.slice A H c → v'.ownBlock = v.ownBlock ∧ w.ownsRow 0 e K.n v' H (cs.take (H * K.n)) := by
    rcases hown.2 with ⟨rfl, hx⟩ | ⟨g, cap, cur, rfl, hbg, hg, hnc, hcm, hcs, htake⟩
    · refine ⟨none, 0, by rw [hx], by omega, ?_⟩
      rintro v' rfl
      have : H = 0 := by omega
      subst this
      exact ⟨rfl, by simp, .inl ⟨rfl, rfl⟩⟩
    · refine ⟨_, cap, rfl, hnc, ?_⟩
      rintro v' rfl
      refine ⟨rfl, ?_, .inr ⟨g, cap, cur, rfl, hbg, hg, by omega, hcm, hcs, ?_⟩⟩
      · rw [List.length_take, hown.1]; exact Nat.min_eq_left (Nat.mul_le_mul_right _ hH)
      · rw [← htake, List.take_take, Nat.min_eq_left (Nat.mul_le_mul_right _ hH)]
  obtain ⟨hblk, hown'⟩ := hrow _ rfl
  have hbr := bounds_run (P := P) (b := true) (n := xs.length) (c := c) (lo := 0) (hi := (H : Int)) oo_n hh (Sub.refl _) s (by omega) (by omega) (by omega)
  simp only [Int.toNat_natCast, Int.toNat_zero, Option.map_none] at hbr
  obtain ⟨g, hw⟩ := up (rArr (.slice A H c) e K (xs.take H)) _ _ _ (Fr.refl hI hF) ⟨fun c' => by rw [hblk]; exact hfb c', _, take_flat _ _ H hfl, by rw [List.length_take, Nat.min_eq_left hH]; exact hown'⟩
  refine wpList_plain rfl fun K1 hK1 => ?_
  unfold Oper.wp
  have : (execOp a.eval ⟨some d, .slice T o none oh none, t, p, af, none⟩).run P w = .ok (.value (.slice A H c)) w := by
    simp only [execOp, Instr.sliceAt, Sem.run_bind, run_underlying (isSlice_eq hT), Result.andThen_ok, he, hv, Instr.slice, Option.map_none, hbr, run_sizeOf' hn, Sem.run_pure]
    have hA : (A.map fun x => x.add (0 * K.n)) = A := by cases A <;> simp [Addr.add]
    rw [hA]; simp
  rw [this, Oper.upon_value]
  exact hK1 _ _ (k _ _ _ _ (s.put (Grow.refl _ _) hw hd (kVal_iff.2 ⟨rfl, rfl⟩)))

/-! results that lie in memory -/
theorem k_retc {fn : Func} {γ : Type} {out : γ → Out} {D : γ → List Rs} {α : Type} {K : Kd α} {x : α} {s T : Nat} {e : Exit} (g : γ) (hr : fn.results = #[.cell s T]) (hT : TyOk P T K) (hs : look Γ s = some ⟨s, vPtr K, x⟩) (ho : out g = .ret K.v x) (hD : D g = Δ) (he : (e matches .ret | .normal) = true) :
    Kx B Γ Δ (bodyPost P fn (Post out D B.I B.w B.F)) e := by
  intro I a w st
  obtain ⟨v, hv, hp⟩ := st.env s _ hs
  obtain ⟨b, q, rfl, hI, cs, hR, hc⟩ := vPtr_iff.1 hp
  obtain ⟨F, hS, hF⟩ := st.ws
  have hR' : Post out D B.I B.w B.F (.returned (pack K.agg cs)) w := ⟨g, I, F, by rw [ho]; exact ⟨_, rfl, cs, hR, rfl⟩, by rw [hD]; exact hS, hF⟩
  have hv' : a.tmps.getD s undef = .pointer (some ⟨b, q, none⟩) := by simp [Array.getD_eq_getD_getElem?, hv]
  have : (results fn a.tmps).run P w = .ok (pack K.agg cs) w := by
    have hl := run_loadVar' (P := P) hT hR hc
    simp only [results_eq, hr, Array.mapM_eq_mapM_toList, List.mapM_cons, List.mapM_nil, resV, Sem.run_bind, Sem.run_map, Sem.run_pure, hv', asAddr, hl, Result.andThen_ok]
    rfl
  cases e <;> first | exact ⟨st.defs, _, this, hR'⟩ | simp at he
/-- A variable of one's own is given to all. -/
theorem k_frzb {s i : Nat} {b : Nat} {e : TypeId} {α : Type} {K : Kd α} {x : α} {ex : Exit} (hs : look Γ s = some ⟨s, vLoc, (b, 0)⟩) (hi : Δ[i]? = some (rBox b e K x)) (k : Kx B (⟨s, vPtr K, x⟩ :: Γ) (Δ.set i rEmp) Q ex) : Kx B Γ Δ Q ex := by
  intro I a w st
  obtain ⟨f, ⟨hfb, cs, hr, hg⟩, hI, hF, up⟩ := ws_upd hi st.ws
  have fr := fr_free hI hF
  obtain ⟨g, hw⟩ := up rEmp _ _ _ fr (fun _ h => h)
  have st2 := st.step g hw
  refine k _ _ _ ⟨st2.size, st2.defs, fun s' e' he => ?_, st2.ws⟩
  simp only [look] at he
  by_cases h2 : s = s'
  · subst h2
    simp at he; subst he
    obtain ⟨v, hv, hp⟩ := st.env s _ hs
    exact ⟨v, hv, vPtr_iff.2 ⟨b, 0, hp, .inr ((hfb b).2 rfl), cs, K.mono g hr, CellsAt.block hg (by intro j v hj; simpa using hj)⟩⟩
  · rw [beq_ne h2] at he
    exact st2.env s' e' he

/-! runes -/
def runesL (s : ByteArray) : List Int := (Conv.runesFrom s s.size 0 #[]).toList.map intOf
theorem runes_ints (s : ByteArray) : ∀ (n i : Nat) (acc : Array Value), (∀ v ∈ acc, v = .int .i32 (intOf v)) → ∀ v ∈ Conv.runesFrom s n i acc, v = .int .i32 (intOf v)
  | 0, i, acc, h => h
  | n + 1, i, acc, h => by
    simp only [Conv.runesFrom]
    split
    · refine runes_ints s n _ _ fun v hv => ?_
      rcases Array.mem_push.1 hv with hv | rfl
      · exact h v hv
      · rfl
    · exact h
theorem flat_ints {I w} {k : IntKind} : ∀ (l : List Value), (∀ v ∈ l, v = .int k (intOf v)) → Flat (kInt k) I w l (l.map intOf)
  | [], _ => rfl
  | v :: l, h => ⟨[v], l, rfl, by show [v] = [.int k (intOf v)]; rw [← h v (by simp)], flat_ints l fun u hu => h u (by simp [hu])⟩
theorem l_runes {src dst e : TypeId} {o : Operand} {x : ByteArray} (h : Opd Γ o vStr x) (hs : isStr P src = true) (hT : isSlice P dst e = true) (he : isInt P e .i32 = true) (hsz : (decide ((runesL x).length ≤ 140737488355328)) = true) (hd : d < B.N) :
    Loc P B Γ Δ ⟨some d, .convert src dst o, t, p, af, none⟩ ⟨d, vSlice (kInt .i32), runesL x⟩ Δ := by
  intro Γ' I a w hsub s
  have hx := vStr_iff.1 (h.ok hsub s)
  have hsz := of_decide_eq_true hsz
  let el := Conv.runesFrom x x.size 0 #[]
  have hel : el.size = (runesL x).length := by simp [runesL, el]
  let cap := (Question.appendCap el.size 0 e).cut (w.tape w.drawn (.appendCap el.size 0 e))
  have hcap : el.size ≤ cap := by simp [cap, Question.cut]
  have s2 := s.drew (w.drawn + 1)
  obtain ⟨g, hw⟩ := new_imm (B := B) (.cells (el ++ Array.replicate (cap - el.size) (.int .i32 0)) e) s2.ws
  unfold Oper.wp
  have : (execOp a.eval ⟨some d, .convert src dst o, t, p, af, none⟩).run P w = .ok (.value (.slice (some ⟨w.heap.size, 0, none⟩) el.size cap)) { w with drawn := w.drawn + 1, heap := w.heap.push (.cells (el ++ Array.replicate (cap - el.size) (.int .i32 0)) e) } := by
    simp only [execOp, hx, convert, Sem.run_bind, run_underlying (isStr_eq hs), run_underlying (isSlice_eq hT), run_underlying (isInt_eq he), Result.andThen_ok, Conv.stringToRunes, run_choose, Question.forced, Bool.false_eq_true, if_false, newRow, run_newObj, Sem.run_pure]
    rfl
  rw [this, Oper.upon_value]
  refine ⟨_, s2.put g hw hd (vSlice_iff.2 ⟨_, cap, by rw [← hel], by omega, by omega, fun _ => ⟨w.heap.size, 0, rfl, ?_⟩⟩)⟩
  have hfl : Flat (kInt .i32) (fun b => I b ∨ b = w.heap.size) { w with drawn := w.drawn + 1, heap := w.heap.push (.cells (el ++ Array.replicate (cap - el.size) (.int .i32 0)) e) } el.toList (runesL x) :=
    flat_ints _ fun v hv => runes_ints x _ _ #[] (by simp) v (by simpa using hv)
  exact hfl.elems (.inr rfl) (CellsAt.block (c := el ++ Array.replicate (cap - el.size) (.int .i32 0)) (e := e) (fr := (0, 0)) (by simp) (by
    intro j v hj
    have hlt := (List.getElem?_eq_some_iff.1 hj).1
    simp only [Array.length_toList] at hlt
    rw [Nat.zero_add, Array.getElem?_append_left hlt]
    simpa using hj))
end
end Go.Pm
