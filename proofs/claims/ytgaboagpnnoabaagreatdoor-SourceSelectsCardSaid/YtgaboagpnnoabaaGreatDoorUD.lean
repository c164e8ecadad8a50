import Derived.Lib.Bytealg
import Derived.Maps.RangeRun
import Derived.Test.YtgaboagpnnoabaaGreatDoorUC
/-
  U, part 39: functions that are not gone through: what the program has no text of.
-/
set_option linter.unusedVariables false
set_option linter.unusedSimpArgs false
set_option linter.unusedSectionVars false
namespace Go.U
open Go Go.RowKit

/-- What a function comes to, whatever lies about. -/
def FnOk (C : Cx) (ρ : Nat → Int) (f : FuncId) (g : List A → Hp → Option (A × Hp)) : Prop :=
  ∀ w0 K ψ h w args us a h', Mem C ρ w0 K ψ h w → VRs ρ ψ args us → g args h = some (a, h') →
    (∃ v w' ψ', (callFunc f us.toArray).run C.P w = .ok (.value v) w' ∧ ψ.le ψ' ∧ Mem C ρ w0 K ψ' h' w' ∧ VR ρ ψ' a v) ∨ CallIs C ρ w0 K ψ w f us a h'
theorem NatOk.of {C : Cx} {ρ : Nat → Int} (h : ∀ f g, C.nat.get f = some g → FnOk C ρ f g.f) (w0 : World) : NatOk C ρ w0 := by
  intro f g hg K ψ h' w args us a h'' m hu he
  rcases h f g hg w0 K ψ h' w args us a h'' m hu he with h1 | ⟨h1, h2⟩
  · exact .inl h1
  · exact .inr ⟨w, h1 w, h2⟩
/-- One, or else the other. -/
noncomputable def natOr (g g' : List A → Hp → Option (A × Hp)) (args : List A) (h : Hp) : Option (A × Hp) := match g args h with
  | some p => some p
  | none => g' args h
theorem FnOk.or {C : Cx} {ρ : Nat → Int} {f : FuncId} {g g' : List A → Hp → Option (A × Hp)} (h : FnOk C ρ f g) (h' : FnOk C ρ f g') : FnOk C ρ f (natOr g g') := by
  intro w0 K ψ hp w args us a hp' m hu he
  unfold natOr at he
  split at he
  · rename_i p hp; cases he; exact h w0 K ψ _ w args us _ _ m hu hp
  · exact h' w0 K ψ _ w args us a hp' m hu he
theorem FnOk.subs {C : Cx} {ρ : Nat → Int} {G : Nat} {f : FuncId} {cks : List Chunk} (h : ∀ ck ∈ cks, SubOk C ρ G f ck) : FnOk C ρ f (natSubs G cks) :=
  fun w0 K ψ hp w args us a hp' m hu he => .inr (subs_sound h w0 K ψ hp w args us a hp' m hu he)
/-- A function without a text: the entry that stands for it. -/
structure IsExt (P : Program) (f : FuncId) (e : Array Value → Sem Value) : Prop where
  is : ∃ fn, P.funcs[f]? = some fn ∧ (fn.name == "runtime.NumGoroutine") = false ∧ fn.body.isNone = true ∧ Extern.findNext fn = none ∧ Extern.find fn = some e
theorem IsExt.run {P : Program} {f : FuncId} {e : Array Value → Sem Value} (h : IsExt P f e) {us : Array Value} {w w' : World} {v : Value} (hr : (e us).run P w = .ok v w') : (callFunc f us).run P w = .ok (.value v) w' := by
  obtain ⟨fn, h1, h2, h3, h4, h5⟩ := h.is
  rw [run_callFunc_extern h1 h2 h3 h4 h5, hr]; rfl
noncomputable def idxOf (c : Nat) : List Nat → Nat → Int
  | [], _ => -1
  | b :: l, i => bif Nat.beq (b % 256) c then Int.ofNat i else idxOf c l (i + 1)
noncomputable def natIndexByte : List A → Hp → Option (A × Hp)
  | [.s l, .i .u8 (.ofNat c)], h => some (.i .i64 (idxOf (c % 256) l 0), h)
  | _, _ => none
noncomputable def natAdd : List A → Hp → Option (A × Hp)
  | [.i .u64 (.ofNat x), .i .u64 (.ofNat y), .i .u64 (.ofNat c)], h => bif Nat.ble c 1 then some (.tu [.i .u64 (Int.ofNat ((x + y + c) % 18446744073709551616)), .i .u64 (Int.ofNat ((x + y + c) / 18446744073709551616))], h) else none
  | _, _ => none
theorem VRs.two {ρ : Nat → Int} {ψ : Psi} {a b : A} {us : List Value} (h : VRs ρ ψ [a, b] us) : ∃ u v, us = [u, v] ∧ VR ρ ψ a u ∧ VR ρ ψ b v := by
  obtain ⟨u, us1, rfl, h1, h2⟩ := h
  obtain ⟨v, us2, rfl, h3, h4⟩ := h2
  cases h4
  exact ⟨u, v, rfl, h1, h3⟩
theorem VRs.three {ρ : Nat → Int} {ψ : Psi} {a b c : A} {us : List Value} (h : VRs ρ ψ [a, b, c] us) : ∃ u v x, us = [u, v, x] ∧ VR ρ ψ a u ∧ VR ρ ψ b v ∧ VR ρ ψ c x := by
  obtain ⟨u, us1, rfl, h1, h2⟩ := h
  obtain ⟨v, x, rfl, h3, h4⟩ := h2.two
  exact ⟨u, v, x, rfl, h1, h3, h4⟩
theorem byte_eq (b c : Nat) : (UInt8.ofNat b == UInt8.ofNat c) = Nat.beq (b % 256) (c % 256) := by
  rw [Bool.eq_iff_iff, Nat.beq_eq, beq_iff_eq, ← UInt8.toNat_inj]
  simp
theorem indexByte_is (c : Nat) : ∀ (l : List Nat) (i : Nat), idxOf (c % 256) l i = if Lib.indexByte (l.map UInt8.ofNat) (UInt8.ofNat c) = -1 then -1 else i + Lib.indexByte (l.map UInt8.ofNat) (UInt8.ofNat c)
  | [], i => by simp [idxOf, Lib.indexByte]
  | b :: l, i => by
    have ih := indexByte_is c l (i + 1)
    have hge := Lib.indexByte_ge (l.map UInt8.ofNat) (UInt8.ofNat c)
    unfold idxOf
    simp only [List.map_cons, Lib.indexByte, byte_eq]
    cases hb : Nat.beq (b % 256) (c % 256) with
    | true => simp
    | false =>
      simp only [cond_false]
      rw [ih]
      by_cases h1 : Lib.indexByte (l.map UInt8.ofNat) (UInt8.ofNat c) = -1
      · simp [h1]
      · have h2 : (Lib.indexByte (l.map UInt8.ofNat) (UInt8.ofNat c) == -1) = false := by simp [h1]
        rw [if_neg h1, h2]
        simp only [Bool.false_eq_true, if_false]
        rw [if_neg (by omega)]
        omega
theorem natIndexByte_ok {C : Cx} {ρ : Nat → Int} {f : FuncId} (he : IsExt C.P f Extern.BytealgIndexByte.indexByte) : FnOk C ρ f natIndexByte := by
  intro w0 K ψ h w args us a h' m hu hn
  unfold natIndexByte at hn
  split at hn
  case h_2 => cases hn
  rename_i l c
  cases hn
  obtain ⟨u, v, rfl, h1, h2⟩ := hu.two
  have e1 : u = .string (bstr l) := h1
  have e2 : v = .int .u8 (Int.ofNat c) := h2
  subst e1; subst e2
  refine .inl ⟨_, w, ψ, he.run (Lib.run_indexByteString (bstr l) (Int.ofNat c) w), Psi.le.refl ψ, m, ?_⟩
  have hi := indexByte_is c l 0
  show Value.int .i64 _ = Value.int .i64 _
  congr 1
  have e : Lib.indexByte (bstr l).data.toList (Int.ofNat c).toNat.toUInt8 = Lib.indexByte (l.map UInt8.ofNat) (UInt8.ofNat c) := rfl
  rw [e, hi]
  split
  · rename_i hx; exact hx
  · simp
theorem natAdd_ok {C : Cx} {ρ : Nat → Int} {f : FuncId} (he : IsExt C.P f add64Entry) : FnOk C ρ f natAdd := by
  intro w0 K ψ h w args us a h' m hu hn
  unfold natAdd at hn
  split at hn
  case h_2 => cases hn
  rename_i x y c
  cases hc : Nat.ble c 1 with
  | false => rw [hc] at hn; cases hn
  | true =>
    rw [hc] at hn; cases hn
    have hc1 := Nat.le_of_ble_eq_true hc
    obtain ⟨u, v, z, rfl, h1, h2, h3⟩ := hu.three
    have e1 : u = .int .u64 (Int.ofNat x) := h1
    have e2 : v = .int .u64 (Int.ofNat y) := h2
    have e3 : z = .int .u64 (Int.ofNat c) := h3
    subst e1; subst e2; subst e3
    exact .inl ⟨_, w, ψ, he.run (run_add64 (Int.ofNat x) (Int.ofNat y) (Int.ofNat c) (Int.natCast_nonneg _) (Int.natCast_nonneg _) (Int.natCast_nonneg _) (Int.ofNat_le.2 hc1) w), Psi.le.refl ψ, m, [_, _], rfl, VRs.cons rfl (VRs.cons rfl VRs.nil)⟩
end Go.U
/-
  U, part 40: iterators over maps: whichever entry comes next.
-/
set_option linter.unusedVariables false
set_option linter.unusedSimpArgs false
set_option linter.unusedSectionVars false
namespace Go.U
open Go Go.RowKit

noncomputable section
/-- A state whose next operation steps an iterator over a map: the map's entries, those that were met, what each leads to, what the end leads to. -/
structure NX where
  es : List (A × A × Nat)
  seen : List Nat
  to : A × A × Nat → AS
  over : AS
def nextOp (o : Oper) : Option Operand :=
  match o.guard with
  | none => match o.op with
    | .next it false => some it
    | _ => none
  | some _ => none
def nextAt (C : Cx) (s : AS) : Option NX :=
  match s with
  | ⟨⟨fn, nt, tm, .inRegion ops (i :: rest) :: k, df, .run, kd, rd⟩, cs, h⟩ =>
    match nth ops.toList i with
    | some o => match nextOp o with
      | some it => match opdOf C.N tm it with
        | some (.p (some (r, 0))) => match h.get r with
          | some (.mapIter m since seen last) => match h.get m with
            | some (.map es c) =>
              bif Nat.blt i MB && (Nat.ble C.G r && (Nat.ble since last && es.all fun e => Nat.blt e.2.2 since)) then
                some { es := es, seen := seen, to := fun e => ⟨⟨fn, nt, putDst nt tm (some (.tu [.b true, e.1, e.2.1])) o.dst, .inRegion ops rest :: k, df, .run, kd, rd⟩, cs, h.upd r (.mapIter m since (e.2.2 :: seen) c)⟩, over := ⟨⟨fn, nt, putDst nt tm (some (.tu [.b false])) o.dst, .inRegion ops rest :: k, df, .run, kd, rd⟩, cs, h⟩ }
              else none
            | _ => none
          | _ => none
        | _ => none
      | none => none
    | none => none
  | _ => none
end
section
variable {C : Cx} {ρ : Nat → Int} {w0 : World} {K0 K : Nat → Option Obj} {cs0 : List Frame} {ψ ψ0 : Psi}
theorem EsR.mem : ∀ {es : List (A × A × Nat)} {l : List MapEntry} {x : MapEntry}, EsR ρ ψ es l → x ∈ l → ∃ e ∈ es, e.2.2 = x.born ∧ VR ρ ψ e.1 x.key ∧ VR ρ ψ e.2.1 x.val
  | [], l, x, h, hx => by cases h; cases hx
  | (k, v, b) :: es, l, x, h, hx => by
    obtain ⟨y, l', rfl, h1, h2, h3, h4⟩ := h
    rcases List.mem_cons.1 hx with rfl | hx
    · exact ⟨_, List.mem_cons_self .., h3.symm, h1, h2⟩
    · obtain ⟨e, he, k1⟩ := EsR.mem h4 hx
      exact ⟨e, List.mem_cons_of_mem _ he, k1⟩
theorem EsR.mem' : ∀ {es : List (A × A × Nat)} {l : List MapEntry} {e : A × A × Nat}, EsR ρ ψ es l → e ∈ es → ∃ x ∈ l, e.2.2 = x.born
  | [], l, e, h, he => by cases he
  | (k, v, b) :: es, l, e, h, he => by
    obtain ⟨y, l', rfl, h1, h2, h3, h4⟩ := h
    rcases List.mem_cons.1 he with rfl | he
    · exact ⟨y, List.mem_cons_self .., h3.symm⟩
    · obtain ⟨x, hx, k1⟩ := EsR.mem' h4 he
      exact ⟨x, List.mem_cons_of_mem _ hx, k1⟩
/-- The step. -/
theorem next_sound' {s : AS} {N : NX} {m0 : Machine} (hs : StR C ρ w0 K0 cs0 ψ0 s m0) (hn : nextAt C s = some N) :
    ∃ m', Steps C.P m0 m' ∧ ((∃ e ∈ N.es, e.2.2 ∉ N.seen ∧ StR C ρ w0 K0 cs0 ψ0 (N.to e) m') ∨ ((∀ e ∈ N.es, e.2.2 ∈ N.seen) ∧ StR C ρ w0 K0 cs0 ψ0 N.over m')) := by
  unfold nextAt at hn
  split at hn
  case h_2 => cases hn
  rename_i fn nt tm ops i rest k df kd rd as h
  split at hn
  case h_2 => cases hn
  rename_i o ho
  split at hn
  case h_2 => cases hn
  rename_i it hit
  split at hn
  case h_2 => cases hn
  rename_i r hr
  split at hn
  case h_2 => cases hn
  rename_i m since seen last hri
  split at hn
  case h_2 => cases hn
  rename_i es c hm
  cases hb : (Nat.blt i MB && (Nat.ble C.G r && (Nat.ble since last && es.all fun e => Nat.blt e.2.2 since))) with
  | false => rw [hb] at hn; cases hn
  | true =>
    rw [hb] at hn; cases hn
    simp only [Bool.and_eq_true] at hb
    obtain ⟨b1, b2, b3, b4⟩ := hb
    have hiM : i < MB := by simpa [Nat.blt_eq] using b1
    have hG := Nat.le_of_ble_eq_true b2
    obtain ⟨K, ψ, w, f, cs, es', Kp, rfl, hB, hr', hS, hP, mm, h0⟩ := hs
    simp only at hB hr' hS mm
    have hop : o.guard = none ∧ o.op = .next it false := by
      unfold nextOp at hit
      split at hit
      · rename_i hg
        split at hit
        · rename_i it' hx; cases hit; exact ⟨hg, hx⟩
        · cases hit
      · cases hit
    cases hr' with
    | ret q => cases q
    | pan _ _ q => cases q
    | run _ hm' htd =>
      simp only at htd
      generalize hft : f.todo = q' at htd
      cases htd with
      | cur G' hk hi D =>
        obtain ⟨st, D⟩ := D (· = h)
        exfalso
        have hck := D.ck
        unfold chk at hck
        rw [Nat.div_eq_of_lt hiM] at hck
        split at hck <;> first | cases hck | (rename_i hx; cases hx)
      | plain hk hi ht =>
        obtain ⟨y, k', rfl, hy, hi⟩ := hi
        cases hy
        have hiS := (hk.1 i (List.mem_cons_self ..)).1
        have ho' : ops[i]? = some o := by rw [← Array.getElem?_toList, ← nth_eq]; exact ho
        have hw : Region.wanted o (yielded ops f.tmps) = true := by simp [Region.wanted, hop.1]
        have hcond : f.roundOf = none ∨ ∀ c, o.op ≠ .defer c := .inr fun c e => by rw [hop.2] at e; cases e
        have hv := opd_rel mm ht hr
        obtain ⟨B, hBr, hv⟩ := hv
        obtain ⟨B1, ob, g1, g2, g3, B2, g4, rfl⟩ := mm.obj r _ hri
        rw [hBr] at g1; cases g1
        obtain ⟨B3, ob3, k1, k2, l, rfl, k4⟩ := mm.obj m _ hm
        rw [g4] at k1; cases k1
        rw [g3] at hv
        have hold : ∀ x ∈ l.toArray.toList, x.born < since := fun x hx => by
          obtain ⟨e, he, q1, _⟩ := EsR.mem k4 (by simpa using hx)
          have := List.all_eq_true.1 b4 e he
          rw [← q1]; simpa [Nat.blt_eq] using this
        have hex : execOp f.eval o = (do pure (.value (← Instr.next (f.eval it) false o.type))) := by
          unfold execOp; rw [hop.2]
        have key : ∀ {a : A} {v : Value} {w2 : World} {h2 : Hp}, step C.P (lone f cs w) = .next (lone (f.finish v) cs w2) → Mem C ρ w0 K ψ h2 w2 → VR ρ ψ a v →
            ∃ m', Steps C.P (lone f cs w) m' ∧ StR C ρ w0 K0 cs0 ψ0 ⟨⟨fn, nt, putDst nt tm (some a) o.dst, .inRegion ops rest :: k, df, .run, kd, rd⟩, as, h2⟩ m' := by
          intro a v w2 h2 hst m2 hva
          refine ⟨lone (inReg f ops k' (putV f.tmps o.dst v) rest) cs w2, Steps.one (by rw [hst, finish_reg hft ho']; rfl), K, ψ, w2, inReg f ops k' (putV f.tmps o.dst v) rest, cs, [], Kp, rfl, ?_, .run rfl hm' ?_, hS, hP, m2, h0⟩
          · exact ⟨hB.fn, (by show (putV f.tmps o.dst v).size = nt; rw [putV_size]; exact hB.nt), hB.mb, hB.df, hB.kd, hB.rd⟩
          · exact .plain ⟨fun j hj => hk.1 j (List.mem_cons_of_mem _ hj), hk.2⟩ (ItsR.cons (x := .inRegion ops rest) rfl hi) (ht.put hva o.dst hB.nt)
        rcases run_next_at (P := C.P) w o.type B.b B2.b since last seen.reverse.toArray l.toArray c g2 k2 hold (Nat.le_of_ble_eq_true b3) with ⟨z1, z2⟩ | ⟨x, hx, w1, hw1, z2⟩
        · obtain ⟨m', s1, s2⟩ := key (a := .tu [.b false]) (v := .tuple #[.bool false]) (h2 := h) (st_val hm' hft ho' hw hcond (w' := w) (by rw [hex, hv]; simp [z2])) mm ⟨[.bool false], rfl, VRs.cons rfl VRs.nil⟩
          refine ⟨m', s1, .inr ⟨fun e he => ?_, s2⟩⟩
          obtain ⟨x, hx, q1⟩ := EsR.mem' k4 he
          have hz : (leftOf l.toArray seen.reverse.toArray) = #[] := Array.eq_empty_of_size_eq_zero z1
          unfold leftOf at hz
          rw [Array.filter_eq_empty_iff] at hz
          have := hz x (by simpa using hx)
          show e.2.2 ∈ seen
          rw [q1]
          simpa using this
        · have hxl : x ∈ l ∧ x.born ∉ seen := by
            unfold leftOf at hx
            simpa using hx
          obtain ⟨e, he, q1, q2, q3⟩ := EsR.mem k4 hxl.1
          have hw1' : w1.heap = w.heap ∧ w1.os = w.os ∧ w1.tape = w.tape ∧ w1.output = w.output := by
            rcases hw1 with rfl | rfl
            · exact ⟨rfl, rfl, rfl, rfl⟩
            · exact ⟨rfl, rfl, rfl, rfl⟩
          have hup : Upd w B.b (.mapIter (some B2.b) since (seen.reverse.toArray.push x.born) c) (ChangeMaps.setBlock w1 B.b (.mapIter (some B2.b) since (seen.reverse.toArray.push x.born) c)) := by
            have hlt := get_lt g2
            refine ⟨hw1'.2.1, hw1'.2.2.1, hw1'.2.2.2, ?_, ?_, fun b hb => ?_⟩
            · simp [ChangeMaps.setBlock, hw1'.1]
            · simp [ChangeMaps.setBlock, hw1'.1, hlt]
            · simp [ChangeMaps.setBlock, hw1'.1, Array.getElem?_setIfInBounds, Ne.symm hb]
          have m2 := mm.upd (o := .mapIter m since (e.2.2 :: seen) c) hri hG hBr hup (fun _ _ _ _ hx => by cases hx) ⟨g3, B2, g4, by simp [q1]⟩
          obtain ⟨m', s1, s2⟩ := key (a := .tu [.b true, e.1, e.2.1]) (v := .tuple #[.bool true, x.key, x.val]) (st_val hm' hft ho' hw hcond (by rw [hex, hv]; simp [z2])) m2 ⟨[.bool true, x.key, x.val], rfl, VRs.cons rfl (VRs.cons q2 (VRs.cons q3 VRs.nil))⟩
          exact ⟨m', s1, .inl ⟨e, he, by rw [q1]; exact hxl.2, s2⟩⟩
end
end Go.U
/-
  U, part 41: runs that go whichever way an iterator goes; what is no longer wanted is forgotten; functions whose value leads to no memory.
-/
set_option linter.unusedVariables false
set_option linter.unusedSimpArgs false
set_option linter.unusedSectionVars false
namespace Go.U
open Go Go.RowKit

noncomputable section
/-! do a value's blocks lie below n? -/
mutual
def below (n : Nat) : A → Bool
  | .p (some x) => Nat.blt x.1 n
  | .sl (some x) _ _ _ => Nat.blt x.1 n
  | .m (some r) => Nat.blt r n
  | .f fn a b => (match fn with | .yield l => Nat.blt l n | _ => true) && (belows n a && belows n b)
  | .ifc _ v => below n v
  | .ag l | .tu l => belows n l
  | _ => true
def belows (n : Nat) : List A → Bool
  | [] => true
  | a :: l => below n a && belows n l
end
def belowE (n : Nat) : List (A × A × Nat) → Bool
  | [] => true
  | e :: l => below n e.1 && (below n e.2.1 && belowE n l)
def belowO (n : Nat) : AO → Bool
  | .map es _ => belowE n es
  | .mapIter m _ _ _ => Nat.blt m n
  | _ => false
def keepT (t : T A) : List Nat → T A
  | [] => .e
  | i :: l => match t.get i with
    | some a => (keepT t l).set i a
    | none => keepT t l
def keepH (h : T AO) : List Nat → T AO
  | [] => .e
  | i :: l => match h.get i with
    | some a => (keepH h l).set i a
    | none => keepH h l
def belowTs (n : Nat) (t : T A) : List Nat → Bool
  | [] => true
  | i :: l => (match t.get i with | some a => below n a | none => true) && belowTs n t l
def belowHs (n : Nat) (t : T AO) : List Nat → Bool
  | [] => true
  | i :: l => Nat.blt i n && ((match t.get i with | some a => belowO n a | none => true) && belowHs n t l)
def noYield : List Item → Bool
  | [] => true
  | .inRangeFunc _ :: _ | .endRangeFunc _ :: _ => false
  | _ :: l => noYield l
/-- What is kept: the frame's places 'ts', the blocks 'is', all below n. -/
def forget (n : Nat) (ts is : List Nat) (s : AS) : AS :=
  match s with
  | ⟨⟨fn, nt, tm, todo, df, md, kd, rd⟩, cs, h⟩ => ⟨⟨fn, nt, keepT tm ts, todo, df, md, kd, rd⟩, cs, ⟨keepH h.o is, n⟩⟩
/-- May it be forgotten? (Only of what is to be done plainly.) -/
def mayForget (C : Cx) (n : Nat) (ts is : List Nat) (s : AS) : Bool :=
  match s with
  | ⟨⟨fn, nt, tm, .inRegion ops (i :: l) :: k, [], .run, kd, none⟩, [], h⟩ => Nat.ble C.G n && (Nat.ble n h.nx && (Nat.blt i MB && (noYield k && (belowTs n tm ts && belowHs n h.o is))))
  | _ => false
/-- A run that comes to what is wanted, whichever way iterators go. -/
inductive Run (C : Cx) (Q : AS → Prop) : AS → Prop
  | done {s} : Q s → Run C Q s
  | steps {s s'} (n : Nat) : runA C n s = some s' → Run C Q s' → Run C Q s
  | next {s} (N : NX) : nextAt C s = some N → (∀ e ∈ N.es, e.2.2 ∉ N.seen → Run C Q (N.to e)) → ((∀ e ∈ N.es, e.2.2 ∈ N.seen) → Run C Q N.over) → Run C Q s
  | forget {s s'} (n : Nat) (ts is : List Nat) : mayForget C n ts is s = true → Go.U.forget n ts is s = s' → Run C Q s' → Run C Q s
end
section
variable {C : Cx} {ρ : Nat → Int} {w0 : World} {K0 K K' : Nat → Option Obj} {cs0 : List Frame} {ψ ψ' ψ0 : Psi} {h h' : Hp} {w w' : World} {n : Nat}
mutual
theorem below_VR (hψ : ∀ i, i < n → ψ' i = ψ i) : ∀ (a : A) (v : Value), below n a = true → VR ρ ψ a v → VR ρ ψ' a v
  | .p (some (i, o)), v, hb, ⟨B, h1, h2⟩ => ⟨B, by rw [hψ i (by simpa [below, Nat.blt_eq] using hb)]; exact h1, h2⟩
  | .sl (some (i, o, es)) _ _ _, v, hb, ⟨B, c, h1, h2⟩ => ⟨B, c, by rw [hψ i (by simpa [below, Nat.blt_eq] using hb)]; exact h1, h2⟩
  | .m (some i), v, hb, ⟨B, h1, h2⟩ => ⟨B, by rw [hψ i (by simpa [below, Nat.blt_eq] using hb)]; exact h1, h2⟩
  | .f fn a b, v, hb, ⟨fn', us, vs, h1, h2, h3, h4⟩ => by
    simp only [below, Bool.and_eq_true] at hb
    refine ⟨fn', us, vs, ?_, h2, belows_VR hψ a us hb.2.1 h3, belows_VR hψ b vs hb.2.2 h4⟩
    cases fn <;> first | exact h1 | skip
    rename_i l
    obtain ⟨B, g1, g2⟩ := h1
    exact ⟨B, by rw [hψ l (by simpa [Nat.blt_eq] using hb.1)]; exact g1, g2⟩
  | .ifc t x, v, hb, ⟨u, h1, h2⟩ => ⟨u, h1, below_VR hψ x u (by simpa [below] using hb) h2⟩
  | .ag l, v, hb, ⟨us, h1, h2, h3⟩ => ⟨us, h1, belows_VR hψ l us (by simpa [below] using hb) h2, h3⟩
  | .tu l, v, hb, ⟨us, h1, h2⟩ => ⟨us, h1, belows_VR hψ l us (by simpa [below] using hb) h2⟩
  | .b _, _, _, h | .i _ _, _, _, h | .y _ _, _, _, h | .s _, _, _, h | .p none, _, _, h | .sl none _ _ _, _, _, h | .m none, _, _, h | .nf, _, _, h | .ni, _, _, h => h
theorem belows_VR (hψ : ∀ i, i < n → ψ' i = ψ i) : ∀ (l : List A) (us : List Value), belows n l = true → VRs ρ ψ l us → VRs ρ ψ' l us
  | [], _, _, h => h
  | a :: l, _, hb, ⟨u, us, h1, h2, h3⟩ => by
    simp only [belows, Bool.and_eq_true] at hb
    exact ⟨u, us, h1, below_VR hψ a u hb.1 h2, belows_VR hψ l us hb.2 h3⟩
end
theorem belowE_R (hψ : ∀ i, i < n → ψ' i = ψ i) : ∀ (es : List (A × A × Nat)) (l : List MapEntry), belowE n es = true → EsR ρ ψ es l → EsR ρ ψ' es l
  | [], _, _, h => h
  | (k, v, b) :: es, _, hb, ⟨e, l', h1, h2, h3, h4, h5⟩ => by
    simp only [belowE, Bool.and_eq_true] at hb
    exact ⟨e, l', h1, below_VR hψ k _ hb.1 h2, below_VR hψ v _ hb.2.1 h3, h4, belowE_R hψ es l' hb.2.2 h5⟩
theorem belowO_R (hψ : ∀ i, i < n → ψ' i = ψ i) {B : Blk} {o : AO} {ob : Obj} (hb : belowO n o = true) (h : OR ρ ψ B o ob) : OR ρ ψ' B o ob := by
  cases o with
  | map es c => obtain ⟨l, h1, h2⟩ := h; exact ⟨l, h1, belowE_R hψ es _ hb h2⟩
  | mapIter m s sn la => obtain ⟨h1, B', h2, h3⟩ := h; exact ⟨h1, B', by rw [hψ m (by simpa [belowO, Nat.blt_eq] using hb)]; exact h2, h3⟩
  | _ => cases hb
theorem keepT_get {t : T A} : ∀ {l : List Nat} {i : Nat} {a : A}, (keepT t l).get i = some a → i ∈ l ∧ t.get i = some a
  | [], i, a, h => by rw [keepT, T.get_e] at h; cases h
  | j :: l, i, a, h => by
    unfold keepT at h
    split at h
    · rename_i b hb
      rcases T.get_set h with ⟨rfl, rfl⟩ | ⟨_, h⟩
      · exact ⟨List.mem_cons_self .., hb⟩
      · obtain ⟨h1, h2⟩ := keepT_get h
        exact ⟨List.mem_cons_of_mem _ h1, h2⟩
    · obtain ⟨h1, h2⟩ := keepT_get h
      exact ⟨List.mem_cons_of_mem _ h1, h2⟩
theorem keepH_get {t : T AO} : ∀ {l : List Nat} {i : Nat} {a : AO}, (keepH t l).get i = some a → i ∈ l ∧ t.get i = some a
  | [], i, a, h => by rw [keepH, T.get_e] at h; cases h
  | j :: l, i, a, h => by
    unfold keepH at h
    split at h
    · rename_i b hb
      rcases T.get_set h with ⟨rfl, rfl⟩ | ⟨_, h⟩
      · exact ⟨List.mem_cons_self .., hb⟩
      · obtain ⟨h1, h2⟩ := keepH_get h
        exact ⟨List.mem_cons_of_mem _ h1, h2⟩
    · obtain ⟨h1, h2⟩ := keepH_get h
      exact ⟨List.mem_cons_of_mem _ h1, h2⟩
theorem belowTs_get {t : T A} : ∀ {l : List Nat} {i : Nat} {a : A}, belowTs n t l = true → i ∈ l → t.get i = some a → below n a = true
  | j :: l, i, a, hb, hi, h => by
    simp only [belowTs, Bool.and_eq_true] at hb
    rcases List.mem_cons.1 hi with rfl | hi
    · rw [h] at hb; exact hb.1
    · exact belowTs_get hb.2 hi h
theorem belowHs_get {t : T AO} : ∀ {l : List Nat} {i : Nat} {a : AO}, belowHs n t l = true → i ∈ l → t.get i = some a → i < n ∧ belowO n a = true
  | j :: l, i, a, hb, hi, h => by
    simp only [belowHs, Bool.and_eq_true] at hb
    rcases List.mem_cons.1 hi with rfl | hi
    · rw [h] at hb; exact ⟨by simpa [Nat.blt_eq] using hb.1, hb.2.1⟩
    · exact belowHs_get hb.2.2 hi h
theorem noYield_ItsR : ∀ {k k' : List Item}, noYield k = true → ItsR ψ k k' → ItsR ψ' k k'
  | [], _, _, h => h
  | it :: k, _, hn, ⟨y, ys, h1, h2, h3⟩ => by
    cases it <;> first | (cases hn; done) | exact ⟨y, ys, h1, h2, noYield_ItsR (by simpa [noYield] using hn) h3⟩
noncomputable def cutPsi (n : Nat) (ψ : Psi) : Psi := fun i => if i < n then ψ i else none
theorem cutPsi_lt {i : Nat} (h : i < n) : cutPsi n ψ i = ψ i := if_pos h
theorem cutPsi_some {i : Nat} {B : Blk} (h : cutPsi n ψ i = some B) : i < n ∧ ψ i = some B := by
  unfold cutPsi at h
  split at h
  · exact ⟨‹_›, h⟩
  · cases h
theorem Mem.cut (m : Mem C ρ w0 K ψ h w) {is : List Nat} (hG : C.G ≤ n) (hn : n ≤ h.nx) (hNG : C.N ≤ C.G) (hb : belowHs n h.o is = true) : Mem C ρ w0 K (cutPsi n ψ) ⟨keepH h.o is, n⟩ w where
  ok := m.ok
  os := m.os
  tape := m.tape
  output := m.output
  keep := m.keep
  g := hG
  obj := fun i o hi => by
    obtain ⟨h1, h2⟩ := keepH_get hi
    obtain ⟨h3, h4⟩ := belowHs_get hb h1 h2
    obtain ⟨B, ob, q1, q2, q3⟩ := m.obj i o h2
    exact ⟨B, ob, (cutPsi_lt h3).trans q1, q2, belowO_R (fun _ hi => cutPsi_lt hi) h4 q3⟩
  own := fun i B o hi hg hB => m.own i B o hi (keepH_get hg).2 (cutPsi_some hB).2
  low := fun i hi => by
    obtain ⟨B, o, h1, h2⟩ := m.low i hi
    exact ⟨B, o, (cutPsi_lt (by omega)).trans h1, h2⟩
  sz0 := m.sz0
  glob := fun i hi => by
    obtain ⟨B, h1, h2⟩ := m.glob i hi
    exact ⟨B, (cutPsi_lt (by omega)).trans h1, h2⟩
  inj := fun i j B B' o o' hne hi hj gi gj hB hB' => m.inj i j B B' o o' hne hi hj (keepH_get gi).2 (keepH_get gj).2 (cutPsi_some hB).2 (cutPsi_some hB').2
  fresh := fun i hi => if_neg (by simp only at hi; omega)
  lt := fun i B hi => m.lt i B (cutPsi_some hi).2
  keys := fun i o hi => (belowHs_get hb (keepH_get hi).1 (keepH_get hi).2).1
  ext := fun i e ro k t B hi hB he => m.ext i e ro k t B (keepH_get hi).2 (cutPsi_some hB).2 he
theorem StR.forget (hNG : C.N ≤ C.G) (h0 : ∀ i, C.G ≤ i → ψ0 i = none) {s : AS} {m0 : Machine} {ts is : List Nat} (hf : mayForget C n ts is s = true) (hs : StR C ρ w0 K0 cs0 ψ0 s m0) : StR C ρ w0 K0 cs0 ψ0 (Go.U.forget n ts is s) m0 := by
  unfold mayForget at hf
  split at hf
  case h_2 => cases hf
  rename_i fn nt tm ops i l k kd h
  simp only [Bool.and_eq_true] at hf
  obtain ⟨b1, b2, b3, b4, b5, b6⟩ := hf
  have hG := Nat.le_of_ble_eq_true b1
  have hnx := Nat.le_of_ble_eq_true b2
  have hiM : i < MB := by simpa [Nat.blt_eq] using b3
  obtain ⟨K, ψ, w, f, cs, es, Kp, rfl, hB, hr, hS, hP, m, hle⟩ := hs
  simp only at hB hr hS m
  have hc : ∀ i, i < n → cutPsi n ψ i = ψ i := fun _ hi => cutPsi_lt hi
  have mm := m.cut hG hnx hNG b6
  have hle' : ψ0.le (cutPsi n ψ) := fun i B hi => by
    rcases Nat.lt_or_ge i n with hlt | hge
    · rw [hc i hlt]; exact hle i B hi
    · rw [h0 i (by omega)] at hi; cases hi
  cases hr with
  | ret q => cases q
  | pan _ _ q => cases q
  | run _ hm' htd =>
    simp only at htd
    generalize hft : f.todo = q' at htd
    cases htd with
    | cur G' hk hi D =>
      obtain ⟨st, D⟩ := D (· = h)
      exfalso
      have hck := D.ck
      unfold chk at hck
      rw [Nat.div_eq_of_lt hiM] at hck
      split at hck <;> first | cases hck | (rename_i hx; cases hx)
    | plain hk hi ht =>
      refine ⟨K, cutPsi n ψ, w, f, cs, [], Kp, rfl, ⟨hB.fn, hB.nt, hB.mb, hB.df, hB.kd, hB.rd⟩, .run rfl hm' ?_, hS, hP, mm, hle'⟩
      obtain ⟨y, k', rfl, hy, hi⟩ := hi
      rw [hft]
      cases hy
      refine .plain hk ⟨_, k', rfl, rfl, noYield_ItsR b4 hi⟩ fun j a hj => ?_
      obtain ⟨h1, h2⟩ := keepT_get hj
      obtain ⟨v, v1, v2⟩ := ht j a h2
      exact ⟨v, v1, below_VR hc a v (belowTs_get b5 h1 h2) v2⟩
theorem Run.sound (hN : NatOk C ρ w0) (hMix : C.P.follows .mixedOrders = true) (hNG : C.N ≤ C.G) (h0 : ∀ i, C.G ≤ i → ψ0 i = none) {Q : AS → Prop} {s : AS} (hr : Run C Q s) : ∀ {m0 : Machine}, StR C ρ w0 K0 cs0 ψ0 s m0 → ∃ s' m', Q s' ∧ Steps C.P m0 m' ∧ StR C ρ w0 K0 cs0 ψ0 s' m' := by
  induction hr with
  | done hq => exact fun hs => ⟨_, _, hq, Steps.refl _ _, hs⟩
  | steps n he _ ih =>
    intro m0 hs
    obtain ⟨m1, t1, r1⟩ := run_sound hN hMix n hs he
    obtain ⟨s', m', q, t2, r2⟩ := ih r1
    exact ⟨s', m', q, t1.trans t2, r2⟩
  | next N hn _ _ ih1 ih2 =>
    intro m0 hs
    obtain ⟨m1, t1, ⟨e, he, hne, r1⟩ | ⟨hall, r1⟩⟩ := next_sound' hs hn
    · obtain ⟨s', m', q, t2, r2⟩ := ih1 e he hne r1
      exact ⟨s', m', q, t1.trans t2, r2⟩
    · obtain ⟨s', m', q, t2, r2⟩ := ih2 hall r1
      exact ⟨s', m', q, t1.trans t2, r2⟩
  | forget n ts is hf he _ ih =>
    intro m0 hs
    subst he
    exact ih (hs.forget hNG h0 hf)
end
end Go.U
/-
  U, part 42: functions whose value leads to no memory, whichever way their iterators go.
-/
set_option linter.unusedVariables false
set_option linter.unusedSimpArgs false
set_option linter.unusedSectionVars false
namespace Go.U
open Go Go.RowKit

section
variable {C C' : Cx} {ρ : Nat → Int} {w0 : World} {K0 K K' : Nat → Option Obj} {cs0 : List Frame} {ψ ψ' ψ0 ψ1 : Psi} {h h' h1 : Hp} {w w' w1 : World} {n : Nat}
theorem run_call (hN : NatOk C ρ w0) (hMix : C.P.follows .mixedOrders = true) (hNG : C.N ≤ C.G) (h0 : ∀ i, C.G ≤ i → ψ i = none) (m : Mem C ρ w0 K ψ h w) {f : FuncId} {args : List A} {us : List Value} (hu : VRs ρ ψ args us) {fr : AF} (hfr : enterF C f args .normal = some fr) {x : A} (hr : Run C (fun s => ∃ h', endOf C f s = some (x, h')) ⟨fr, [], h⟩) :
    (∀ w, (callFunc f us.toArray).run C.P w = .ok (.enter f us.toArray) w) ∧ Calls C.P f us.toArray w fun e w' => ∃ v ψ' h', e = .returned v ∧ ψ.le ψ' ∧ Mem C ρ w0 K ψ' h' w' ∧ VR ρ ψ' x v := by
  obtain ⟨c1, _, c2⟩ := enter_sound (K := K) m.ok hfr hu
  refine ⟨c1, fun cs => ?_⟩
  obtain ⟨f0, t0, b0, r0⟩ := c2 cs w
  have h0' : StR C ρ w0 K cs ψ ⟨fr, [], h⟩ (lone f0 cs w) := ⟨K, ψ, w, f0, cs, [], fun b o => K b = some o, rfl, b0, r0, ⟨rfl, fun _ _ h => h⟩, ⟨fun _ _ h => h, fun p hp => by cases hp⟩, m, Psi.le.refl ψ⟩
  obtain ⟨s, m1, ⟨h', he⟩, t1, hst⟩ := hr.sound hN hMix hNG h0 h0'
  have hcs : s.cs = [] := by
    unfold endOf at he
    split at he
    · rfl
    · cases he
  obtain ⟨K1, ψ1, w1, f1, cs1, es, Kp, rfl, b1, r1, hS, p1, m1, l1⟩ := hst
  rw [hcs] at hS
  obtain ⟨rfl, k1⟩ := hS
  unfold endOf at he
  split at he
  case h_2 => cases he
  rename_i fn nt tm todo hq
  cases hbf : Nat.beq fn f with
  | false => rw [hbf] at he; cases he
  | true =>
    rw [hbf] at he
    have hbf := Nat.eq_of_beq_eq_true hbf
    subst hbf
    simp only [cond_true] at he
    split at he
    case h_2 => cases he
    rename_i fd hfd
    split at he
    case h_2 => cases he
    rename_i x' hx
    cases he
    simp only at b1 r1 m1
    cases r1 with
    | run q => cases q
    | pan _ _ q => cases q
    | ret _ g2 g3 _ =>
      obtain ⟨v, d1, d2⟩ := result_sound m1 g3 hx
      have mw := m.weaken l1 (fun b o hb => p1.k b o (k1 b o hb)) m1
      refine ⟨.returned v, w1, f1, ⟨v, ψ1, _, rfl, l1, mw, d2⟩, t0.trans t1, b1.fn, g2, b1.df, b1.kd, fd, ?_, d1⟩
      rw [b1.fn]
      exact m.ok.fns _ _ hfd
/-- A memory of ours that knows nothing but what lies below G. -/
theorem Mem.bare (m : Mem C ρ w0 K ψ h w) (hok : C'.Ok ρ) (hG : C'.G ≤ C.G) (hN : C'.N = C.N) (hNG : C'.N ≤ C'.G) : Mem C' ρ w (fun b => w.heap[b]?) (cutPsi C'.G ψ) ⟨.e, C'.G⟩ w where
  ok := hok
  os := rfl
  tape := rfl
  output := rfl
  keep := fun _ _ h => h
  g := Nat.le_refl _
  obj := fun i o hi => by rw [show (⟨.e, C'.G⟩ : Hp).get i = none from T.get_e i] at hi; cases hi
  own := fun i B o hi hg hB => by rw [show (⟨.e, C'.G⟩ : Hp).get i = none from T.get_e i] at hg; cases hg
  low := fun i hi => by
    obtain ⟨B, o, h1, h2, h3⟩ := m.low i (Nat.lt_of_lt_of_le hi hG)
    have := m.keep _ _ h2
    exact ⟨B, o, (cutPsi_lt hi).trans h1, this, get_lt this⟩
  sz0 := Nat.le_refl _
  glob := fun i hi => by
    obtain ⟨B, h1, h2⟩ := m.glob i (by rw [← hN]; exact hi)
    exact ⟨B, (cutPsi_lt (by omega)).trans h1, h2⟩
  inj := fun i j B B' o o' hne hi hj gi gj hB hB' => by rw [show (⟨.e, C'.G⟩ : Hp).get i = none from T.get_e i] at gi; cases gi
  fresh := fun i hi => if_neg (by simp only at hi; omega)
  lt := fun i B hi => m.lt i B (cutPsi_some hi).2
  keys := fun i o hi => by rw [show (⟨.e, C'.G⟩ : Hp).get i = none from T.get_e i] at hi; cases hi
  ext := fun i e ro k t B hi hB he => by rw [show (⟨.e, C'.G⟩ : Hp).get i = none from T.get_e i] at hi; cases hi
/-- Behind a call that kept all that there was. -/
theorem Mem.back (m : Mem C ρ w0 K ψ h w) (m1 : Mem C' ρ w (fun b => w.heap[b]?) ψ1 h1 w1) : Mem C ρ w0 K ψ h w1 where
  ok := m.ok
  os := m1.os.trans m.os
  tape := m1.tape.trans m.tape
  output := m1.output.trans m.output
  keep := fun b o hb => m1.keep b o (m.keep b o hb)
  g := m.g
  obj := fun i o hi => by
    obtain ⟨B, ob, q1, q2, q3⟩ := m.obj i o hi
    exact ⟨B, ob, q1, m1.keep _ _ q2, q3⟩
  own := m.own
  low := m.low
  sz0 := Nat.le_trans m.sz0 m1.sz0
  glob := m.glob
  inj := m.inj
  fresh := m.fresh
  lt := fun i B hi => Nat.lt_of_lt_of_le (m.lt i B hi) m1.sz0
  keys := m.keys
  ext := m.ext
theorem FnOk.flat (hok : C'.Ok ρ) (hP : C'.P = C.P) (hG : C'.G ≤ C.G) (hN : C'.N = C.N) (hNG : C'.N ≤ C'.G) (hN' : ∀ w0, NatOk C' ρ w0) (hMix : C.P.follows .mixedOrders = true) {f : FuncId} {g : List A → Hp → Option (A × Hp)}
    (hg : ∀ args h a h', g args h = some (a, h') → h' = h ∧ below 0 a = true ∧ belows 0 args = true ∧ ∃ fr, enterF C' f args .normal = some fr ∧ Run C' (fun s => ∃ h', endOf C' f s = some (a, h')) ⟨fr, [], ⟨.e, C'.G⟩⟩) : FnOk C ρ f g := by
  intro w0 K ψ h w args us a h' m hu he
  obtain ⟨rfl, h1, h2, fr, h3, h4⟩ := hg args h a h' he
  have mb := m.bare hok hG hN hNG
  have hu' : VRs ρ (cutPsi C'.G ψ) args us := belows_VR (n := 0) (fun i hi => absurd hi (Nat.not_lt_zero i)) args us h2 hu
  obtain ⟨c1, c2⟩ := run_call (hN' w) (by rw [hP]; exact hMix) hNG (fun i hi => if_neg (by omega)) mb hu' h3 h4
  rw [hP] at c1 c2
  refine .inr ⟨c1, Calls.to c2 fun e w' ⟨v, ψ', h', k1, k2, k3, k4⟩ => ⟨v, ψ, k1, Psi.le.refl ψ, m.back k3, below_VR (n := 0) (fun i hi => absurd hi (Nat.not_lt_zero i)) a v h1 k4⟩⟩
/-! a loop over a map -/
theorem countP_lt {α : Type} (p q : α → Bool) : ∀ (l : List α), (∀ a ∈ l, q a = true → p a = true) → (∃ a ∈ l, p a = true ∧ q a = false) → l.countP q < l.countP p
  | [], _, ⟨a, ha, _⟩ => by cases ha
  | x :: l, h, ⟨a, ha, hp, hq⟩ => by
    have hle : l.countP q ≤ l.countP p := List.countP_mono_left fun b hb => h b (List.mem_cons_of_mem _ hb)
    rw [List.countP_cons, List.countP_cons]
    rcases List.mem_cons.1 ha with rfl | ha
    · simp [hp, hq]; omega
    · have := countP_lt p q l (fun b hb => h b (List.mem_cons_of_mem _ hb)) ⟨a, ha, hp, hq⟩
      have h1 := h x (List.mem_cons_self ..)
      cases hqx : q x <;> cases hpx : p x <;> simp_all <;> omega
theorem loop_run {Q : AS → Prop} (S : List Nat → AS) (es : List (A × A × Nat)) (stop : A × A × Nat → Bool)
    (hd : ∀ e ∈ es, ∀ e' ∈ es, stop e = true → stop e' = false → e.2.2 ≠ e'.2.2)
    (hn : ∀ olds, ∃ N, nextAt C (S olds) = some N ∧ N.es = es ∧ N.seen = olds ∧ (∀ e ∈ es, stop e = false → Run C Q (S (e.2.2 :: olds)) → Run C Q (N.to e)) ∧ (∀ e ∈ es, stop e = true → Run C Q (N.to e)) ∧ ((∀ e ∈ es, stop e = false) → Run C Q N.over)) :
    ∀ (m : Nat) (olds : List Nat), es.countP (fun e => !olds.contains e.2.2) ≤ m → (∀ e ∈ es, stop e = true → e.2.2 ∉ olds) → Run C Q (S olds) := by
  intro m
  induction m with
  | zero =>
    intro olds hc ho
    obtain ⟨N, h1, h2, h3, h4, h5, h6⟩ := hn olds
    have hall : ∀ e ∈ es, e.2.2 ∈ olds := fun e he => by
      have := List.countP_eq_zero.1 (Nat.le_zero.1 hc) e he
      simpa using this
    refine .next N h1 (fun e he hne => absurd (by rw [h3]; exact hall e (by rw [← h2]; exact he)) hne) fun _ => h6 fun e he => ?_
    cases hs : stop e with
    | false => rfl
    | true => exact absurd (hall e he) (ho e he hs)
  | succ m ih =>
    intro olds hc ho
    obtain ⟨N, h1, h2, h3, h4, h5, h6⟩ := hn olds
    refine .next N h1 (fun e he hne => ?_) fun hall => h6 fun e he => ?_
    · rw [h2] at he
      rw [h3] at hne
      cases hs : stop e with
      | true => exact h5 e he hs
      | false =>
        refine h4 e he hs (ih _ ?_ fun e' he' hs' => ?_)
        · have := countP_lt (fun e => !olds.contains e.2.2) (fun x => !(e.2.2 :: olds).contains x.2.2) es (fun a _ ha => by simp at ha ⊢; exact ha.2) ⟨e, he, by simpa using hne, by simp⟩
          omega
        · have := hd e' he' e he hs' hs
          simp only [List.mem_cons, not_or]
          exact ⟨this, ho e' he' hs'⟩
    · cases hs : stop e with
      | false => rfl
      | true => exact absurd (by rw [← h3]; exact hall e (by rw [h2]; exact he)) (ho e he hs)
end
end Go.U
