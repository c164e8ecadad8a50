import Derived.Lib.Bytealg
import Derived.Maps.RangeRun
import Derived.Test.YtnmmefndcbnhcaaGreatDoorUC
/-
  U, part 33: a step: the frame is left.
-/
set_option linter.unusedVariables false
set_option linter.unusedSimpArgs false
set_option linter.unusedSectionVars false
namespace Go.U
open Go Go.RowKit

section
variable {C : Cx} {ρ : Nat → Int} {w0 : World} {K0 K K' : Nat → Option Obj} {cs0 : List Frame} {ψ ψ' ψ0 : Psi} {a a' : AF} {f : Frame} {es : List (Nat × Nat)} {b : Bool} {Kp : Nat → Obj → Prop} {h h' : Hp} {w w' : World} {as : List AF} {cs : List Frame} {s' : AS}
theorem DRs.append : ∀ {d1 d2 : List AD} {l1 l2 : List Deferred}, DRs ρ ψ d1 l1 → DRs ρ ψ d2 l2 → DRs ρ ψ (d1 ++ d2) (l1 ++ l2)
  | [], _, _, _, h, k => by cases h; exact k
  | a :: as, _, _, _, ⟨d, l', h1, h2, h3⟩, k => ⟨d, l' ++ _, by rw [h1]; rfl, h2, h3.append k⟩
def resG (tmps : Array Value) : ResultVar → Sem Value
  | .tmp t => pure (tmps.getD t undef)
  | .cell a t => do loadVar t (← asAddr (tmps.getD a undef))
theorem resCells_sound (m : Mem C ρ w0 K ψ h w) {tm : T A} {tmps : Array Value} (ht : TR ρ ψ tm tmps) : ∀ {rs : List ResultVar} {xs : List A}, resCells C h tm rs = some xs → ∃ us, (rs.mapM (resG tmps)).run C.P w = .ok us w ∧ VRs ρ ψ xs us
  | [], xs, hr => by cases hr; exact ⟨[], by simp, rfl⟩
  | .tmp t :: r, xs, hr => by
    simp only [resCells, Option.bind_eq_some_iff, Option.map_eq_some_iff] at hr
    obtain ⟨a, ha, ys, hy, rfl⟩ := hr
    obtain ⟨us, h1, h2⟩ := resCells_sound m ht hy
    obtain ⟨v, h3, h4⟩ := ht t a ha
    refine ⟨v :: us, ?_, VRs.cons h4 h2⟩
    have : tmps.getD t undef = v := by rw [Array.getD_eq_getD_getElem?, h3]; rfl
    simp [List.mapM_cons, resG, this, Sem.run_bind, h1]
  | .cell a t :: r, xs, hr => by
    simp only [resCells] at hr
    split at hr
    case h_2 => cases hr
    rename_i l hl
    simp only [Option.bind_eq_some_iff, Option.map_eq_some_iff] at hr
    obtain ⟨x, hx, ys, hy, rfl⟩ := hr
    obtain ⟨us, h1, h2⟩ := resCells_sound m ht hy
    obtain ⟨v, h3, h4⟩ := ht a _ hl
    obtain ⟨li, lo⟩ := l
    obtain ⟨B, hB, rfl⟩ := h4
    obtain ⟨u, g1, g2⟩ := loadAt_sound m hx hB
    refine ⟨u :: us, ?_, VRs.cons g2 h2⟩
    have : tmps.getD a undef = .pointer (some ⟨B.b, B.base + lo, none⟩) := by rw [Array.getD_eq_getD_getElem?, h3]; rfl
    simp [List.mapM_cons, resG, this, Sem.run_bind, h1, asAddr, g1]
theorem result_sound (m : Mem C ρ w0 K ψ h w) {fn : Func} {tm : T A} {tmps : Array Value} (ht : TR ρ ψ tm tmps) {x : A} (hr : result C h fn tm = some x) : ∃ v, (results fn tmps).run C.P w = .ok v w ∧ VR ρ ψ x v := by
  unfold result at hr
  simp only [Option.map_eq_some_iff] at hr
  obtain ⟨xs, h1, rfl⟩ := hr
  obtain ⟨us, h2, h3⟩ := resCells_sound m ht h1
  have hrun : (results fn tmps).run C.P w = .ok (if h : us.toArray.size = 1 then us.toArray[0] else .tuple us.toArray) w := by
    have : results fn tmps = (do let vs ← fn.results.mapM (resG tmps); pure (if h : vs.size = 1 then vs[0] else .tuple vs)) := by
      unfold results resG
      rfl
    rw [this, Array.mapM_eq_mapM_toList]
    simp [Sem.run_bind, h2, Sem.run_map]
  refine ⟨_, hrun, ?_⟩
  match xs, us, h3 with
  | [], us, h3 => cases h3; exact ⟨[], rfl, rfl⟩
  | [a], us, ⟨u, us', e, h4, h5⟩ =>
    cases h5; subst e
    exact h4
  | a :: b :: r, us, h3 =>
    have hl := VRs.len h3
    have : ¬ us.toArray.size = 1 := by simp [hl]
    rw [dif_neg this]
    exact ⟨us, rfl, h3⟩
theorem unwind_is {P : Program} (hm : f.mode ≠ .run) : stepG P true { frame := f, callers := cs, status := .running, dying := none } w = unwind P true f cs none w := by
  cases hq : f.mode with
  | run => exact absurd hq hm
  | returning => simp [stepG, hq]
  | panicking pe => simp [stepG, hq]
theorem unwind_sound (hr : FrR C ρ w0 K ψ true a f es) (hm : a.mode ≠ .run) (hS : StkR C ρ w0 K0 cs0 K ψ as cs Kp) (hb : FrB ρ ψ a f) (hP : Prot Kp K es) (m : Mem C ρ w0 K ψ h w) (h0 : ψ0.le ψ)
    (ha : unwindA C a as h a.mode = some s') : ∃ m', Steps C.P (lone f cs w) m' ∧ StR C ρ w0 K0 cs0 ψ0 s' m' := by
  have hes : es = [] := by
    cases hr with
    | run q => exact absurd q hm
    | ret _ _ _ q => exact q
    | pan _ _ _ _ _ _ q => exact q
  subst hes
  have hm' : f.mode ≠ .run := by
    cases hr with
    | run q => exact absurd q hm
    | ret _ q => rw [q]; intro e; cases e
    | pan _ _ _ q => rw [q]; intro e; cases e
  have hu := unwind_is (P := C.P) (cs := cs) (w := w) hm'
  -- other deferred calls, the same mode
  have other : ∀ {df : List AD} {l : List Deferred} {ψ2 : Psi} {bb : Bool}, ψ.le ψ2 → FrR C ρ w0 K ψ2 bb (a.setDefers df) { f with defers := l } [] := by
    intro df l ψ2 bb hle
    have hr' := hr.mono hle (K' := K) fun _ _ _ => rfl
    obtain ⟨fn, nt, tm, todo, df0, mode, kd, rd⟩ := a
    cases hr' with
    | run q => exact absurd q hm
    | ret q1 q2 q3 q4 => exact .ret q1 q2 q3 rfl
    | pan ch pe q1 q2 q3 q4 q5 => exact .pan ch pe q1 q2 q3 q4 rfl
  have otherB : ∀ {df : List AD} {l : List Deferred} {ψ2 : Psi}, ψ.le ψ2 → DRs ρ ψ2 df l → FrB ρ ψ2 (a.setDefers df) { f with defers := l } := by
    intro df l ψ2 hle hd
    obtain ⟨fn, nt, tm, todo, df0, mode, kd, rd⟩ := a
    exact ⟨hb.fn, hb.nt, hb.mb, hd, hb.kd, hb.rd.mono hle⟩
  unfold unwindA at ha
  have hd := hb.df
  split at ha
  · rename_i bb ds hds
    rw [hds] at hd
    obtain ⟨d, l', e1, ⟨B, hB, rfl⟩, e3⟩ := hd
    split at ha
    case h_2 => cases ha
    rename_i l hl
    cases hg : Nat.ble C.G bb with
    | false => rw [hg] at ha; cases ha
    | true =>
      rw [hg] at ha; cases ha
      obtain ⟨B', ob, g1, g2, l2, rfl, g3⟩ := m.obj bb _ hl
      rw [hB] at g1; cases g1
      have hrun := run_takeDeferred (P := C.P) g2
      have m' := m.upd (o := .deferred none) hl (Nat.le_of_ble_eq_true hg) hB (putObj_upd (o := .deferred none) g2) (fun _ _ _ _ hx => by cases hx) rfl
      have hst : (stepG C.P true { frame := f, callers := cs, status := .running, dying := none } w).bare = goes { f with defers := l2 ++ l' } cs (w.putObj B.b (.deferred none)) := by
        rw [hu]; simp [unwind, e1, hrun, goes]
      exact ⟨_, step_goes hst, K, ψ, _, _, cs, [], Kp, rfl, otherB (Psi.le.refl ψ) (g3.append e3), other (Psi.le.refl ψ), hS, hP, m', h0⟩
  · rename_i fn args cap ds hds
    rw [hds] at hd
    obtain ⟨d, l', e1, ⟨fn', us, vs, g1, rfl, g3, g4⟩, e3⟩ := hd
    have hs := callVal_sound m g1 g3 g4
    unfold goDeferred at ha
    split at ha
    case h_2 => cases ha
    rename_i g gargs h2 hcv
    rw [hcv] at hs
    obtain ⟨us2, w2, ψ2, q1, q2, q3, q4⟩ := hs
    unfold push at ha
    split at ha
    case h_2 => cases ha
    rename_i a' ha'
    cases ha
    obtain ⟨c1, _, c2⟩ := enter_sound (K := K) q3.ok ha' q4
    obtain ⟨f', s1, b1, r1⟩ := c2 ({ f with defers := l' } :: cs) w2
    have hrun := q1.trans (c1 w2)
    have hst : (stepG C.P true { frame := f, callers := cs, status := .running, dying := none } w).bare = goes (Frame.enter C.P g us2.toArray .deferred) ({ f with defers := l' } :: cs) w2 := by
      rw [hu]; simp [unwind, e1, callDeferred, hrun, goes]
    exact ⟨_, (step_goes hst).trans s1, push_go (a := a.setDefers ds) (f := { f with defers := l' }) (es := []) hS (otherB (Psi.le.refl ψ) e3) (other (Psi.le.refl ψ)) hP q2 q3 h0 b1 r1⟩
  · rename_i hds
    rw [hds] at hd
    have e1 : f.defers = [] := hd
    cases hr with
    | run q => exact absurd q hm
    | ret q1 q2 q3 q4 =>
      rw [q1] at ha
      simp only [unwindEnd] at ha
      unfold goReturn at ha
      split at ha
      case h_2 => cases ha
      rename_i fn hfn
      split at ha
      case h_2 => cases ha
      rename_i x hx
      obtain ⟨v, g1, g2⟩ := result_sound m q3 hx
      obtain ⟨f', cs', d1, d2⟩ := back_sound (f := f) hS hb.kd hP m h0 g2 ha
      have hfn' : C.P.funcs[f.fn]? = some fn := by rw [hb.fn]; exact m.ok.fns _ _ hfn
      refine ⟨_, step_goes (f1 := f') (cs1 := cs') (w1 := w) ?_, d2⟩
      rw [hu, ← d1]
      simp [unwind, e1, q2, hfn', g1]
    | pan ch pe q1 q2 q3 q4 q5 =>
      rw [q1] at ha
      simp only [unwindEnd] at ha
      unfold unwindPan at ha
      split at ha
      case h_2 => cases ha
      rename_i fn c r hfn
      cases ha
      obtain ⟨g, gs, es, Kp1, rfl, c1, c2, c3, c4⟩ := hS.pop hP
      obtain ⟨r1, r2⟩ := raise_sound c1 c2 q3
      have hfn' : C.P.funcs[f.fn]? = some fn := by rw [hb.fn]; exact m.ok.fns _ _ hfn
      have hst : (stepG C.P true { frame := f, callers := g :: gs, status := .running, dying := none } w).bare = goes (g.raise pe) gs w := by
        rw [hu]; simp [unwind, e1, q2, Frame.catches, hfn', goes]
      exact ⟨_, step_goes hst, K, ψ, w, _, gs, [], Kp1, rfl, r1, r2, c3, ⟨c4.k, fun p hp => by cases hp⟩, m, h0⟩
/-- A step. -/
theorem step_sound (hN : NatOk C ρ w0) (hMix : C.P.follows .mixedOrders = true) {s : AS} {m0 : Machine} (hs : StR C ρ w0 K0 cs0 ψ0 s m0) (ha : stepA C s = some s') : ∃ m', Steps C.P m0 m' ∧ StR C ρ w0 K0 cs0 ψ0 s' m' := by
  obtain ⟨K, ψ, w, f, cs, es, Kp, rfl, hb, hr, hS, hP, m, h0⟩ := hs
  obtain ⟨a, as, h⟩ := s
  simp only at hb hr hS m ha
  unfold stepA at ha
  simp only at ha
  have hmd : a.mode ≠ .run → unwindA C a as h a.mode = some s' := by
    intro hne
    split at ha
    · rename_i q; exact absurd q hne
    · exact ha
  by_cases hm : a.mode = .run
  case neg => exact unwind_sound hr hm hS hb hP m h0 (hmd hm)
  rw [hm] at ha
  simp only at ha
  cases hr with
  | ret q => rw [hm] at q; cases q
  | pan _ _ q => rw [hm] at q; cases q
  | run _ hm' htd =>
    generalize hat : a.todo = q at htd ha
    generalize hft : f.todo = q' at htd
    cases htd with
    | cur G hk hi D =>
      obtain ⟨st, D⟩ := D (· = h)
      exact region_drawn hN G hft hk hi D hm hm' hS hb hP m h0 ha
    | plain hk hi ht =>
      cases q with
      | nil =>
        cases hi
        exact leave_sound (.inl ⟨hft, rfl⟩) ht hm hm' hS hb hP m h0 ha
      | cons it k =>
        obtain ⟨y, k', rfl, hy, hi⟩ := hi
        have nrm : ∀ {q' : List Item}, (stepG C.P true { frame := f, callers := cs, status := .running, dying := none } w).bare = goes { f with todo := k' } cs w → toK a as h (norm k) = some s' → ∃ m', Steps C.P (lone f cs w) m' ∧ StR C ρ w0 K0 cs0 ψ0 s' m' := by
          intro q' hst e
          cases e
          exact toK_sound ((step_goes hst).trans (norm_steps (P := C.P) (fr := f) hm' k')) (norm_ok hk.tail) hi.norm ht hm hm' hS hb hP m h0
        cases it with
        | code c => cases hy; exact code_sound hN hMix hft hk.tail hi ht hm hm' hS hb hP m h0 ha
        | inBlock id => cases hy; exact nrm (q' := []) (by simp [stepG, stepG.exec, hm', hft, goes]) ha
        | inScope body => cases hy; exact nrm (q' := []) (by simp [stepG, stepG.exec, hm', hft, goes]) ha
        | inLoop body =>
          cases hy
          cases ha
          have hst : (stepG C.P true { frame := f, callers := cs, status := .running, dying := none } w).bare = goes { f with todo := .code body :: .inLoop body :: k' } cs w := by simp [stepG, stepG.exec, hm', hft, goes]
          exact toK_sound ((step_goes hst).trans (ec_steps (P := C.P) (fr := f) hm' body (.inLoop body :: k'))) (ecOf_ok body (k := .inLoop body :: k) (by simp [noReg, hk.tail])) (ItsR.ec body (ItsR.cons (x := .inLoop body) rfl hi)) ht hm hm' hS hb hP m h0
        | inRegion ops l => cases hy; exact region_plain hN hft hk.1 hk.2 hi ht hm hm' hS hb hP m h0 ha
        | beginRound => cases hy; exact beginR_sound hft hat hk.tail hi ht hm hm' hS hb hP m h0 ha
        | endRangeFunc l => obtain ⟨B, hB, rfl⟩ := hy; exact endR_sound hB hft hk.tail hi ht hm hm' hS hb hP m h0 ha
        | inRangeFunc l => cases ha
        | call d b r s => cases ha
        | extern r s => cases ha
end
end Go.U
/-
  U, part 34: a function's call, reckoned from its beginning to its end.
-/
set_option linter.unusedVariables false
set_option linter.unusedSimpArgs false
set_option linter.unusedSectionVars false
namespace Go.U
open Go Go.RowKit

noncomputable section
/-- So many steps. -/
def runA (C : Cx) : Nat → AS → Option AS
  | 0, s => some s
  | n + 1, s => match stepA C s with
    | some s => runA C n s
    | none => none
/-- A function that has come to its end: its value, the memory. -/
def endOf (C : Cx) (f : FuncId) (s : AS) : Option (A × Hp) :=
  match s with
  | ⟨⟨fn, _, tm, _, [], .returning, .normal, none⟩, [], h⟩ => bif Nat.beq fn f then match C.fns.get fn with
      | some fd => match result C h fd tm with
        | some x => some (x, h)
        | none => none
      | none => none
    else none
  | _ => none
/-- A function's call: its value, the memory behind it. -/
def callU (C : Cx) (n : Nat) (f : FuncId) (args : List A) (h : Hp) : Option (A × Hp) :=
  match enterF C f args .normal with
  | some fr => match runA C n ⟨fr, [], h⟩ with
    | some s => endOf C f s
    | none => none
  | none => none
end
section
variable {C : Cx} {ρ : Nat → Int} {w0 : World} {K0 K K' : Nat → Option Obj} {cs0 : List Frame} {ψ ψ' ψ0 : Psi} {h h' : Hp} {w w' : World}
theorem Mem.weaken (m0 : Mem C ρ w0 K ψ h w) (hle : ψ.le ψ') (hK : ∀ b o, K b = some o → K' b = some o) (m : Mem C ρ w0 K' ψ' h' w') : Mem C ρ w0 K ψ' h' w' :=
  { m with
    keep := fun b o hb => m.keep b o (hK b o hb)
    own := fun i B o hi hg hB => by
      have := m.own i B o hi hg hB
      cases hk : K B.b with
      | none => rfl
      | some o' => rw [hK _ _ hk] at this; cases this
    low := fun i hi => let ⟨B, o, h1, h2, h3⟩ := m0.low i hi; ⟨B, o, hle _ _ h1, h2, h3⟩ }
theorem run_sound (hN : NatOk C ρ w0) (hMix : C.P.follows .mixedOrders = true) : ∀ (n : Nat) {s s' : AS} {m0 : Machine}, StR C ρ w0 K0 cs0 ψ0 s m0 → runA C n s = some s' → ∃ m', Steps C.P m0 m' ∧ StR C ρ w0 K0 cs0 ψ0 s' m'
  | 0, s, s', m0, hs, e => by cases e; exact ⟨m0, Steps.refl _ _, hs⟩
  | n + 1, s, s', m0, hs, e => by
    unfold runA at e
    split at e
    case h_2 => cases e
    rename_i s1 h1
    obtain ⟨m1, t1, r1⟩ := step_sound hN hMix hs h1
    obtain ⟨m2, t2, r2⟩ := run_sound hN hMix n r1 e
    exact ⟨m2, t1.trans t2, r2⟩
/-- What a call comes to is what the machine's comes to. -/
theorem call_run (hN : NatOk C ρ w0) (hMix : C.P.follows .mixedOrders = true) (m : Mem C ρ w0 K ψ h w) {f : FuncId} {args : List A} {us : List Value} (hu : VRs ρ ψ args us) {n : Nat} {x : A} (he : callU C n f args h = some (x, h')) :
    (∀ w, (callFunc f us.toArray).run C.P w = .ok (.enter f us.toArray) w) ∧ Calls C.P f us.toArray w fun e w' => ∃ v ψ', e = .returned v ∧ ψ.le ψ' ∧ Mem C ρ w0 K ψ' h' w' ∧ VR ρ ψ' x v := by
  unfold callU at he
  split at he
  case h_2 => cases he
  rename_i fr hfr
  split at he
  case h_2 => cases he
  rename_i s hs
  obtain ⟨c1, _, c2⟩ := enter_sound (K := K) m.ok hfr hu
  refine ⟨c1, fun cs => ?_⟩
  obtain ⟨f0, t0, b0, r0⟩ := c2 cs w
  have h0 : StR C ρ w0 K cs ψ ⟨fr, [], h⟩ (lone f0 cs w) := ⟨K, ψ, w, f0, cs, [], fun b o => K b = some o, rfl, b0, r0, ⟨rfl, fun _ _ h => h⟩, ⟨fun _ _ h => h, fun p hp => by cases hp⟩, m, Psi.le.refl ψ⟩
  obtain ⟨m1, t1, K1, ψ1, w1, f1, cs1, es, Kp, rfl, b1, r1, ⟨rfl, k1⟩, p1, m1, l1⟩ : ∃ m', Steps C.P (lone f0 cs w) m' ∧ ∃ K1 ψ1 w1 f1 cs1 es Kp, m' = lone f1 cs1 w1 ∧ FrB ρ ψ1 s.fr f1 ∧ FrR C ρ w0 K1 ψ1 true s.fr f1 es ∧ StkR C ρ w0 K cs K1 ψ1 [] cs1 Kp ∧ Prot Kp K1 es ∧ Mem C ρ w0 K1 ψ1 s.h w1 ∧ ψ.le ψ1 := by
    obtain ⟨m', t1, K1, ψ1, w1, f1, cs1, es, Kp, q1, q2, q3, q4, q5, q6, q7⟩ := run_sound hN hMix n h0 hs
    have hcs : s.cs = [] := by
      unfold endOf at he
      split at he
      · rfl
      · cases he
    rw [hcs] at q4
    exact ⟨m', t1, K1, ψ1, w1, f1, cs1, es, Kp, q1, q2, q3, q4, q5, q6, q7⟩
  unfold endOf at he
  split at he
  case h_2 => cases he
  rename_i fn nt tm todo hq
  cases hbf : Nat.beq fn f with
  | false => rw [hbf] at he; cases he
  | true =>
    rw [hbf] at he
    have hbf := Nat.eq_of_beq_eq_true hbf
    subst hbf
    simp only [cond_true] at he
    split at he
    case h_2 => cases he
    rename_i fd hfd
    split at he
    case h_2 => cases he
    rename_i x' hx
    cases he
    simp only at b1 r1 m1
    cases r1 with
    | run q => cases q
    | pan _ _ q => cases q
    | ret _ g2 g3 _ =>
      obtain ⟨v, d1, d2⟩ := result_sound m1 g3 hx
      have mw := m.weaken l1 (fun b o hb => p1.k b o (k1 b o hb)) m1
      refine ⟨.returned v, w1, f1, ⟨v, ψ1, rfl, l1, mw, d2⟩, t0.trans t1, b1.fn, g2, b1.df, b1.kd, fd, ?_, d1⟩
      rw [b1.fn]
      exact m.ok.fns _ _ hfd
end
end Go.U
/-
  U, part 35: a call that was gone through once, in a memory that holds no more than it reads: taken up elsewhere. Definitions.
-/
set_option linter.unusedVariables false
namespace Go.U
open Go Go.RowKit

noncomputable section
inductive CO where
  | cells (e : TypeId) (ro : Bool) (l : List A)
  | map (es : List (A × A × Nat)) (c : Nat)
  deriving Inhabited
/-- A call: what it is given, the memory that it reads (blocks from G on; of the blocks below G those that are named), what it yields, new blocks. -/
structure Chunk where
  args : List A
  gs : List (Nat × CO)
  objs : List CO
  x : A
  new : List (Nat × CO)
  nx : Nat
  deriving Inhabited
def CO.ao : CO → AO
  | .cells e ro l => .cells e ro l.length (T.ofList l 0 .e)
  | .map es c => .map es c
/-- The same, not to be written. -/
def CO.kao : CO → AO
  | .cells e _ l => .cells e true l.length (T.ofList l 0 .e)
  | .map es c => .map es c
def putGs : List (Nat × CO) → T AO → T AO
  | [], t => t
  | p :: l, t => putGs l (t.set p.1 p.2.kao)
def canon (G : Nat) (ck : Chunk) : Hp := ⟨T.ofList (ck.objs.map CO.kao) G (putGs ck.gs .e), G + ck.objs.length⟩
section
variable (G c0 : Nat)
def bindId (i j : Nat) (r : T Nat) : Option (T Nat) :=
  bif Nat.blt i G then (bif Nat.beq i j then some r else none)
  else bif Nat.blt i c0 then (match r.get i with
    | some j' => bif Nat.beq j j' then some r else none
    | none => some (r.set i j)) else none
def okFn : Fn → Fn → Bool
  | .yield _, _ => false
  | f, g => decide (f = g)
def okCap (c c' : Nat) (ex ex' : Bool) : Bool := bif ex then ex' && Nat.beq c c' else Nat.ble c c'
mutual
def mV : A → A → T Nat → Option (T Nat)
  | .p (some x), b, r => match b with
    | .p (some y) => bif Nat.beq x.2 y.2 then bindId G c0 x.1 y.1 r else none
    | _ => none
  | .sl (some x) n c ex, b, r => match b with
    | .sl (some y) n' c' ex' => bif Nat.beq x.2.1 y.2.1 && (Nat.beq x.2.2 y.2.2 && (Nat.beq n n' && okCap c c' ex ex')) then bindId G c0 x.1 y.1 r else none
    | _ => none
  | .m (some x), b, r => match b with
    | .m (some y) => bindId G c0 x y r
    | _ => none
  | .ifc t x, b, r => match b with
    | .ifc u y => bif Nat.beq t u then mV x y r else none
    | _ => none
  | .ag l, b, r => match b with
    | .ag l' => bif l.all A.one then mVs l l' r else none
    | _ => none
  | .tu l, b, r => match b with
    | .tu l' => mVs l l' r
    | _ => none
  | .f fn x y, b, r => match b with
    | .f fn' x' y' => bif okFn fn fn' then (match mVs x x' r with | some r => mVs y y' r | none => none) else none
    | _ => none
  | .yl .., _, _ => none
  | a, b, r => bif sameV a b then some r else none
def mVs : List A → List A → T Nat → Option (T Nat)
  | [], bs, r => match bs with
    | [] => some r
    | _ => none
  | a :: as, bs, r => match bs with
    | b :: bs => match mV a b r with | some r => mVs as bs r | none => none
    | _ => none
end
def mCells : List A → T A → Nat → T Nat → Option (T Nat)
  | [], _, _, r => some r
  | a :: l, t, j, r => match t.get j with
    | some b => match mV G c0 a b r with | some r => mCells l t (j + 1) r | none => none
    | none => none
def mEs : List (A × A × Nat) → List (A × A × Nat) → T Nat → Option (T Nat)
  | [], bs, r => match bs with
    | [] => some r
    | _ => none
  | a :: as, bs, r => match bs with
    | b :: bs => bif Nat.beq a.2.2 b.2.2 then (match mV G c0 a.1 b.1 r with
      | some r => match mV G c0 a.2.1 b.2.1 r with | some r => mEs as bs r | none => none
      | none => none) else none
    | _ => none
def mO : CO → AO → T Nat → Option (T Nat)
  | .cells e _ l, o, r => match o with
    | .cells e' _ n t => bif Nat.beq e e' && Nat.beq l.length n then mCells G c0 l t 0 r else none
    | _ => none
  | .map es c, o, r => match o with
    | .map es' c' => bif Nat.beq c c' then mEs G c0 es es' r else none
    | _ => none
def mObjs (h : Hp) : Nat → List CO → T Nat → Option (T Nat)
  | _, [], r => some r
  | i, o :: os, r => match r.get i with
    | some j => match h.get j with
      | some o' => match mO G c0 o o' r with | some r => mObjs h (i + 1) os r | none => none
      | none => none
    | none => none
def mGs (h : Hp) : List (Nat × CO) → T Nat → Option (T Nat)
  | [], r => some r
  | p :: os, r => bif Nat.blt p.1 G then (match h.get p.1 with
    | some o' => match mO G c0 p.2 o' r with | some r => mGs h os r | none => none
    | none => none) else none
def mAll (ck : Chunk) (args : List A) (h : Hp) : Option (T Nat) :=
  match mVs G c0 ck.args args .e with
  | some r => match mGs G c0 h ck.gs r with
    | some r => mObjs G c0 h G ck.objs r
    | none => none
  | none => none
end
/-! what comes back -/
def rnI (G c0 nx : Nat) (r : T Nat) (i : Nat) : Nat := bif Nat.blt i G then i else bif Nat.blt i c0 then (match r.get i with | some j => j | none => 0) else i - c0 + nx
def rnFn (f : Nat → Nat) : Fn → Fn
  | .yield l => .yield (f l)
  | g => g
mutual
def rnA (f : Nat → Nat) : A → A
  | .p (some x) => .p (some (f x.1, x.2))
  | .sl (some x) n c e => .sl (some (f x.1, x.2)) n c e
  | .m (some x) => .m (some (f x))
  | .yl i o e c j => .yl (f i) o e c j
  | .ifc t x => .ifc t (rnA f x)
  | .ag l => .ag (rnAs f l)
  | .tu l => .tu (rnAs f l)
  | .f fn x y => .f (rnFn f fn) (rnAs f x) (rnAs f y)
  | a => a
def rnAs (f : Nat → Nat) : List A → List A
  | [] => []
  | a :: as => rnA f a :: rnAs f as
end
def rnEs (f : Nat → Nat) : List (A × A × Nat) → List (A × A × Nat)
  | [] => []
  | a :: as => (rnA f a.1, rnA f a.2.1, a.2.2) :: rnEs f as
def CO.rn (f : Nat → Nat) : CO → CO
  | .cells e ro l => .cells e ro (rnAs f l)
  | .map es c => .map (rnEs f es) c
def putNew (f : Nat → Nat) : List (Nat × CO) → T AO → T AO
  | [], t => t
  | p :: l, t => putNew f l (t.set (f p.1) (p.2.rn f).ao)
/-- The call, taken up. -/
def subRes (f : Nat → Nat) (ck : Chunk) (c0 : Nat) (h : Hp) : A × Hp := (rnA f ck.x, ⟨putNew f ck.new h.o, h.nx + (ck.nx - c0)⟩)
def natSub (G : Nat) (ck : Chunk) (args : List A) (h : Hp) : Option (A × Hp) :=
  match mAll G (G + ck.objs.length) ck args h with
  | some r => some (subRes (rnI G (G + ck.objs.length) h.nx r) ck (G + ck.objs.length) h)
  | none => none
def natSubs (G : Nat) : List Chunk → List A → Hp → Option (A × Hp)
  | [], _, _ => none
  | ck :: cks, args, h => match natSub G ck args h with
    | some p => some p
    | none => natSubs G cks args h
/-! what a chunk says, as the kernel finds it out -/
def isCells : List A → T A → Nat → Bool
  | [], _, _ => true
  | a :: l, t, j => match t.get j with
    | some b => sameV a b && isCells l t (j + 1)
    | none => false
def isEs : List (A × A × Nat) → List (A × A × Nat) → Bool
  | [], bs => match bs with
    | [] => true
    | _ => false
  | a :: as, bs => match bs with
    | b :: bs => Nat.beq a.2.2 b.2.2 && (sameV a.1 b.1 && (sameV a.2.1 b.2.1 && isEs as bs))
    | _ => false
def isCO : CO → AO → Bool
  | .cells e ro l, o => match o with
    | .cells e' ro' n t => Nat.beq e e' && ((ro || !ro') && (Nat.beq l.length n && isCells l t 0))
    | _ => false
  | .map es c, o => match o with
    | .map es' c' => Nat.beq c c' && isEs es es'
    | _ => false
def isNew (c0 : Nat) (h : Hp) : List (Nat × CO) → Bool
  | [] => true
  | p :: l => Nat.ble c0 p.1 && ((match h.get p.1 with | some o => isCO p.2 o | none => false) && isNew c0 h l)
def chunkIs (G : Nat) (ck : Chunk) : Option (A × Hp) → Bool
  | some p => sameV ck.x p.1 && (isNew (G + ck.objs.length) p.2 ck.new && (Nat.beq ck.nx p.2.nx && Nat.blt p.2.nx MB))
  | none => false
/-- The chunk holds, over a context (whose G is as large as the chunk wants it). -/
def ChunkOk (C : Cx) (G n : Nat) (f : FuncId) (ck : Chunk) : Prop := chunkIs G ck (callU C n f ck.args (canon G ck)) = true
end
end Go.U
/-
  U, part 36: a call that was gone through once, taken up elsewhere: what is given is the same.
-/
set_option linter.unusedVariables false
set_option linter.unusedSimpArgs false
set_option linter.unusedSectionVars false
namespace Go.U
open Go Go.RowKit

def Ext (r R : T Nat) : Prop := ∀ i j, r.get i = some j → R.get i = some j
theorem Ext.refl (r : T Nat) : Ext r r := fun _ _ h => h
theorem Ext.trans {a b c : T Nat} (h : Ext a b) (k : Ext b c) : Ext a c := fun i j hi => k i j (h i j hi)
noncomputable def cPsi (G c0 : Nat) (ψ : Psi) (R : T Nat) : Psi := fun i => if i < G then ψ i else if i < c0 then (R.get i).bind ψ else none
section
variable {G c0 : Nat} {ψ : Psi} {ρ : Nat → Int} (hc : c0 ≤ MB)
include hc
theorem bindId_sound {i j : Nat} {r r' : T Nat} (h : bindId G c0 i j r = some r') : Ext r r' ∧ ∀ R, Ext r' R → cPsi G c0 ψ R i = ψ j := by
  unfold bindId at h
  cases hi : Nat.blt i G with
  | true =>
    rw [hi] at h
    cases hj : Nat.beq i j with
    | false => rw [hj] at h; cases h
    | true =>
      rw [hj] at h; cases h
      have := Nat.eq_of_beq_eq_true hj
      subst this
      refine ⟨Ext.refl _, fun R _ => ?_⟩
      unfold cPsi; rw [if_pos (by rw [Nat.blt_eq] at hi; exact hi)]
  | false =>
    rw [hi] at h
    have hi' : ¬ i < G := fun hx => by rw [← Nat.blt_eq, hi] at hx; cases hx
    cases hk : Nat.blt i c0 with
    | false => rw [hk] at h; cases h
    | true =>
      rw [hk] at h
      have hk' : i < c0 := by rw [Nat.blt_eq] at hk; exact hk
      simp only [cond_false, cond_true] at h
      have fin : ∀ R, R.get i = some j → cPsi G c0 ψ R i = ψ j := fun R hR => by
        unfold cPsi; rw [if_neg hi', if_pos hk', hR]; rfl
      split at h
      · rename_i j' hj'
        cases hb : Nat.beq j j' with
        | false => rw [hb] at h; cases h
        | true =>
          rw [hb] at h; cases h
          have := Nat.eq_of_beq_eq_true hb
          subst this
          exact ⟨Ext.refl _, fun R hR => fin R (hR _ _ hj')⟩
      · rename_i hn
        cases h
        have hfit : i + 1 < 2 ^ 40 := by unfold MB at hc; omega
        refine ⟨fun i' j' h' => ?_, fun R hR => fin R (hR _ _ ?_)⟩
        · show (T.put 40 r i (some j)).get i' = some j'
          rw [T.put_get _ _ _ _ _ hfit]
          by_cases e : i' = i
          · subst e; rw [hn] at h'; cases h'
          · rw [if_neg e]; exact h'
        · show (T.put 40 r i (some j)).get i = some j
          rw [T.put_get _ _ _ _ _ hfit, if_pos rfl]
theorem plainV {a b : A} {r r' : T Nat} (h : (bif sameV a b then some r else none) = some r') (hp : ∀ R v, VR ρ ψ a v → VR ρ (cPsi G c0 ψ R) a v) : Ext r r' ∧ ∀ R, Ext r' R → ∀ v, VR ρ ψ b v → VR ρ (cPsi G c0 ψ R) a v := by
  cases hb : sameV a b with
  | false => rw [hb] at h; cases h
  | true =>
    rw [hb] at h; cases h
    have e := sameV_eq hb
    subst e
    exact ⟨Ext.refl _, fun R _ v hv => hp R v hv⟩
mutual
theorem mV_sound : ∀ (a b : A) {r r' : T Nat}, mV G c0 a b r = some r' → Ext r r' ∧ ∀ R, Ext r' R → ∀ v, VR ρ ψ b v → VR ρ (cPsi G c0 ψ R) a v
  | .p (some (i, o)), b, r, r', h => by
    unfold mV at h
    split at h
    · rename_i y
      obtain ⟨j, o'⟩ := y
      cases hb : Nat.beq o o' with
      | false => simp only [hb] at h; cases h
      | true =>
        simp only [hb] at h
        obtain ⟨h1, h2⟩ := bindId_sound (ψ := ψ) hc h
        refine ⟨h1, fun R hR v hv => ?_⟩
        obtain ⟨B, hB, rfl⟩ := hv
        have := Nat.eq_of_beq_eq_true hb
        subst this
        exact ⟨B, (h2 R hR).trans hB, rfl⟩
    · cases h
  | .sl (some (i, o, es)) n c ex, b, r, r', h => by
    unfold mV at h
    split at h
    · rename_i y n' c' ex'
      obtain ⟨j, o', es'⟩ := y
      cases hb : (Nat.beq o o' && (Nat.beq es es' && (Nat.beq n n' && okCap c c' ex ex'))) with
      | false => simp only [hb] at h; cases h
      | true =>
        simp only [hb] at h
        obtain ⟨h1, h2⟩ := bindId_sound (ψ := ψ) hc h
        refine ⟨h1, fun R hR v hv => ?_⟩
        simp only [Bool.and_eq_true] at hb
        obtain ⟨b1, b2, b3, b4⟩ := hb
        have e1 := Nat.eq_of_beq_eq_true b1
        have e2 := Nat.eq_of_beq_eq_true b2
        have e3 := Nat.eq_of_beq_eq_true b3
        subst e1; subst e2; subst e3
        obtain ⟨B, k, hB, q1, q2, q3, q4, q5⟩ := hv
        refine ⟨B, k, (h2 R hR).trans hB, q1, q2, q3, ?_, fun hx => ?_⟩
        · unfold okCap at b4
          cases ex with
          | true =>
            simp only [cond_true, Bool.and_eq_true] at b4
            rw [Nat.eq_of_beq_eq_true b4.2]; exact q4
          | false => exact Nat.le_trans (Nat.le_of_ble_eq_true b4) q4
        · subst hx
          simp only [okCap, cond_true, Bool.and_eq_true] at b4
          rw [Nat.eq_of_beq_eq_true b4.2]; exact q5 b4.1
    · cases h
  | .m (some i), b, r, r', h => by
    unfold mV at h
    split at h
    · rename_i j
      obtain ⟨h1, h2⟩ := bindId_sound (ψ := ψ) hc h
      refine ⟨h1, fun R hR v hv => ?_⟩
      obtain ⟨B, hB, rfl⟩ := hv
      exact ⟨B, (h2 R hR).trans hB, rfl⟩
    · cases h
  | .ifc t x, b, r, r', h => by
    unfold mV at h
    split at h
    · rename_i u y
      cases hb : Nat.beq t u with
      | false => simp only [hb] at h; cases h
      | true =>
        simp only [hb] at h
        obtain ⟨h1, h2⟩ := mV_sound x y h
        refine ⟨h1, fun R hR v hv => ?_⟩
        obtain ⟨z, rfl, hz⟩ := hv
        rw [Nat.eq_of_beq_eq_true hb]
        exact ⟨z, rfl, h2 R hR z hz⟩
    · cases h
  | .ag l, b, r, r', h => by
    unfold mV at h
    split at h
    · rename_i l'
      cases hb : l.all A.one with
      | false => simp only [hb] at h; cases h
      | true =>
        simp only [hb] at h
        obtain ⟨h1, h2⟩ := mVs_sound l l' h
        refine ⟨h1, fun R hR v hv => ?_⟩
        obtain ⟨us, rfl, hz, _⟩ := hv
        exact ⟨us, rfl, h2 R hR us hz, hb⟩
    · cases h
  | .tu l, b, r, r', h => by
    unfold mV at h
    split at h
    · rename_i l'
      obtain ⟨h1, h2⟩ := mVs_sound l l' h
      refine ⟨h1, fun R hR v hv => ?_⟩
      obtain ⟨us, rfl, hz⟩ := hv
      exact ⟨us, rfl, h2 R hR us hz⟩
    · cases h
  | .f fn x y, b, r, r', h => by
    unfold mV at h
    split at h
    · rename_i fn' x' y'
      cases hb : okFn fn fn' with
      | false => simp only [hb] at h; cases h
      | true =>
        simp only [hb, cond_true] at h
        split at h
        · rename_i r1 hr1
          obtain ⟨h1, h2⟩ := mVs_sound x x' hr1
          obtain ⟨h3, h4⟩ := mVs_sound y y' h
          refine ⟨h1.trans h3, fun R hR v hv => ?_⟩
          obtain ⟨g, us, vs, k1, rfl, k3, k4⟩ := hv
          refine ⟨g, us, vs, ?_, rfl, h2 R (h3.trans hR) us k3, h4 R hR vs k4⟩
          cases fn with
          | yield l => cases hb
          | _ =>
            simp only [okFn, decide_eq_true_eq] at hb
            rw [← hb] at k1
            exact k1
        · cases h
    · cases h
  | .p none, b, r, r', h => plainV hc (by unfold mV at h; exact h) fun R v hv => hv
  | .sl none n c ex, b, r, r', h => plainV hc (by unfold mV at h; exact h) fun R v hv => hv
  | .m none, b, r, r', h => plainV hc (by unfold mV at h; exact h) fun R v hv => hv
  | .b x, b, r, r', h => plainV hc (by unfold mV at h; exact h) fun R v hv => hv
  | .i k n, b, r, r', h => plainV hc (by unfold mV at h; exact h) fun R v hv => hv
  | .y k e, b, r, r', h => plainV hc (by unfold mV at h; exact h) fun R v hv => hv
  | .s l, b, r, r', h => plainV hc (by unfold mV at h; exact h) fun R v hv => hv
  | .nf, b, r, r', h => plainV hc (by unfold mV at h; exact h) fun R v hv => hv
  | .ni, b, r, r', h => plainV hc (by unfold mV at h; exact h) fun R v hv => hv
  | .se, b, r, r', h => plainV hc (by unfold mV at h; exact h) fun R v hv => hv
  | .yl .., b, r, r', h => by unfold mV at h; cases h
theorem mVs_sound : ∀ (as bs : List A) {r r' : T Nat}, mVs G c0 as bs r = some r' → Ext r r' ∧ ∀ R, Ext r' R → ∀ vs, VRs ρ ψ bs vs → VRs ρ (cPsi G c0 ψ R) as vs
  | [], bs, r, r', h => by
    unfold mVs at h
    split at h
    · cases h; exact ⟨Ext.refl _, fun R _ vs hv => hv⟩
    · cases h
  | a :: as, bs, r, r', h => by
    unfold mVs at h
    split at h
    · rename_i b bs
      split at h
      · rename_i r1 hr1
        obtain ⟨h1, h2⟩ := mV_sound a b hr1
        obtain ⟨h3, h4⟩ := mVs_sound as bs h
        refine ⟨h1.trans h3, fun R hR vs hv => ?_⟩
        obtain ⟨u, us, rfl, k1, k2⟩ := hv
        exact ⟨u, us, rfl, h2 R (h3.trans hR) u k1, h4 R hR us k2⟩
      · cases h
    · cases h
end
end
end Go.U
/-
  U, part 37: a call that was gone through once, taken up elsewhere: the memory that it is given, and what comes back.
-/
set_option linter.unusedVariables false
set_option linter.unusedSimpArgs false
set_option linter.unusedSectionVars false
namespace Go.U
open Go Go.RowKit

section
variable {G c0 : Nat} {ψ : Psi} {ρ : Nat → Int} (hc : c0 ≤ MB)
theorem mV_one {a b : A} {r r' : T Nat} (h : mV G c0 a b r = some r') (hb : b.one = true) : a.one = true := by
  cases a with
  | ag l => unfold mV at h; split at h; cases hb; cases h
  | tu l => unfold mV at h; split at h; cases hb; cases h
  | _ => rfl
include hc
theorem mCells_sound : ∀ {l : List A} {t : T A} {j : Nat} {r r' : T Nat}, mCells G c0 l t j r = some r' → Ext r r' ∧ ∀ R, Ext r' R → ∀ q a, l[q]? = some a → ∃ b, t.get (j + q) = some b ∧ (b.one = true → a.one = true) ∧ ∀ v, VR ρ ψ b v → VR ρ (cPsi G c0 ψ R) a v
  | [], t, j, r, r', h => by cases h; exact ⟨Ext.refl _, fun R _ q a hq => by simp at hq⟩
  | a :: l, t, j, r, r', h => by
    unfold mCells at h
    split at h
    case h_2 => cases h
    rename_i b hb
    split at h
    case h_2 => cases h
    rename_i r1 hr1
    obtain ⟨h1, h2⟩ := mV_sound (ψ := ψ) (ρ := ρ) hc a b hr1
    obtain ⟨h3, h4⟩ := mCells_sound h
    refine ⟨h1.trans h3, fun R hR q a' hq => ?_⟩
    cases q with
    | zero =>
      simp only [List.getElem?_cons_zero, Option.some.injEq] at hq
      subst hq
      exact ⟨b, hb, mV_one hr1, h2 R (h3.trans hR)⟩
    | succ q =>
      obtain ⟨b', k1, k2⟩ := h4 R hR q a' (by simpa using hq)
      exact ⟨b', by rw [show j + (q + 1) = j + 1 + q by omega]; exact k1, k2⟩
theorem mEs_sound : ∀ {as bs : List (A × A × Nat)} {r r' : T Nat}, mEs G c0 as bs r = some r' → Ext r r' ∧ ∀ R, Ext r' R → ∀ es, EsR ρ ψ bs es → EsR ρ (cPsi G c0 ψ R) as es
  | [], bs, r, r', h => by
    unfold mEs at h
    split at h
    · cases h; exact ⟨Ext.refl _, fun R _ es he => he⟩
    · cases h
  | a :: as, bs, r, r', h => by
    unfold mEs at h
    split at h
    case h_2 => cases h
    rename_i b bs
    cases hb : Nat.beq a.2.2 b.2.2 with
    | false => rw [hb] at h; cases h
    | true =>
      rw [hb] at h
      simp only [cond_true] at h
      split at h
      case h_2 => cases h
      rename_i r1 hr1
      split at h
      case h_2 => cases h
      rename_i r2 hr2
      obtain ⟨h1, h2⟩ := mV_sound (ψ := ψ) (ρ := ρ) hc _ _ hr1
      obtain ⟨h3, h4⟩ := mV_sound (ψ := ψ) (ρ := ρ) hc _ _ hr2
      obtain ⟨h5, h6⟩ := mEs_sound h
      refine ⟨(h1.trans h3).trans h5, fun R hR es he => ?_⟩
      obtain ⟨b1, b2, b3⟩ := b
      obtain ⟨a1, a2, a3⟩ := a
      obtain ⟨e, l', k1, k2, k3, k4, k5⟩ := he
      exact ⟨e, l', k1, h2 R ((h3.trans h5).trans hR) _ k2, h4 R (h5.trans hR) _ k3, k4.trans (Nat.eq_of_beq_eq_true hb).symm, h6 R hR _ k5⟩
theorem mO_sound {co : CO} {o : AO} {r r' : T Nat} (h : mO G c0 co o r = some r') : Ext r r' ∧ ∀ R, Ext r' R → ∀ B ob, OR ρ ψ B o ob → OR ρ (cPsi G c0 ψ R) B co.kao ob := by
  cases co with
  | cells e ro l =>
    unfold mO at h
    simp only at h
    split at h
    case h_2 => cases h
    rename_i e' ro' n t
    cases hb : (Nat.beq e e' && Nat.beq l.length n) with
    | false => rw [hb] at h; cases h
    | true =>
      rw [hb] at h
      simp only [Bool.and_eq_true] at hb
      obtain ⟨h1, h2⟩ := mCells_sound (ψ := ψ) (ρ := ρ) hc h
      refine ⟨h1, fun R hR B ob ho => ?_⟩
      obtain ⟨arr, fr, k1, k2, k3, k4, k5⟩ := ho
      rw [← Nat.eq_of_beq_eq_true hb.1] at k1
      have hn := Nat.le_of_eq (Nat.eq_of_beq_eq_true hb.2)
      refine ⟨arr, fr, k1, k2, fun q => (by cases q), by omega, fun j a hj => ?_⟩
      rcases T.get_ofList hj with ⟨_, q2⟩ | ⟨_, q2⟩
      · rw [Nat.sub_zero] at q2
        obtain ⟨b, g1, g2, g3⟩ := h2 R hR j a q2
        rw [Nat.zero_add] at g1
        obtain ⟨c1, ⟨v, c2, c3⟩, c4⟩ := k5 j b g1
        exact ⟨g2 c1, ⟨v, c2, g3 v c3⟩, (List.getElem?_eq_some_iff.1 q2).1⟩
      · rw [T.get_e] at q2; cases q2
  | map es c =>
    unfold mO at h
    simp only at h
    split at h
    case h_2 => cases h
    rename_i es' c'
    cases hb : Nat.beq c c' with
    | false => rw [hb] at h; cases h
    | true =>
      rw [hb] at h
      obtain ⟨h1, h2⟩ := mEs_sound (ψ := ψ) (ρ := ρ) hc h
      refine ⟨h1, fun R hR B ob ho => ?_⟩
      obtain ⟨l, k1, k2⟩ := ho
      rw [Nat.eq_of_beq_eq_true hb]
      exact ⟨l, k1, h2 R hR l k2⟩
theorem mO_shape {e : TypeId} {ro : Bool} {l : List A} {o : AO} {r r' : T Nat} (h : mO G c0 (.cells e ro l) o r = some r') : ∃ ro' t, o = .cells e ro' l.length t := by
  unfold mO at h
  simp only at h
  split at h
  case h_2 => cases h
  rename_i e' ro' n t
  cases hb : (Nat.beq e e' && Nat.beq l.length n) with
  | false => rw [hb] at h; cases h
  | true =>
    simp only [Bool.and_eq_true] at hb
    rw [Nat.eq_of_beq_eq_true hb.1, Nat.eq_of_beq_eq_true hb.2]
    exact ⟨ro', t, rfl⟩
def Shape (co : CO) (o : AO) : Prop := ∀ e ro n t, co.kao = .cells e ro n t → ∃ ro' t', o = .cells e ro' n t'
theorem mO_sh {co : CO} {o : AO} {r r' : T Nat} (h : mO G c0 co o r = some r') : Shape co o := fun e ro n t e1 => by
  cases co with
  | cells e' ro' l => cases e1; exact mO_shape hc h
  | map es c => cases e1
theorem mObjs_sound {h : Hp} : ∀ {os : List CO} {i : Nat} {r r' : T Nat}, mObjs G c0 h i os r = some r' → Ext r r' ∧ ∀ R, Ext r' R → ∀ q co, os[q]? = some co → ∃ j o, R.get (i + q) = some j ∧ h.get j = some o ∧ Shape co o ∧ ∀ B ob, OR ρ ψ B o ob → OR ρ (cPsi G c0 ψ R) B co.kao ob
  | [], i, r, r', e => by cases e; exact ⟨Ext.refl _, fun R _ q co hq => by simp at hq⟩
  | o :: os, i, r, r', e => by
    unfold mObjs at e
    split at e
    case h_2 => cases e
    rename_i j hj
    split at e
    case h_2 => cases e
    rename_i o' ho'
    split at e
    case h_2 => cases e
    rename_i r1 hr1
    obtain ⟨h1, h2⟩ := mO_sound (ψ := ψ) (ρ := ρ) hc hr1
    obtain ⟨h3, h4⟩ := mObjs_sound e
    refine ⟨h1.trans h3, fun R hR q co hq => ?_⟩
    cases q with
    | zero =>
      simp only [List.getElem?_cons_zero, Option.some.injEq] at hq
      subst hq
      exact ⟨j, o', hR _ _ (h3 _ _ (h1 _ _ hj)), ho', mO_sh hc hr1, h2 R (h3.trans hR)⟩
    | succ q =>
      obtain ⟨j', o2, k1, k2⟩ := h4 R hR q co (by simpa using hq)
      exact ⟨j', o2, by rw [show i + (q + 1) = i + 1 + q by omega]; exact k1, k2⟩
theorem mGs_sound {h : Hp} : ∀ {os : List (Nat × CO)} {r r' : T Nat}, mGs G c0 h os r = some r' → Ext r r' ∧ ∀ R, Ext r' R → ∀ p ∈ os, p.1 < G ∧ ∃ o, h.get p.1 = some o ∧ Shape p.2 o ∧ ∀ B ob, OR ρ ψ B o ob → OR ρ (cPsi G c0 ψ R) B p.2.kao ob
  | [], r, r', e => by cases e; exact ⟨Ext.refl _, fun R _ p hp => by cases hp⟩
  | p :: os, r, r', e => by
    unfold mGs at e
    cases hb : Nat.blt p.1 G with
    | false => rw [hb] at e; cases e
    | true =>
      rw [hb] at e
      simp only [cond_true] at e
      split at e
      case h_2 => cases e
      rename_i o' ho'
      split at e
      case h_2 => cases e
      rename_i r1 hr1
      obtain ⟨h1, h2⟩ := mO_sound (ψ := ψ) (ρ := ρ) hc hr1
      obtain ⟨h3, h4⟩ := mGs_sound e
      refine ⟨h1.trans h3, fun R hR p' hp' => ?_⟩
      cases hp' with
      | head => exact ⟨by rw [Nat.blt_eq] at hb; exact hb, o', ho', mO_sh hc hr1, h2 R (h3.trans hR)⟩
      | tail _ hp' => exact h4 R hR p' hp'
end
theorem putGs_get : ∀ {l : List (Nat × CO)} {t : T AO} {i : Nat} {o : AO}, (putGs l t).get i = some o → (∃ p ∈ l, p.1 = i ∧ o = p.2.kao) ∨ t.get i = some o
  | [], t, i, o, h => .inr h
  | p :: l, t, i, o, h => by
    rcases putGs_get (l := l) h with ⟨q, q1, q2⟩ | q
    · exact .inl ⟨q, List.mem_cons_of_mem _ q1, q2⟩
    · rcases T.get_set q with ⟨h1, h2⟩ | ⟨_, h2⟩
      · exact .inl ⟨p, List.mem_cons_self .., h1.symm, h2.symm⟩
      · exact .inr h2
theorem canon_get {G : Nat} {ck : Chunk} {i : Nat} {o : AO} (h : (canon G ck).get i = some o) : (∃ q co, i = G + q ∧ ck.objs[q]? = some co ∧ o = co.kao) ∨ ∃ p ∈ ck.gs, p.1 = i ∧ o = p.2.kao := by
  have h : (T.ofList (ck.objs.map CO.kao) G (putGs ck.gs .e)).get i = some o := h
  rcases T.get_ofList h with ⟨h1, h2⟩ | ⟨_, h2⟩
  · rw [List.getElem?_map, Option.map_eq_some_iff] at h2
    obtain ⟨co, h3, rfl⟩ := h2
    exact .inl ⟨i - G, co, by omega, h3, rfl⟩
  · rcases putGs_get h2 with h3 | h3
    · exact .inr h3
    · rw [T.get_e] at h3; cases h3
/-! what comes back -/
section
variable {ψ ψ' : Psi} {ρ : Nat → Int} {f : Nat → Nat}
theorem rnFn_sound (hf : ∀ i B, ψ i = some B → ψ' (f i) = some B) {g g' : Fn} (h : FnR ψ g g') : FnR ψ' (rnFn f g) g' := by
  cases g <;> first | exact h | skip
  obtain ⟨B, h1, h2⟩ := h
  exact ⟨B, hf _ _ h1, h2⟩
theorem rnA_one (a : A) : (rnA f a).one = a.one := by
  unfold rnA
  split <;> first | rfl | skip
theorem rnAs_one : ∀ (l : List A), (rnAs f l).all A.one = l.all A.one
  | [] => by unfold rnAs; rfl
  | a :: l => by unfold rnAs; simp only [List.all_cons, rnA_one, rnAs_one l]
theorem rnAs_map : ∀ (l : List A), rnAs f l = l.map (rnA f)
  | [] => by unfold rnAs; rfl
  | a :: l => by unfold rnAs; rw [rnAs_map l]; rfl
mutual
theorem rnA_sound (hf : ∀ i B, ψ i = some B → ψ' (f i) = some B) : ∀ (a : A) (v : Value), VR ρ ψ a v → VR ρ ψ' (rnA f a) v
  | .p (some (i, o)), v, h => by obtain ⟨B, h1, h2⟩ := h; unfold rnA; exact ⟨B, hf _ _ h1, h2⟩
  | .sl (some (i, o, es)) n c ex, v, h => by obtain ⟨B, k, h1, h2⟩ := h; unfold rnA; exact ⟨B, k, hf _ _ h1, h2⟩
  | .m (some i), v, h => by obtain ⟨B, h1, h2⟩ := h; unfold rnA; exact ⟨B, hf _ _ h1, h2⟩
  | .ifc t x, v, h => by obtain ⟨u, h1, h2⟩ := h; unfold rnA; exact ⟨u, h1, rnA_sound hf x u h2⟩
  | .ag l, v, h => by obtain ⟨us, h1, h2, h3⟩ := h; unfold rnA; exact ⟨us, h1, rnAs_sound hf l us h2, by rw [rnAs_one]; exact h3⟩
  | .tu l, v, h => by obtain ⟨us, h1, h2⟩ := h; unfold rnA; exact ⟨us, h1, rnAs_sound hf l us h2⟩
  | .f fn x y, v, h => by obtain ⟨g, us, vs, h1, h2, h3, h4⟩ := h; unfold rnA; exact ⟨g, us, vs, rnFn_sound hf h1, h2, rnAs_sound hf x us h3, rnAs_sound hf y vs h4⟩
  | .p none, v, h => by unfold rnA; exact h
  | .sl none n c ex, v, h => by unfold rnA; exact h
  | .m none, v, h => by unfold rnA; exact h
  | .b x, v, h => by unfold rnA; exact h
  | .i k n, v, h => by unfold rnA; exact h
  | .y k e, v, h => by unfold rnA; exact h
  | .s l, v, h => by unfold rnA; exact h
  | .nf, v, h => by unfold rnA; exact h
  | .ni, v, h => by unfold rnA; exact h
  | .se, v, h => by unfold rnA; exact h
  | .yl .., v, h => by obtain ⟨B, m, k, h1, h2⟩ := h; unfold rnA; exact ⟨B, m, k, hf _ _ h1, h2⟩
theorem rnAs_sound (hf : ∀ i B, ψ i = some B → ψ' (f i) = some B) : ∀ (as : List A) (vs : List Value), VRs ρ ψ as vs → VRs ρ ψ' (rnAs f as) vs
  | [], vs, h => by unfold rnAs; exact h
  | a :: as, vs, h => by obtain ⟨u, us, h1, h2, h3⟩ := h; unfold rnAs; exact ⟨u, us, h1, rnA_sound hf a u h2, rnAs_sound hf as us h3⟩
end
theorem rnEs_sound (hf : ∀ i B, ψ i = some B → ψ' (f i) = some B) : ∀ (as : List (A × A × Nat)) (es : List MapEntry), EsR ρ ψ as es → EsR ρ ψ' (rnEs f as) es
  | [], es, h => h
  | (a, b, c) :: as, es, ⟨e, l', h1, h2, h3, h4, h5⟩ => ⟨e, l', h1, rnA_sound hf _ _ h2, rnA_sound hf _ _ h3, h4, rnEs_sound hf as _ h5⟩
theorem isCells_get : ∀ {l : List A} {t : T A} {j : Nat}, isCells l t j = true → ∀ q a, l[q]? = some a → t.get (j + q) = some a
  | [], t, j, h, q, a, hq => by simp at hq
  | b :: l, t, j, h, q, a, hq => by
    unfold isCells at h
    split at h
    case h_2 => cases h
    rename_i c hc
    rw [Bool.and_eq_true] at h
    cases q with
    | zero =>
      simp only [List.getElem?_cons_zero, Option.some.injEq] at hq
      subst hq
      rw [sameV_eq h.1]; exact hc
    | succ q => rw [show j + (q + 1) = j + 1 + q by omega]; exact isCells_get h.2 q a (by simpa using hq)
theorem isEs_eq : ∀ {as bs : List (A × A × Nat)}, isEs as bs = true → as = bs
  | [], bs, h => by unfold isEs at h; split at h; rfl; cases h
  | (a1, a2, a3) :: as, bs, h => by
    unfold isEs at h
    split at h
    · rename_i b bs
      obtain ⟨b1, b2, b3⟩ := b
      simp only [Bool.and_eq_true] at h
      obtain ⟨h1, h2, h3, h4⟩ := h
      rw [Nat.eq_of_beq_eq_true h1, sameV_eq h2, sameV_eq h3, isEs_eq h4]
    · cases h
theorem isCO_sound (hf : ∀ i B, ψ i = some B → ψ' (f i) = some B) {co : CO} {o : AO} (h : isCO co o = true) {B : Blk} {ob : Obj} (ho : OR ρ ψ B o ob) : OR ρ ψ' B (co.rn f).ao ob := by
  cases co with
  | cells e ro l =>
    unfold isCO at h
    simp only at h
    split at h
    case h_2 => cases h
    rename_i e' ro' n t
    simp only [Bool.and_eq_true] at h
    obtain ⟨h1, h2, h3, h4⟩ := h
    obtain ⟨arr, fr, k1, k2, k3, k4, k5⟩ := ho
    rw [← Nat.eq_of_beq_eq_true h1] at k1
    have hn := Nat.le_of_eq (Nat.eq_of_beq_eq_true h3)
    have hlen : (rnAs f l).length = l.length := by rw [rnAs_map]; simp
    refine ⟨arr, fr, k1, k2, fun q => k3 ?_, by rw [hlen]; omega, fun j a hj => ?_⟩
    · subst q
      cases ro' with
      | false => rfl
      | true => cases h2
    · rcases T.get_ofList hj with ⟨_, q2⟩ | ⟨_, q2⟩
      · rw [Nat.sub_zero, rnAs_map, List.getElem?_map, Option.map_eq_some_iff] at q2
        obtain ⟨x, q3, rfl⟩ := q2
        have g1 := isCells_get h4 j x q3
        rw [Nat.zero_add] at g1
        obtain ⟨c1, ⟨v, c2, c3⟩, c4⟩ := k5 j x g1
        exact ⟨by rw [rnA_one]; exact c1, ⟨v, c2, rnA_sound hf _ _ c3⟩, by rw [hlen]; exact (List.getElem?_eq_some_iff.1 q3).1⟩
      · rw [T.get_e] at q2; cases q2
  | map es c =>
    unfold isCO at h
    simp only at h
    split at h
    case h_2 => cases h
    rename_i es' c'
    simp only [Bool.and_eq_true] at h
    obtain ⟨l, k1, k2⟩ := ho
    rw [← isEs_eq h.2] at k2
    rw [← Nat.eq_of_beq_eq_true h.1] at k1
    exact ⟨l, k1, rnEs_sound hf _ _ k2⟩
theorem isCO_shape {co : CO} {o : AO} (h : isCO co o = true) : ∀ e ro n t, (co.rn f).ao = .cells e ro n t → ∃ ro' t', o = .cells e ro' n t' := by
  intro e ro n t e1
  cases co with
  | map es c => cases e1
  | cells e' ro' l =>
    cases e1
    unfold isCO at h
    simp only at h
    split at h
    case h_2 => cases h
    rename_i e2 ro2 n2 t2
    simp only [Bool.and_eq_true] at h
    obtain ⟨h1, h2, h3, h4⟩ := h
    have hlen : (rnAs f l).length = l.length := by rw [rnAs_map]; simp
    rw [hlen, Nat.eq_of_beq_eq_true h1, Nat.eq_of_beq_eq_true h3]
    exact ⟨ro2, t2, rfl⟩
theorem putNew_get : ∀ {l : List (Nat × CO)} {t : T AO} {j : Nat} {o : AO}, (putNew f l t).get j = some o → (∃ p ∈ l, j = f p.1 ∧ o = (p.2.rn f).ao) ∨ t.get j = some o
  | [], t, j, o, h => .inr h
  | p :: l, t, j, o, h => by
    rcases putNew_get (l := l) h with ⟨q, q1, q2⟩ | q
    · exact .inl ⟨q, List.mem_cons_of_mem _ q1, q2⟩
    · rcases T.get_set q with ⟨h1, h2⟩ | ⟨_, h2⟩
      · exact .inl ⟨p, List.mem_cons_self .., h1, h2.symm⟩
      · exact .inr h2
theorem isNew_get {c0 : Nat} {h : Hp} : ∀ {l : List (Nat × CO)}, isNew c0 h l = true → ∀ p ∈ l, c0 ≤ p.1 ∧ ∃ o, h.get p.1 = some o ∧ isCO p.2 o = true
  | [], _, p, hp => by cases hp
  | q :: l, hn, p, hp => by
    unfold isNew at hn
    simp only [Bool.and_eq_true] at hn
    cases hp with
    | head =>
      refine ⟨Nat.le_of_ble_eq_true hn.1, ?_⟩
      have h2 := hn.2.1
      split at h2
      · rename_i o ho; exact ⟨o, ho, h2⟩
      · cases h2
    | tail _ hp => exact isNew_get hn.2.2 p hp
end
end Go.U
/-
  U, part 38: a call that was gone through once, taken up elsewhere.
-/
set_option linter.unusedVariables false
set_option linter.unusedSimpArgs false
set_option linter.unusedSectionVars false
namespace Go.U
open Go Go.RowKit

/-- What is said of a call that is not gone through. -/
def CallIs (C : Cx) (ρ : Nat → Int) (w0 : World) (K : Nat → Option Obj) (ψ : Psi) (w : World) (f : FuncId) (us : List Value) (a : A) (h' : Hp) : Prop :=
  (∀ w, (callFunc f us.toArray).run C.P w = .ok (.enter f us.toArray) w) ∧ Calls C.P f us.toArray w fun e w' => ∃ v ψ', e = .returned v ∧ ψ.le ψ' ∧ Mem C ρ w0 K ψ' h' w' ∧ VR ρ ψ' a v
theorem Calls.to {P : Program} {f : FuncId} {us : Array Value} {w : World} {R R' : Ending → World → Prop} (h : Calls P f us w R) (k : ∀ e w', R e w' → R' e w') : Calls P f us w R' :=
  fun cs => let ⟨e, w', fr, h1, h2⟩ := h cs; ⟨e, w', fr, k e w' h1, h2⟩
def SubOk (C : Cx) (ρ : Nat → Int) (G : Nat) (f : FuncId) (ck : Chunk) : Prop :=
  ∀ w0 K ψ h w args us a h', Mem C ρ w0 K ψ h w → VRs ρ ψ args us → natSub G ck args h = some (a, h') → CallIs C ρ w0 K ψ w f us a h'
theorem sub_sound {C C' : Cx} {ρ : Nat → Int} (hex : C'.ex = C.ex) (hP : C'.P = C.P) (hN : C'.N = C.N) {G : Nat} (hNG : C.N ≤ G) (hGC : G ≤ C.G) {ck : Chunk} (hG' : C'.G = G + ck.objs.length) (hc : G + ck.objs.length ≤ MB) (hok' : C'.Ok ρ) (nat' : ∀ w0, NatOk C' ρ w0) (hMix : C.P.follows .mixedOrders = true)
    {n : Nat} {f : FuncId} (hck : ChunkOk C' G n f ck) : SubOk C ρ G f ck := by
  intro w0 K ψ h w args us a h' m hu he
  unfold natSub at he
  split at he
  case h_2 => cases he
  rename_i R hR
  generalize hc0 : G + ck.objs.length = c0 at he hR hG' hc
  unfold mAll at hR
  split at hR
  case h_2 => cases hR
  rename_i r0 hr0
  split at hR
  case h_2 => cases hR
  rename_i r1 hr1
  obtain ⟨e0, f0⟩ := mVs_sound (ψ := ψ) (ρ := ρ) hc _ _ hr0
  obtain ⟨e1, f1⟩ := mGs_sound (ψ := ψ) (ρ := ρ) hc hr1
  obtain ⟨e2, f2⟩ := mObjs_sound (ψ := ψ) (ρ := ρ) hc hR
  have hvs : VRs ρ (cPsi G c0 ψ R) ck.args us := f0 R (e1.trans e2) us hu
  have g1 := f1 R e2
  have g2 := f2 R (Ext.refl R)
  have pG : ∀ i, i < G → cPsi G c0 ψ R i = ψ i := fun i hi => by unfold cPsi; rw [if_pos hi]
  have pO : ∀ q co, ck.objs[q]? = some co → ∃ j o, R.get (G + q) = some j ∧ h.get j = some o ∧ cPsi G c0 ψ R (G + q) = ψ j ∧ Shape co o ∧ ∀ B ob, OR ρ ψ B o ob → OR ρ (cPsi G c0 ψ R) B co.kao ob := fun q co hq => by
    obtain ⟨j, o, k1, k2, ksh, k3⟩ := g2 q co hq
    have hlt := (List.getElem?_eq_some_iff.1 hq).1
    refine ⟨j, o, k1, k2, ?_, ksh, k3⟩
    unfold cPsi
    rw [if_neg (by omega), if_pos (by omega), k1]; rfl
  have pN : ∀ i, c0 ≤ i → cPsi G c0 ψ R i = none := fun i hi => by unfold cPsi; rw [if_neg (by omega), if_neg (by omega)]
  have keyC : ∀ i o, (canon G ck).get i = some o → i < c0 := fun i o hi => by
    rcases canon_get hi with ⟨q, co, rfl, hq, _⟩ | ⟨p, hp, rfl, _⟩
    · have := (List.getElem?_eq_some_iff.1 hq).1; omega
    · have := (g1 p hp).1; omega
  have lowC : ∀ i, i < c0 → ∃ j B ob, cPsi G c0 ψ R i = some B ∧ ψ j = some B ∧ w.heap[B.b]? = some ob ∧ (i < G → j = i) ∧ (G ≤ i → R.get i = some j) := fun i hi => by
    rcases Nat.lt_or_ge i G with hg | hg
    · obtain ⟨B, o, k1, k2, k3⟩ := m.low i (by omega)
      exact ⟨i, B, o, (pG i hg).trans k1, k1, m.keep _ _ k2, fun _ => rfl, fun h => by omega⟩
    · have hq : i - G < ck.objs.length := by omega
      obtain ⟨j, o, k1, k2, k3, _, k4⟩ := pO (i - G) _ (List.getElem?_eq_getElem hq)
      rw [show G + (i - G) = i by omega] at k1 k3
      obtain ⟨B, ob, q1, q2, q3⟩ := m.obj j o k2
      exact ⟨j, B, ob, k3.trans q1, q1, q2, fun h => by omega, fun _ => k1⟩
  have mC : Mem C' ρ w (fun b => w.heap[b]?) (cPsi G c0 ψ R) (canon G ck) w := {
    ok := hok'
    os := rfl
    tape := rfl
    output := rfl
    keep := fun b o h => h
    g := by rw [hG', ← hc0]; exact Nat.le_refl _
    obj := fun i o hi => by
      rcases canon_get hi with ⟨q, co, rfl, hq, rfl⟩ | ⟨p, hp, rfl, rfl⟩
      · obtain ⟨j, o, k1, k2, k3, _, k4⟩ := pO q co hq
        obtain ⟨B, ob, q1, q2, q3⟩ := m.obj j o k2
        exact ⟨B, ob, k3.trans q1, q2, k4 B ob q3⟩
      · obtain ⟨hlt, o, k1, _, k2⟩ := g1 p hp
        obtain ⟨B, ob, q1, q2, q3⟩ := m.obj _ o k1
        exact ⟨B, ob, (pG _ hlt).trans q1, q2, k2 B ob q3⟩
    own := fun i B o hi hg _ => by have := keyC i o hg; omega
    low := fun i hi => by
      obtain ⟨j, B, ob, k1, _, k2, _⟩ := lowC i (by omega)
      exact ⟨B, ob, k1, k2, get_lt k2⟩
    sz0 := Nat.le_refl _
    glob := fun i hi => by
      rw [hN] at hi
      obtain ⟨B, k1, k2⟩ := m.glob i hi
      exact ⟨B, (pG i (by omega)).trans k1, k2⟩
    inj := fun i j B B' o o' _ hi _ hg _ _ _ => by have := keyC i o hg; omega
    fresh := fun i hi => pN i (by
      have : c0 ≤ (canon G ck).nx := by rw [← hc0]; exact Nat.le_refl _
      omega)
    lt := fun i B hi => by
      rcases Nat.lt_or_ge i c0 with hlt | hge
      · obtain ⟨j, B', ob, k1, k2, k3, _⟩ := lowC i hlt
        rw [hi] at k1; cases k1
        exact get_lt k3
      · rw [pN i hge] at hi; cases hi
    keys := fun i o hi => by
      have := keyC i o hi
      show i < G + ck.objs.length
      omega
    ext := fun i e ro n t B hi hB he => by
      rw [hex] at he
      rcases canon_get hi with ⟨q, co, rfl, hq, e1⟩ | ⟨p, hp, rfl, e1⟩
      · obtain ⟨j, o, k1, k2, k3, k4, _⟩ := pO q co hq
        obtain ⟨ro', t', rfl⟩ := k4 e ro n t e1.symm
        exact m.ext j e ro' n t' B k2 (k3.symm.trans hB) he
      · obtain ⟨hlt, o, k1, k4, _⟩ := g1 p hp
        obtain ⟨ro', t', rfl⟩ := k4 e ro n t e1.symm
        exact m.ext p.1 e ro' n t' B k1 ((pG _ hlt).symm.trans hB) he }
  unfold ChunkOk at hck
  cases hcall : callU C' n f ck.args (canon G ck) with
  | none => rw [hcall] at hck; cases hck
  | some p =>
  obtain ⟨x1, h1⟩ := p
  rw [hcall] at hck
  simp only [chunkIs, Bool.and_eq_true] at hck
  obtain ⟨s1, s2, s3, _⟩ := hck
  have hx := sameV_eq s1
  have hnx := Nat.eq_of_beq_eq_true s3
  have hnew := isNew_get s2
  rw [hc0] at hnew
  obtain ⟨r1', r2⟩ := call_run (nat' w) (by rw [hP]; exact hMix) mC hvs hcall
  rw [hP] at r1' r2
  refine ⟨r1', Calls.to r2 fun e w' => ?_⟩
  rintro ⟨v, ψ1, rfl, l1, m1, hv⟩
  cases he
  generalize hrf : rnI G c0 h.nx R = rf
  have rf1 : ∀ i, i < G → rf i = i := fun i hi => by rw [← hrf]; unfold rnI; rw [show Nat.blt i G = true by rw [Nat.blt_eq]; exact hi]; rfl
  have bF : ∀ {x y : Nat}, y ≤ x → Nat.blt x y = false := fun {x y} h => by
    cases hb : Nat.blt x y with
    | false => rfl
    | true => rw [Nat.blt_eq] at hb; omega
  have rf2 : ∀ i j, G ≤ i → i < c0 → R.get i = some j → rf i = j := fun i j h1 h2 h3 => by
    rw [← hrf]; unfold rnI
    rw [bF h1, show Nat.blt i c0 = true by rw [Nat.blt_eq]; exact h2, h3]; rfl
  have rf3 : ∀ i, c0 ≤ i → rf i = i - c0 + h.nx := fun i h1 => by
    rw [← hrf]; unfold rnI
    rw [bF (by omega : G ≤ i), bF h1]; rfl
  have hold : ∀ j B, ψ j = some B → j < h.nx := fun j B hj => by
    rcases Nat.lt_or_ge j h.nx with hlt | hge
    · exact hlt
    · rw [m.fresh j hge] at hj; cases hj
  let ψ2 : Psi := fun j => if j < h.nx then ψ j else ψ1 (j - h.nx + c0)
  have p2a : ∀ j, j < h.nx → ψ2 j = ψ j := fun j hj => if_pos hj
  have p2b : ∀ j, h.nx ≤ j → ψ2 j = ψ1 (j - h.nx + c0) := fun j hj => if_neg (by omega)
  have hle : ψ.le ψ2 := fun j B hj => by rw [p2a j (hold j B hj)]; exact hj
  have hf : ∀ i B, ψ1 i = some B → ψ2 (rf i) = some B := fun i B hi => by
    rcases Nat.lt_or_ge i c0 with hlt | hge
    · obtain ⟨j, B', ob, k1, k2, k3, k4, k5⟩ := lowC i hlt
      have := l1 _ _ k1
      rw [hi] at this; cases this
      rcases Nat.lt_or_ge i G with hg | hg
      · rw [rf1 i hg, p2a i (by have := k4 hg; subst this; exact hold _ _ k2)]
        have := k4 hg; subst this; exact k2
      · rw [rf2 i j hg hlt (k5 hg)]
        exact hle _ _ k2
    · rw [rf3 i hge, p2b _ (by omega), show i - c0 + h.nx - h.nx + c0 = i by omega]
      exact hi
  have hn1 : c0 ≤ h1.nx := by have := m1.g; rw [hG'] at this; exact this
  have keep' : ∀ b o, w.heap[b]? = some o → w'.heap[b]? = some o := fun b o hb => m1.keep b o hb
  have hnx0 : h.nx ≤ h.nx + (ck.nx - c0) := Nat.le_add_right ..
  have getN : ∀ j o, (⟨putNew rf ck.new h.o, h.nx + (ck.nx - c0)⟩ : Hp).get j = some o → (∃ i co o1, j = i - c0 + h.nx ∧ c0 ≤ i ∧ o = (co.rn rf).ao ∧ h1.get i = some o1 ∧ isCO co o1 = true) ∨ h.get j = some o := fun j o hj => by
    rcases putNew_get hj with ⟨p, hp, rfl, rfl⟩ | hj
    · obtain ⟨k1, o1, k2, k3⟩ := hnew p hp
      exact .inl ⟨p.1, p.2, o1, rf3 _ k1, k1, rfl, k2, k3⟩
    · exact .inr hj
  have psiN : ∀ i, c0 ≤ i → ψ2 (i - c0 + h.nx) = ψ1 i := fun i hi => by rw [p2b _ (by omega), show i - c0 + h.nx - h.nx + c0 = i by omega]
  refine ⟨v, ψ2, rfl, hle, ?_, ?_⟩
  · exact {
      ok := m.ok
      os := m1.os.trans m.os
      tape := m1.tape.trans m.tape
      output := m1.output.trans m.output
      keep := fun b o hb => keep' _ _ (m.keep b o hb)
      g := Nat.le_trans m.g hnx0
      obj := fun j o hj => by
        rcases getN j o hj with ⟨i, co, o1, rfl, hi, rfl, k2, k3⟩ | hj
        · obtain ⟨B, ob, q1, q2, q3⟩ := m1.obj i o1 k2
          exact ⟨B, ob, (psiN i hi).trans q1, q2, isCO_sound hf k3 q3⟩
        · obtain ⟨B, ob, q1, q2, q3⟩ := m.obj j o hj
          exact ⟨B, ob, hle _ _ q1, keep' _ _ q2, q3.mono hle⟩
      own := fun j B o hg hj hB => by
        rcases getN j o hj with ⟨i, co, o1, rfl, hi, rfl, k2, k3⟩ | hj
        · rw [psiN i hi] at hB
          have := m1.own i B o1 (by rw [hG']; exact hi) k2 hB
          cases hk : K B.b with
          | none => rfl
          | some o' => rw [m.keep _ _ hk] at this; cases this
        · rw [p2a j (m.keys j o hj)] at hB
          exact m.own j B o hg hj hB
      low := fun i hi => by
        obtain ⟨B, o, k1, k2, k3⟩ := m.low i hi
        exact ⟨B, o, hle _ _ k1, k2, k3⟩
      sz0 := Nat.le_trans m.sz0 m1.sz0
      glob := fun i hi => by
        obtain ⟨B, k1, k2⟩ := m.glob i hi
        exact ⟨B, hle _ _ k1, k2⟩
      inj := fun i j B B' o o' hne hi hj gi gj hB hB' => by
        rcases getN i o gi with ⟨i1, co1, o1, rfl, hi1, rfl, k2, k3⟩ | gi
        · rw [psiN i1 hi1] at hB
          rcases getN j o' gj with ⟨j1, co2, o2, rfl, hj1, rfl, k4, k5⟩ | gj
          · rw [psiN j1 hj1] at hB'
            exact m1.inj i1 j1 B B' o1 o2 (fun e => hne (by rw [e])) (by rw [hG']; exact hi1) (by rw [hG']; exact hj1) k2 k4 hB hB'
          · rw [p2a j (m.keys j o' gj)] at hB'
            have h1' := m1.own i1 B o1 (by rw [hG']; exact hi1) k2 hB
            have h2' := m.lt j B' hB'
            intro e
            rw [e] at h1'
            have : w.heap[B'.b]? = some w.heap[B'.b] := by simp [h2']
            rw [this] at h1'; cases h1'
        · rw [p2a i (m.keys i o gi)] at hB
          rcases getN j o' gj with ⟨j1, co2, o2, rfl, hj1, rfl, k4, k5⟩ | gj
          · rw [psiN j1 hj1] at hB'
            have h1' := m1.own j1 B' o2 (by rw [hG']; exact hj1) k4 hB'
            have h2' := m.lt i B hB
            intro e
            rw [← e] at h1'
            have : w.heap[B.b]? = some w.heap[B.b] := by simp [h2']
            rw [this] at h1'; cases h1'
          · rw [p2a j (m.keys j o' gj)] at hB'
            exact m.inj i j B B' o o' hne hi hj gi gj hB hB'
      fresh := fun j hj => by
        have hj : h.nx + (ck.nx - c0) ≤ j := hj
        rw [p2b j (by omega)]
        exact m1.fresh _ (by omega)
      lt := fun j B hj => by
        rcases Nat.lt_or_ge j h.nx with hlt | hge
        · rw [p2a j hlt] at hj
          exact Nat.lt_of_lt_of_le (m.lt j B hj) m1.sz0
        · rw [p2b j hge] at hj
          exact m1.lt _ B hj
      keys := fun j o hj => by
        show j < h.nx + (ck.nx - c0)
        rcases getN j o hj with ⟨i, co, o1, rfl, hi, rfl, k2, k3⟩ | hj
        · have := m1.keys i o1 k2; omega
        · have := m.keys j o hj; omega
      ext := fun j e ro n t B hj hB he => by
        rcases getN j _ hj with ⟨i, co, o1, rfl, hi, e1, k2, k3⟩ | hj
        · obtain ⟨ro', t', rfl⟩ := isCO_shape (f := rf) k3 e ro n t e1.symm
          rw [psiN i hi] at hB
          exact m1.ext i e ro' n t' B k2 hB (by rw [hex]; exact he)
        · rw [p2a j (m.keys j _ hj)] at hB
          exact m.ext j e ro n t B hj hB he }
  · rw [hx]
    exact rnA_sound hf _ _ hv
theorem subs_sound {C : Cx} {ρ : Nat → Int} {G : Nat} {f : FuncId} : ∀ {cks : List Chunk}, (∀ ck ∈ cks, SubOk C ρ G f ck) → ∀ w0 K ψ h w args us a h', Mem C ρ w0 K ψ h w → VRs ρ ψ args us → natSubs G cks args h = some (a, h') → CallIs C ρ w0 K ψ w f us a h'
  | [], _, w0, K, ψ, h, w, args, us, a, h', _, _, e => by cases e
  | ck :: cks, hk, w0, K, ψ, h, w, args, us, a, h', m, hu, e => by
    unfold natSubs at e
    split at e
    · rename_i p hp
      cases e
      exact hk ck (List.mem_cons_self ..) w0 K ψ h w args us a h' m hu hp
    · exact subs_sound (fun ck hck => hk ck (List.mem_cons_of_mem _ hck)) w0 K ψ h w args us a h' m hu e
end Go.U
/-
  U, part 39: functions that are not gone through: what the program has no text of.
-/
set_option linter.unusedVariables false
set_option linter.unusedSimpArgs false
set_option linter.unusedSectionVars false
namespace Go.U
open Go Go.RowKit

/-- What a function comes to, whatever lies about. -/
def FnOk (C : Cx) (ρ : Nat → Int) (f : FuncId) (g : List A → Hp → Option (A × Hp)) : Prop :=
  ∀ w0 K ψ h w args us a h', Mem C ρ w0 K ψ h w → VRs ρ ψ args us → g args h = some (a, h') →
    (∃ v w' ψ', (callFunc f us.toArray).run C.P w = .ok (.value v) w' ∧ ψ.le ψ' ∧ Mem C ρ w0 K ψ' h' w' ∧ VR ρ ψ' a v) ∨ CallIs C ρ w0 K ψ w f us a h'
theorem NatOk.of {C : Cx} {ρ : Nat → Int} (h : ∀ f g, C.nat.get f = some g → FnOk C ρ f g.f) (w0 : World) : NatOk C ρ w0 := by
  intro f g hg K ψ h' w args us a h'' m hu he
  rcases h f g hg w0 K ψ h' w args us a h'' m hu he with h1 | ⟨h1, h2⟩
  · exact .inl h1
  · exact .inr ⟨w, h1 w, h2⟩
/-- One, or else the other. -/
noncomputable def natOr (g g' : List A → Hp → Option (A × Hp)) (args : List A) (h : Hp) : Option (A × Hp) := match g args h with
  | some p => some p
  | none => g' args h
theorem FnOk.or {C : Cx} {ρ : Nat → Int} {f : FuncId} {g g' : List A → Hp → Option (A × Hp)} (h : FnOk C ρ f g) (h' : FnOk C ρ f g') : FnOk C ρ f (natOr g g') := by
  intro w0 K ψ hp w args us a hp' m hu he
  unfold natOr at he
  split at he
  · rename_i p hp; cases he; exact h w0 K ψ _ w args us _ _ m hu hp
  · exact h' w0 K ψ _ w args us a hp' m hu he
theorem FnOk.subs {C : Cx} {ρ : Nat → Int} {G : Nat} {f : FuncId} {cks : List Chunk} (h : ∀ ck ∈ cks, SubOk C ρ G f ck) : FnOk C ρ f (natSubs G cks) :=
  fun w0 K ψ hp w args us a hp' m hu he => .inr (subs_sound h w0 K ψ hp w args us a hp' m hu he)
/-- A function without a text: the entry that stands for it. -/
structure IsExt (P : Program) (f : FuncId) (e : Array Value → Sem Value) : Prop where
  is : ∃ fn, P.funcs[f]? = some fn ∧ (fn.name == "runtime.NumGoroutine") = false ∧ fn.body.isNone = true ∧ Extern.findNext fn = none ∧ Extern.find fn = some e
theorem IsExt.run {P : Program} {f : FuncId} {e : Array Value → Sem Value} (h : IsExt P f e) {us : Array Value} {w w' : World} {v : Value} (hr : (e us).run P w = .ok v w') : (callFunc f us).run P w = .ok (.value v) w' := by
  obtain ⟨fn, h1, h2, h3, h4, h5⟩ := h.is
  rw [run_callFunc_extern h1 h2 h3 h4 h5, hr]; rfl
noncomputable def idxOf (c : Nat) : List Nat → Nat → Int
  | [], _ => -1
  | b :: l, i => bif Nat.beq (b % 256) c then Int.ofNat i else idxOf c l (i + 1)
noncomputable def natIndexByte : List A → Hp → Option (A × Hp)
  | [.s l, .i .u8 (.ofNat c)], h => some (.i .i64 (idxOf (c % 256) l 0), h)
  | _, _ => none
noncomputable def natAdd : List A → Hp → Option (A × Hp)
  | [.i .u64 (.ofNat x), .i .u64 (.ofNat y), .i .u64 (.ofNat c)], h => bif Nat.ble c 1 then some (.tu [.i .u64 (Int.ofNat ((x + y + c) % 18446744073709551616)), .i .u64 (Int.ofNat ((x + y + c) / 18446744073709551616))], h) else none
  | _, _ => none
theorem VRs.two {ρ : Nat → Int} {ψ : Psi} {a b : A} {us : List Value} (h : VRs ρ ψ [a, b] us) : ∃ u v, us = [u, v] ∧ VR ρ ψ a u ∧ VR ρ ψ b v := by
  obtain ⟨u, us1, rfl, h1, h2⟩ := h
  obtain ⟨v, us2, rfl, h3, h4⟩ := h2
  cases h4
  exact ⟨u, v, rfl, h1, h3⟩
theorem VRs.three {ρ : Nat → Int} {ψ : Psi} {a b c : A} {us : List Value} (h : VRs ρ ψ [a, b, c] us) : ∃ u v x, us = [u, v, x] ∧ VR ρ ψ a u ∧ VR ρ ψ b v ∧ VR ρ ψ c x := by
  obtain ⟨u, us1, rfl, h1, h2⟩ := h
  obtain ⟨v, x, rfl, h3, h4⟩ := h2.two
  exact ⟨u, v, x, rfl, h1, h3, h4⟩
theorem byte_eq (b c : Nat) : (UInt8.ofNat b == UInt8.ofNat c) = Nat.beq (b % 256) (c % 256) := by
  rw [Bool.eq_iff_iff, Nat.beq_eq, beq_iff_eq, ← UInt8.toNat_inj]
  simp
theorem indexByte_is (c : Nat) : ∀ (l : List Nat) (i : Nat), idxOf (c % 256) l i = if Lib.indexByte (l.map UInt8.ofNat) (UInt8.ofNat c) = -1 then -1 else i + Lib.indexByte (l.map UInt8.ofNat) (UInt8.ofNat c)
  | [], i => by simp [idxOf, Lib.indexByte]
  | b :: l, i => by
    have ih := indexByte_is c l (i + 1)
    have hge := Lib.indexByte_ge (l.map UInt8.ofNat) (UInt8.ofNat c)
    unfold idxOf
    simp only [List.map_cons, Lib.indexByte, byte_eq]
    cases hb : Nat.beq (b % 256) (c % 256) with
    | true => simp
    | false =>
      simp only [cond_false]
      rw [ih]
      by_cases h1 : Lib.indexByte (l.map UInt8.ofNat) (UInt8.ofNat c) = -1
      · simp [h1]
      · have h2 : (Lib.indexByte (l.map UInt8.ofNat) (UInt8.ofNat c) == -1) = false := by simp [h1]
        rw [if_neg h1, h2]
        simp only [Bool.false_eq_true, if_false]
        rw [if_neg (by omega)]
        omega
theorem natIndexByte_ok {C : Cx} {ρ : Nat → Int} {f : FuncId} (he : IsExt C.P f Extern.BytealgIndexByte.indexByte) : FnOk C ρ f natIndexByte := by
  intro w0 K ψ h w args us a h' m hu hn
  unfold natIndexByte at hn
  split at hn
  case h_2 => cases hn
  rename_i l c
  cases hn
  obtain ⟨u, v, rfl, h1, h2⟩ := hu.two
  have e1 : u = .string (bstr l) := h1
  have e2 : v = .int .u8 (Int.ofNat c) := h2
  subst e1; subst e2
  refine .inl ⟨_, w, ψ, he.run (Lib.run_indexByteString (bstr l) (Int.ofNat c) w), Psi.le.refl ψ, m, ?_⟩
  have hi := indexByte_is c l 0
  show Value.int .i64 _ = Value.int .i64 _
  congr 1
  have e : Lib.indexByte (bstr l).data.toList (Int.ofNat c).toNat.toUInt8 = Lib.indexByte (l.map UInt8.ofNat) (UInt8.ofNat c) := rfl
  rw [e, hi]
  split
  · rename_i hx; exact hx
  · simp
theorem natAdd_ok {C : Cx} {ρ : Nat → Int} {f : FuncId} (he : IsExt C.P f add64Entry) : FnOk C ρ f natAdd := by
  intro w0 K ψ h w args us a h' m hu hn
  unfold natAdd at hn
  split at hn
  case h_2 => cases hn
  rename_i x y c
  cases hc : Nat.ble c 1 with
  | false => rw [hc] at hn; cases hn
  | true =>
    rw [hc] at hn; cases hn
    have hc1 := Nat.le_of_ble_eq_true hc
    obtain ⟨u, v, z, rfl, h1, h2, h3⟩ := hu.three
    have e1 : u = .int .u64 (Int.ofNat x) := h1
    have e2 : v = .int .u64 (Int.ofNat y) := h2
    have e3 : z = .int .u64 (Int.ofNat c) := h3
    subst e1; subst e2; subst e3
    exact .inl ⟨_, w, ψ, he.run (run_add64 (Int.ofNat x) (Int.ofNat y) (Int.ofNat c) (Int.natCast_nonneg _) (Int.natCast_nonneg _) (Int.natCast_nonneg _) (Int.ofNat_le.2 hc1) w), Psi.le.refl ψ, m, [_, _], rfl, VRs.cons rfl (VRs.cons rfl VRs.nil)⟩
end Go.U
/-
  U, part 40: iterators over maps: whichever entry comes next.
-/
set_option linter.unusedVariables false
set_option linter.unusedSimpArgs false
set_option linter.unusedSectionVars false
namespace Go.U
open Go Go.RowKit

noncomputable section
/-- A state whose next operation steps an iterator over a map: the map's entries, those that were met, what each leads to, what the end leads to. -/
structure NX where
  es : List (A × A × Nat)
  seen : List Nat
  to : A × A × Nat → AS
  over : AS
def nextOp (o : Oper) : Option Operand :=
  match o.guard with
  | none => match o.op with
    | .next it false => some it
    | _ => none
  | some _ => none
def nextAt (C : Cx) (s : AS) : Option NX :=
  match s with
  | ⟨⟨fn, nt, tm, .inRegion ops (i :: rest) :: k, df, .run, kd, rd⟩, cs, h⟩ =>
    match nth ops.toList i with
    | some o => match nextOp o with
      | some it => match opdOf C.N tm it with
        | some (.p (some (r, 0))) => match h.get r with
          | some (.mapIter m since seen last) => match h.get m with
            | some (.map es c) =>
              bif Nat.blt i MB && (Nat.ble C.G r && (Nat.ble since last && es.all fun e => Nat.blt e.2.2 since)) then
                some { es := es, seen := seen, to := fun e => ⟨⟨fn, nt, putDst nt tm (some (.tu [.b true, e.1, e.2.1])) o.dst, .inRegion ops rest :: k, df, .run, kd, rd⟩, cs, h.upd r (.mapIter m since (e.2.2 :: seen) c)⟩, over := ⟨⟨fn, nt, putDst nt tm (some (.tu [.b false])) o.dst, .inRegion ops rest :: k, df, .run, kd, rd⟩, cs, h⟩ }
              else none
            | _ => none
          | _ => none
        | _ => none
      | none => none
    | none => none
  | _ => none
end
section
variable {C : Cx} {ρ : Nat → Int} {w0 : World} {K0 K : Nat → Option Obj} {cs0 : List Frame} {ψ ψ0 : Psi}
theorem EsR.mem : ∀ {es : List (A × A × Nat)} {l : List MapEntry} {x : MapEntry}, EsR ρ ψ es l → x ∈ l → ∃ e ∈ es, e.2.2 = x.born ∧ VR ρ ψ e.1 x.key ∧ VR ρ ψ e.2.1 x.val
  | [], l, x, h, hx => by cases h; cases hx
  | (k, v, b) :: es, l, x, h, hx => by
    obtain ⟨y, l', rfl, h1, h2, h3, h4⟩ := h
    rcases List.mem_cons.1 hx with rfl | hx
    · exact ⟨_, List.mem_cons_self .., h3.symm, h1, h2⟩
    · obtain ⟨e, he, k1⟩ := EsR.mem h4 hx
      exact ⟨e, List.mem_cons_of_mem _ he, k1⟩
theorem EsR.mem' : ∀ {es : List (A × A × Nat)} {l : List MapEntry} {e : A × A × Nat}, EsR ρ ψ es l → e ∈ es → ∃ x ∈ l, e.2.2 = x.born
  | [], l, e, h, he => by cases he
  | (k, v, b) :: es, l, e, h, he => by
    obtain ⟨y, l', rfl, h1, h2, h3, h4⟩ := h
    rcases List.mem_cons.1 he with rfl | he
    · exact ⟨y, List.mem_cons_self .., h3.symm⟩
    · obtain ⟨x, hx, k1⟩ := EsR.mem' h4 he
      exact ⟨x, List.mem_cons_of_mem _ hx, k1⟩
/-- The step. -/
theorem next_sound' {s : AS} {N : NX} {m0 : Machine} (hs : StR C ρ w0 K0 cs0 ψ0 s m0) (hn : nextAt C s = some N) :
    ∃ m', Steps C.P m0 m' ∧ ((∃ e ∈ N.es, e.2.2 ∉ N.seen ∧ StR C ρ w0 K0 cs0 ψ0 (N.to e) m') ∨ ((∀ e ∈ N.es, e.2.2 ∈ N.seen) ∧ StR C ρ w0 K0 cs0 ψ0 N.over m')) := by
  unfold nextAt at hn
  split at hn
  case h_2 => cases hn
  rename_i fn nt tm ops i rest k df kd rd as h
  split at hn
  case h_2 => cases hn
  rename_i o ho
  split at hn
  case h_2 => cases hn
  rename_i it hit
  split at hn
  case h_2 => cases hn
  rename_i r hr
  split at hn
  case h_2 => cases hn
  rename_i m since seen last hri
  split at hn
  case h_2 => cases hn
  rename_i es c hm
  cases hb : (Nat.blt i MB && (Nat.ble C.G r && (Nat.ble since last && es.all fun e => Nat.blt e.2.2 since))) with
  | false => rw [hb] at hn; cases hn
  | true =>
    rw [hb] at hn; cases hn
    simp only [Bool.and_eq_true] at hb
    obtain ⟨b1, b2, b3, b4⟩ := hb
    have hiM : i < MB := by simpa [Nat.blt_eq] using b1
    have hG := Nat.le_of_ble_eq_true b2
    obtain ⟨K, ψ, w, f, cs, es', Kp, rfl, hB, hr', hS, hP, mm, h0⟩ := hs
    simp only at hB hr' hS mm
    have hop : o.guard = none ∧ o.op = .next it false := by
      unfold nextOp at hit
      split at hit
      · rename_i hg
        split at hit
        · rename_i it' hx; cases hit; exact ⟨hg, hx⟩
        · cases hit
      · cases hit
    cases hr' with
    | ret q => cases q
    | pan _ _ q => cases q
    | run _ hm' htd =>
      simp only at htd
      generalize hft : f.todo = q' at htd
      cases htd with
      | cur G' hk hi D =>
        obtain ⟨st, D⟩ := D (· = h)
        exfalso
        have hck := D.ck
        unfold chk at hck
        rw [Nat.div_eq_of_lt hiM] at hck
        split at hck <;> first | cases hck | (rename_i hx; cases hx)
      | plain hk hi ht =>
        obtain ⟨y, k', rfl, hy, hi⟩ := hi
        cases hy
        have hiS := (hk.1 i (List.mem_cons_self ..)).1
        have ho' : ops[i]? = some o := by rw [← Array.getElem?_toList, ← nth_eq]; exact ho
        have hw : Region.wanted o (yielded ops f.tmps) = true := by simp [Region.wanted, hop.1]
        have hcond : f.roundOf = none ∨ ∀ c, o.op ≠ .defer c := .inr fun c e => by rw [hop.2] at e; cases e
        have hv := opd_rel mm ht hr
        obtain ⟨B, hBr, hv⟩ := hv
        obtain ⟨B1, ob, g1, g2, g3, B2, g4, rfl⟩ := mm.obj r _ hri
        rw [hBr] at g1; cases g1
        obtain ⟨B3, ob3, k1, k2, l, rfl, k4⟩ := mm.obj m _ hm
        rw [g4] at k1; cases k1
        rw [g3] at hv
        have hold : ∀ x ∈ l.toArray.toList, x.born < since := fun x hx => by
          obtain ⟨e, he, q1, _⟩ := EsR.mem k4 (by simpa using hx)
          have := List.all_eq_true.1 b4 e he
          rw [← q1]; simpa [Nat.blt_eq] using this
        have hex : execOp f.eval o = (do pure (.value (← Instr.next (f.eval it) false o.type))) := by
          unfold execOp; rw [hop.2]
        have key : ∀ {a : A} {v : Value} {w2 : World} {h2 : Hp}, step C.P (lone f cs w) = .next (lone (f.finish v) cs w2) → Mem C ρ w0 K ψ h2 w2 → VR ρ ψ a v →
            ∃ m', Steps C.P (lone f cs w) m' ∧ StR C ρ w0 K0 cs0 ψ0 ⟨⟨fn, nt, putDst nt tm (some a) o.dst, .inRegion ops rest :: k, df, .run, kd, rd⟩, as, h2⟩ m' := by
          intro a v w2 h2 hst m2 hva
          refine ⟨lone (inReg f ops k' (putV f.tmps o.dst v) rest) cs w2, Steps.one (by rw [hst, finish_reg hft ho']; rfl), K, ψ, w2, inReg f ops k' (putV f.tmps o.dst v) rest, cs, [], Kp, rfl, ?_, .run rfl hm' ?_, hS, hP, m2, h0⟩
          · exact ⟨hB.fn, (by show (putV f.tmps o.dst v).size = nt; rw [putV_size]; exact hB.nt), hB.mb, hB.df, hB.kd, hB.rd⟩
          · exact .plain ⟨fun j hj => hk.1 j (List.mem_cons_of_mem _ hj), hk.2⟩ (ItsR.cons (x := .inRegion ops rest) rfl hi) (ht.put hva o.dst hB.nt)
        rcases run_next_at (P := C.P) w o.type B.b B2.b since last seen.reverse.toArray l.toArray c g2 k2 hold (Nat.le_of_ble_eq_true b3) with ⟨z1, z2⟩ | ⟨x, hx, w1, hw1, z2⟩
        · obtain ⟨m', s1, s2⟩ := key (a := .tu [.b false]) (v := .tuple #[.bool false]) (h2 := h) (st_val hm' hft ho' hw hcond (w' := w) (by rw [hex, hv]; simp [z2])) mm ⟨[.bool false], rfl, VRs.cons rfl VRs.nil⟩
          refine ⟨m', s1, .inr ⟨fun e he => ?_, s2⟩⟩
          obtain ⟨x, hx, q1⟩ := EsR.mem' k4 he
          have hz : (leftOf l.toArray seen.reverse.toArray) = #[] := Array.eq_empty_of_size_eq_zero z1
          unfold leftOf at hz
          rw [Array.filter_eq_empty_iff] at hz
          have := hz x (by simpa using hx)
          show e.2.2 ∈ seen
          rw [q1]
          simpa using this
        · have hxl : x ∈ l ∧ x.born ∉ seen := by
            unfold leftOf at hx
            simpa using hx
          obtain ⟨e, he, q1, q2, q3⟩ := EsR.mem k4 hxl.1
          have hw1' : w1.heap = w.heap ∧ w1.os = w.os ∧ w1.tape = w.tape ∧ w1.output = w.output := by
            rcases hw1 with rfl | rfl
            · exact ⟨rfl, rfl, rfl, rfl⟩
            · exact ⟨rfl, rfl, rfl, rfl⟩
          have hup : Upd w B.b (.mapIter (some B2.b) since (seen.reverse.toArray.push x.born) c) (ChangeMaps.setBlock w1 B.b (.mapIter (some B2.b) since (seen.reverse.toArray.push x.born) c)) := by
            have hlt := get_lt g2
            refine ⟨hw1'.2.1, hw1'.2.2.1, hw1'.2.2.2, ?_, ?_, fun b hb => ?_⟩
            · simp [ChangeMaps.setBlock, hw1'.1]
            · simp [ChangeMaps.setBlock, hw1'.1, hlt]
            · simp [ChangeMaps.setBlock, hw1'.1, Array.getElem?_setIfInBounds, Ne.symm hb]
          have m2 := mm.upd (o := .mapIter m since (e.2.2 :: seen) c) hri hG hBr hup (fun _ _ _ _ hx => by cases hx) ⟨g3, B2, g4, by simp [q1]⟩
          obtain ⟨m', s1, s2⟩ := key (a := .tu [.b true, e.1, e.2.1]) (v := .tuple #[.bool true, x.key, x.val]) (st_val hm' hft ho' hw hcond (by rw [hex, hv]; simp [z2])) m2 ⟨[.bool true, x.key, x.val], rfl, VRs.cons rfl (VRs.cons q2 (VRs.cons q3 VRs.nil))⟩
          exact ⟨m', s1, .inl ⟨e, he, by rw [q1]; exact hxl.2, s2⟩⟩
end
end Go.U
/-
  U, part 41: runs that go whichever way an iterator goes; what is no longer wanted is forgotten; functions whose value leads to no memory.
-/
set_option linter.unusedVariables false
set_option linter.unusedSimpArgs false
set_option linter.unusedSectionVars false
namespace Go.U
open Go Go.RowKit

noncomputable section
/-! do a value's blocks lie below n? -/
mutual
def below (n : Nat) : A → Bool
  | .p (some x) => Nat.blt x.1 n
  | .sl (some x) _ _ _ => Nat.blt x.1 n
  | .m (some r) => Nat.blt r n
  | .yl i _ _ _ _ => Nat.blt i n
  | .f fn a b => (match fn with | .yield l => Nat.blt l n | _ => true) && (belows n a && belows n b)
  | .ifc _ v => below n v
  | .ag l | .tu l => belows n l
  | _ => true
def belows (n : Nat) : List A → Bool
  | [] => true
  | a :: l => below n a && belows n l
end
def belowE (n : Nat) : List (A × A × Nat) → Bool
  | [] => true
  | e :: l => below n e.1 && (below n e.2.1 && belowE n l)
def belowO (n : Nat) : AO → Bool
  | .map es _ => belowE n es
  | .mapIter m _ _ _ => Nat.blt m n
  | _ => false
def keepT (t : T A) : List Nat → T A
  | [] => .e
  | i :: l => match t.get i with
    | some a => (keepT t l).set i a
    | none => keepT t l
def keepH (h : T AO) : List Nat → T AO
  | [] => .e
  | i :: l => match h.get i with
    | some a => (keepH h l).set i a
    | none => keepH h l
def belowTs (n : Nat) (t : T A) : List Nat → Bool
  | [] => true
  | i :: l => (match t.get i with | some a => below n a | none => true) && belowTs n t l
def belowHs (n : Nat) (t : T AO) : List Nat → Bool
  | [] => true
  | i :: l => Nat.blt i n && ((match t.get i with | some a => belowO n a | none => true) && belowHs n t l)
def noYield : List Item → Bool
  | [] => true
  | .inRangeFunc _ :: _ | .endRangeFunc _ :: _ => false
  | _ :: l => noYield l
/-- What is kept: the frame's places 'ts', the blocks 'is', all below n. -/
def forget (n : Nat) (ts is : List Nat) (s : AS) : AS :=
  match s with
  | ⟨⟨fn, nt, tm, todo, df, md, kd, rd⟩, cs, h⟩ => ⟨⟨fn, nt, keepT tm ts, todo, df, md, kd, rd⟩, cs, ⟨keepH h.o is, n⟩⟩
/-- May it be forgotten? (Only of what is to be done plainly.) -/
def mayForget (C : Cx) (n : Nat) (ts is : List Nat) (s : AS) : Bool :=
  match s with
  | ⟨⟨fn, nt, tm, .inRegion ops (i :: l) :: k, [], .run, kd, none⟩, [], h⟩ => Nat.ble C.G n && (Nat.ble n h.nx && (Nat.blt i MB && (noYield k && (belowTs n tm ts && belowHs n h.o is))))
  | _ => false
/-- A run that comes to what is wanted, whichever way iterators go. -/
inductive Run (C : Cx) (Q : AS → Prop) : AS → Prop
  | done {s} : Q s → Run C Q s
  | steps {s s'} (n : Nat) : runA C n s = some s' → Run C Q s' → Run C Q s
  | next {s} (N : NX) : nextAt C s = some N → (∀ e ∈ N.es, e.2.2 ∉ N.seen → Run C Q (N.to e)) → ((∀ e ∈ N.es, e.2.2 ∈ N.seen) → Run C Q N.over) → Run C Q s
  | forget {s s'} (n : Nat) (ts is : List Nat) : mayForget C n ts is s = true → Go.U.forget n ts is s = s' → Run C Q s' → Run C Q s
end
section
variable {C : Cx} {ρ : Nat → Int} {w0 : World} {K0 K K' : Nat → Option Obj} {cs0 : List Frame} {ψ ψ' ψ0 : Psi} {h h' : Hp} {w w' : World} {n : Nat}
mutual
theorem below_VR (hψ : ∀ i, i < n → ψ' i = ψ i) : ∀ (a : A) (v : Value), below n a = true → VR ρ ψ a v → VR ρ ψ' a v
  | .p (some (i, o)), v, hb, ⟨B, h1, h2⟩ => ⟨B, by rw [hψ i (by simpa [below, Nat.blt_eq] using hb)]; exact h1, h2⟩
  | .sl (some (i, o, es)) _ _ _, v, hb, ⟨B, c, h1, h2⟩ => ⟨B, c, by rw [hψ i (by simpa [below, Nat.blt_eq] using hb)]; exact h1, h2⟩
  | .m (some i), v, hb, ⟨B, h1, h2⟩ => ⟨B, by rw [hψ i (by simpa [below, Nat.blt_eq] using hb)]; exact h1, h2⟩
  | .yl i _ _ _ _, v, hb, ⟨B, m, k, h1, h2⟩ => ⟨B, m, k, by rw [hψ i (by simpa [below, Nat.blt_eq] using hb)]; exact h1, h2⟩
  | .f fn a b, v, hb, ⟨fn', us, vs, h1, h2, h3, h4⟩ => by
    simp only [below, Bool.and_eq_true] at hb
    refine ⟨fn', us, vs, ?_, h2, belows_VR hψ a us hb.2.1 h3, belows_VR hψ b vs hb.2.2 h4⟩
    cases fn <;> first | exact h1 | skip
    rename_i l
    obtain ⟨B, g1, g2⟩ := h1
    exact ⟨B, by rw [hψ l (by simpa [Nat.blt_eq] using hb.1)]; exact g1, g2⟩
  | .ifc t x, v, hb, ⟨u, h1, h2⟩ => ⟨u, h1, below_VR hψ x u (by simpa [below] using hb) h2⟩
  | .ag l, v, hb, ⟨us, h1, h2, h3⟩ => ⟨us, h1, belows_VR hψ l us (by simpa [below] using hb) h2, h3⟩
  | .tu l, v, hb, ⟨us, h1, h2⟩ => ⟨us, h1, belows_VR hψ l us (by simpa [below] using hb) h2⟩
  | .b _, _, _, h | .i _ _, _, _, h | .y _ _, _, _, h | .s _, _, _, h | .p none, _, _, h | .sl none _ _ _, _, _, h | .m none, _, _, h | .nf, _, _, h | .ni, _, _, h | .se, _, _, h => h
theorem belows_VR (hψ : ∀ i, i < n → ψ' i = ψ i) : ∀ (l : List A) (us : List Value), belows n l = true → VRs ρ ψ l us → VRs ρ ψ' l us
  | [], _, _, h => h
  | a :: l, _, hb, ⟨u, us, h1, h2, h3⟩ => by
    simp only [belows, Bool.and_eq_true] at hb
    exact ⟨u, us, h1, below_VR hψ a u hb.1 h2, belows_VR hψ l us hb.2 h3⟩
end
theorem belowE_R (hψ : ∀ i, i < n → ψ' i = ψ i) : ∀ (es : List (A × A × Nat)) (l : List MapEntry), belowE n es = true → EsR ρ ψ es l → EsR ρ ψ' es l
  | [], _, _, h => h
  | (k, v, b) :: es, _, hb, ⟨e, l', h1, h2, h3, h4, h5⟩ => by
    simp only [belowE, Bool.and_eq_true] at hb
    exact ⟨e, l', h1, below_VR hψ k _ hb.1 h2, below_VR hψ v _ hb.2.1 h3, h4, belowE_R hψ es l' hb.2.2 h5⟩
theorem belowO_R (hψ : ∀ i, i < n → ψ' i = ψ i) {B : Blk} {o : AO} {ob : Obj} (hb : belowO n o = true) (h : OR ρ ψ B o ob) : OR ρ ψ' B o ob := by
  cases o with
  | map es c => obtain ⟨l, h1, h2⟩ := h; exact ⟨l, h1, belowE_R hψ es _ hb h2⟩
  | mapIter m s sn la => obtain ⟨h1, B', h2, h3⟩ := h; exact ⟨h1, B', by rw [hψ m (by simpa [belowO, Nat.blt_eq] using hb)]; exact h2, h3⟩
  | _ => cases hb
theorem keepT_get {t : T A} : ∀ {l : List Nat} {i : Nat} {a : A}, (keepT t l).get i = some a → i ∈ l ∧ t.get i = some a
  | [], i, a, h => by rw [keepT, T.get_e] at h; cases h
  | j :: l, i, a, h => by
    unfold keepT at h
    split at h
    · rename_i b hb
      rcases T.get_set h with ⟨rfl, rfl⟩ | ⟨_, h⟩
      · exact ⟨List.mem_cons_self .., hb⟩
      · obtain ⟨h1, h2⟩ := keepT_get h
        exact ⟨List.mem_cons_of_mem _ h1, h2⟩
    · obtain ⟨h1, h2⟩ := keepT_get h
      exact ⟨List.mem_cons_of_mem _ h1, h2⟩
theorem keepH_get {t : T AO} : ∀ {l : List Nat} {i : Nat} {a : AO}, (keepH t l).get i = some a → i ∈ l ∧ t.get i = some a
  | [], i, a, h => by rw [keepH, T.get_e] at h; cases h
  | j :: l, i, a, h => by
    unfold keepH at h
    split at h
    · rename_i b hb
      rcases T.get_set h with ⟨rfl, rfl⟩ | ⟨_, h⟩
      · exact ⟨List.mem_cons_self .., hb⟩
      · obtain ⟨h1, h2⟩ := keepH_get h
        exact ⟨List.mem_cons_of_mem _ h1, h2⟩
    · obtain ⟨h1, h2⟩ := keepH_get h
      exact ⟨List.mem_cons_of_mem _ h1, h2⟩
theorem belowTs_get {t : T A} : ∀ {l : List Nat} {i : Nat} {a : A}, belowTs n t l = true → i ∈ l → t.get i = some a → below n a = true
  | j :: l, i, a, hb, hi, h => by
    simp only [belowTs, Bool.and_eq_true] at hb
    rcases List.mem_cons.1 hi with rfl | hi
    · rw [h] at hb; exact hb.1
    · exact belowTs_get hb.2 hi h
theorem belowHs_get {t : T AO} : ∀ {l : List Nat} {i : Nat} {a : AO}, belowHs n t l = true → i ∈ l → t.get i = some a → i < n ∧ belowO n a = true
  | j :: l, i, a, hb, hi, h => by
    simp only [belowHs, Bool.and_eq_true] at hb
    rcases List.mem_cons.1 hi with rfl | hi
    · rw [h] at hb; exact ⟨by simpa [Nat.blt_eq] using hb.1, hb.2.1⟩
    · exact belowHs_get hb.2.2 hi h
theorem noYield_ItsR : ∀ {k k' : List Item}, noYield k = true → ItsR ψ k k' → ItsR ψ' k k'
  | [], _, _, h => h
  | it :: k, _, hn, ⟨y, ys, h1, h2, h3⟩ => by
    cases it <;> first | (cases hn; done) | exact ⟨y, ys, h1, h2, noYield_ItsR (by simpa [noYield] using hn) h3⟩
noncomputable def cutPsi (n : Nat) (ψ : Psi) : Psi := fun i => if i < n then ψ i else none
theorem cutPsi_lt {i : Nat} (h : i < n) : cutPsi n ψ i = ψ i := if_pos h
theorem cutPsi_some {i : Nat} {B : Blk} (h : cutPsi n ψ i = some B) : i < n ∧ ψ i = some B := by
  unfold cutPsi at h
  split at h
  · exact ⟨‹_›, h⟩
  · cases h
theorem Mem.cut (m : Mem C ρ w0 K ψ h w) {is : List Nat} (hG : C.G ≤ n) (hn : n ≤ h.nx) (hNG : C.N ≤ C.G) (hb : belowHs n h.o is = true) : Mem C ρ w0 K (cutPsi n ψ) ⟨keepH h.o is, n⟩ w where
  ok := m.ok
  os := m.os
  tape := m.tape
  output := m.output
  keep := m.keep
  g := hG
  obj := fun i o hi => by
    obtain ⟨h1, h2⟩ := keepH_get hi
    obtain ⟨h3, h4⟩ := belowHs_get hb h1 h2
    obtain ⟨B, ob, q1, q2, q3⟩ := m.obj i o h2
    exact ⟨B, ob, (cutPsi_lt h3).trans q1, q2, belowO_R (fun _ hi => cutPsi_lt hi) h4 q3⟩
  own := fun i B o hi hg hB => m.own i B o hi (keepH_get hg).2 (cutPsi_some hB).2
  low := fun i hi => by
    obtain ⟨B, o, h1, h2⟩ := m.low i hi
    exact ⟨B, o, (cutPsi_lt (by omega)).trans h1, h2⟩
  sz0 := m.sz0
  glob := fun i hi => by
    obtain ⟨B, h1, h2⟩ := m.glob i hi
    exact ⟨B, (cutPsi_lt (by omega)).trans h1, h2⟩
  inj := fun i j B B' o o' hne hi hj gi gj hB hB' => m.inj i j B B' o o' hne hi hj (keepH_get gi).2 (keepH_get gj).2 (cutPsi_some hB).2 (cutPsi_some hB').2
  fresh := fun i hi => if_neg (by simp only at hi; omega)
  lt := fun i B hi => m.lt i B (cutPsi_some hi).2
  keys := fun i o hi => (belowHs_get hb (keepH_get hi).1 (keepH_get hi).2).1
  ext := fun i e ro k t B hi hB he => m.ext i e ro k t B (keepH_get hi).2 (cutPsi_some hB).2 he
theorem StR.forget (hNG : C.N ≤ C.G) (h0 : ∀ i, C.G ≤ i → ψ0 i = none) {s : AS} {m0 : Machine} {ts is : List Nat} (hf : mayForget C n ts is s = true) (hs : StR C ρ w0 K0 cs0 ψ0 s m0) : StR C ρ w0 K0 cs0 ψ0 (Go.U.forget n ts is s) m0 := by
  unfold mayForget at hf
  split at hf
  case h_2 => cases hf
  rename_i fn nt tm ops i l k kd h
  simp only [Bool.and_eq_true] at hf
  obtain ⟨b1, b2, b3, b4, b5, b6⟩ := hf
  have hG := Nat.le_of_ble_eq_true b1
  have hnx := Nat.le_of_ble_eq_true b2
  have hiM : i < MB := by simpa [Nat.blt_eq] using b3
  obtain ⟨K, ψ, w, f, cs, es, Kp, rfl, hB, hr, hS, hP, m, hle⟩ := hs
  simp only at hB hr hS m
  have hc : ∀ i, i < n → cutPsi n ψ i = ψ i := fun _ hi => cutPsi_lt hi
  have mm := m.cut hG hnx hNG b6
  have hle' : ψ0.le (cutPsi n ψ) := fun i B hi => by
    rcases Nat.lt_or_ge i n with hlt | hge
    · rw [hc i hlt]; exact hle i B hi
    · rw [h0 i (by omega)] at hi; cases hi
  cases hr with
  | ret q => cases q
  | pan _ _ q => cases q
  | run _ hm' htd =>
    simp only at htd
    generalize hft : f.todo = q' at htd
    cases htd with
    | cur G' hk hi D =>
      obtain ⟨st, D⟩ := D (· = h)
      exfalso
      have hck := D.ck
      unfold chk at hck
      rw [Nat.div_eq_of_lt hiM] at hck
      split at hck <;> first | cases hck | (rename_i hx; cases hx)
    | plain hk hi ht =>
      refine ⟨K, cutPsi n ψ, w, f, cs, [], Kp, rfl, ⟨hB.fn, hB.nt, hB.mb, hB.df, hB.kd, hB.rd⟩, .run rfl hm' ?_, hS, hP, mm, hle'⟩
      obtain ⟨y, k', rfl, hy, hi⟩ := hi
      rw [hft]
      cases hy
      refine .plain hk ⟨_, k', rfl, rfl, noYield_ItsR b4 hi⟩ fun j a hj => ?_
      obtain ⟨h1, h2⟩ := keepT_get hj
      obtain ⟨v, v1, v2⟩ := ht j a h2
      exact ⟨v, v1, below_VR hc a v (belowTs_get b5 h1 h2) v2⟩
theorem Run.sound (hN : NatOk C ρ w0) (hMix : C.P.follows .mixedOrders = true) (hNG : C.N ≤ C.G) (h0 : ∀ i, C.G ≤ i → ψ0 i = none) {Q : AS → Prop} {s : AS} (hr : Run C Q s) : ∀ {m0 : Machine}, StR C ρ w0 K0 cs0 ψ0 s m0 → ∃ s' m', Q s' ∧ Steps C.P m0 m' ∧ StR C ρ w0 K0 cs0 ψ0 s' m' := by
  induction hr with
  | done hq => exact fun hs => ⟨_, _, hq, Steps.refl _ _, hs⟩
  | steps n he _ ih =>
    intro m0 hs
    obtain ⟨m1, t1, r1⟩ := run_sound hN hMix n hs he
    obtain ⟨s', m', q, t2, r2⟩ := ih r1
    exact ⟨s', m', q, t1.trans t2, r2⟩
  | next N hn _ _ ih1 ih2 =>
    intro m0 hs
    obtain ⟨m1, t1, ⟨e, he, hne, r1⟩ | ⟨hall, r1⟩⟩ := next_sound' hs hn
    · obtain ⟨s', m', q, t2, r2⟩ := ih1 e he hne r1
      exact ⟨s', m', q, t1.trans t2, r2⟩
    · obtain ⟨s', m', q, t2, r2⟩ := ih2 hall r1
      exact ⟨s', m', q, t1.trans t2, r2⟩
  | forget n ts is hf he _ ih =>
    intro m0 hs
    subst he
    exact ih (hs.forget hNG h0 hf)
end
end Go.U
/-
  U, part 42: functions whose value leads to no memory, whichever way their iterators go.
-/
set_option linter.unusedVariables false
set_option linter.unusedSimpArgs false
set_option linter.unusedSectionVars false
namespace Go.U
open Go Go.RowKit

section
variable {C C' : Cx} {ρ : Nat → Int} {w0 : World} {K0 K K' : Nat → Option Obj} {cs0 : List Frame} {ψ ψ' ψ0 ψ1 : Psi} {h h' h1 : Hp} {w w' w1 : World} {n : Nat}
theorem run_call (hN : NatOk C ρ w0) (hMix : C.P.follows .mixedOrders = true) (hNG : C.N ≤ C.G) (h0 : ∀ i, C.G ≤ i → ψ i = none) (m : Mem C ρ w0 K ψ h w) {f : FuncId} {args : List A} {us : List Value} (hu : VRs ρ ψ args us) {fr : AF} (hfr : enterF C f args .normal = some fr) {x : A} (hr : Run C (fun s => ∃ h', endOf C f s = some (x, h')) ⟨fr, [], h⟩) :
    (∀ w, (callFunc f us.toArray).run C.P w = .ok (.enter f us.toArray) w) ∧ Calls C.P f us.toArray w fun e w' => ∃ v ψ' h', e = .returned v ∧ ψ.le ψ' ∧ Mem C ρ w0 K ψ' h' w' ∧ VR ρ ψ' x v := by
  obtain ⟨c1, _, c2⟩ := enter_sound (K := K) m.ok hfr hu
  refine ⟨c1, fun cs => ?_⟩
  obtain ⟨f0, t0, b0, r0⟩ := c2 cs w
  have h0' : StR C ρ w0 K cs ψ ⟨fr, [], h⟩ (lone f0 cs w) := ⟨K, ψ, w, f0, cs, [], fun b o => K b = some o, rfl, b0, r0, ⟨rfl, fun _ _ h => h⟩, ⟨fun _ _ h => h, fun p hp => by cases hp⟩, m, Psi.le.refl ψ⟩
  obtain ⟨s, m1, ⟨h', he⟩, t1, hst⟩ := hr.sound hN hMix hNG h0 h0'
  have hcs : s.cs = [] := by
    unfold endOf at he
    split at he
    · rfl
    · cases he
  obtain ⟨K1, ψ1, w1, f1, cs1, es, Kp, rfl, b1, r1, hS, p1, m1, l1⟩ := hst
  rw [hcs] at hS
  obtain ⟨rfl, k1⟩ := hS
  unfold endOf at he
  split at he
  case h_2 => cases he
  rename_i fn nt tm todo hq
  cases hbf : Nat.beq fn f with
  | false => rw [hbf] at he; cases he
  | true =>
    rw [hbf] at he
    have hbf := Nat.eq_of_beq_eq_true hbf
    subst hbf
    simp only [cond_true] at he
    split at he
    case h_2 => cases he
    rename_i fd hfd
    split at he
    case h_2 => cases he
    rename_i x' hx
    cases he
    simp only at b1 r1 m1
    cases r1 with
    | run q => cases q
    | pan _ _ q => cases q
    | ret _ g2 g3 _ =>
      obtain ⟨v, d1, d2⟩ := result_sound m1 g3 hx
      have mw := m.weaken l1 (fun b o hb => p1.k b o (k1 b o hb)) m1
      refine ⟨.returned v, w1, f1, ⟨v, ψ1, _, rfl, l1, mw, d2⟩, t0.trans t1, b1.fn, g2, b1.df, b1.kd, fd, ?_, d1⟩
      rw [b1.fn]
      exact m.ok.fns _ _ hfd
/-- A memory of ours that knows nothing but what lies below G. -/
theorem Mem.bare (m : Mem C ρ w0 K ψ h w) (hok : C'.Ok ρ) (hG : C'.G ≤ C.G) (hN : C'.N = C.N) (hNG : C'.N ≤ C'.G) : Mem C' ρ w (fun b => w.heap[b]?) (cutPsi C'.G ψ) ⟨.e, C'.G⟩ w where
  ok := hok
  os := rfl
  tape := rfl
  output := rfl
  keep := fun _ _ h => h
  g := Nat.le_refl _
  obj := fun i o hi => by rw [show (⟨.e, C'.G⟩ : Hp).get i = none from T.get_e i] at hi; cases hi
  own := fun i B o hi hg hB => by rw [show (⟨.e, C'.G⟩ : Hp).get i = none from T.get_e i] at hg; cases hg
  low := fun i hi => by
    obtain ⟨B, o, h1, h2, h3⟩ := m.low i (Nat.lt_of_lt_of_le hi hG)
    have := m.keep _ _ h2
    exact ⟨B, o, (cutPsi_lt hi).trans h1, this, get_lt this⟩
  sz0 := Nat.le_refl _
  glob := fun i hi => by
    obtain ⟨B, h1, h2⟩ := m.glob i (by rw [← hN]; exact hi)
    exact ⟨B, (cutPsi_lt (by omega)).trans h1, h2⟩
  inj := fun i j B B' o o' hne hi hj gi gj hB hB' => by rw [show (⟨.e, C'.G⟩ : Hp).get i = none from T.get_e i] at gi; cases gi
  fresh := fun i hi => if_neg (by simp only at hi; omega)
  lt := fun i B hi => m.lt i B (cutPsi_some hi).2
  keys := fun i o hi => by rw [show (⟨.e, C'.G⟩ : Hp).get i = none from T.get_e i] at hi; cases hi
  ext := fun i e ro k t B hi hB he => by rw [show (⟨.e, C'.G⟩ : Hp).get i = none from T.get_e i] at hi; cases hi
/-- Behind a call that kept all that there was. -/
theorem Mem.back (m : Mem C ρ w0 K ψ h w) (m1 : Mem C' ρ w (fun b => w.heap[b]?) ψ1 h1 w1) : Mem C ρ w0 K ψ h w1 where
  ok := m.ok
  os := m1.os.trans m.os
  tape := m1.tape.trans m.tape
  output := m1.output.trans m.output
  keep := fun b o hb => m1.keep b o (m.keep b o hb)
  g := m.g
  obj := fun i o hi => by
    obtain ⟨B, ob, q1, q2, q3⟩ := m.obj i o hi
    exact ⟨B, ob, q1, m1.keep _ _ q2, q3⟩
  own := m.own
  low := m.low
  sz0 := Nat.le_trans m.sz0 m1.sz0
  glob := m.glob
  inj := m.inj
  fresh := m.fresh
  lt := fun i B hi => Nat.lt_of_lt_of_le (m.lt i B hi) m1.sz0
  keys := m.keys
  ext := m.ext
theorem FnOk.flat (hok : C'.Ok ρ) (hP : C'.P = C.P) (hG : C'.G ≤ C.G) (hN : C'.N = C.N) (hNG : C'.N ≤ C'.G) (hN' : ∀ w0, NatOk C' ρ w0) (hMix : C.P.follows .mixedOrders = true) {f : FuncId} {g : List A → Hp → Option (A × Hp)}
    (hg : ∀ args h a h', g args h = some (a, h') → h' = h ∧ below 0 a = true ∧ belows 0 args = true ∧ ∃ fr, enterF C' f args .normal = some fr ∧ Run C' (fun s => ∃ h', endOf C' f s = some (a, h')) ⟨fr, [], ⟨.e, C'.G⟩⟩) : FnOk C ρ f g := by
  intro w0 K ψ h w args us a h' m hu he
  obtain ⟨rfl, h1, h2, fr, h3, h4⟩ := hg args h a h' he
  have mb := m.bare hok hG hN hNG
  have hu' : VRs ρ (cutPsi C'.G ψ) args us := belows_VR (n := 0) (fun i hi => absurd hi (Nat.not_lt_zero i)) args us h2 hu
  obtain ⟨c1, c2⟩ := run_call (hN' w) (by rw [hP]; exact hMix) hNG (fun i hi => if_neg (by omega)) mb hu' h3 h4
  rw [hP] at c1 c2
  refine .inr ⟨c1, Calls.to c2 fun e w' ⟨v, ψ', h', k1, k2, k3, k4⟩ => ⟨v, ψ, k1, Psi.le.refl ψ, m.back k3, below_VR (n := 0) (fun i hi => absurd hi (Nat.not_lt_zero i)) a v h1 k4⟩⟩
/-! a loop over a map -/
theorem countP_lt {α : Type} (p q : α → Bool) : ∀ (l : List α), (∀ a ∈ l, q a = true → p a = true) → (∃ a ∈ l, p a = true ∧ q a = false) → l.countP q < l.countP p
  | [], _, ⟨a, ha, _⟩ => by cases ha
  | x :: l, h, ⟨a, ha, hp, hq⟩ => by
    have hle : l.countP q ≤ l.countP p := List.countP_mono_left fun b hb => h b (List.mem_cons_of_mem _ hb)
    rw [List.countP_cons, List.countP_cons]
    rcases List.mem_cons.1 ha with rfl | ha
    · simp [hp, hq]; omega
    · have := countP_lt p q l (fun b hb => h b (List.mem_cons_of_mem _ hb)) ⟨a, ha, hp, hq⟩
      have h1 := h x (List.mem_cons_self ..)
      cases hqx : q x <;> cases hpx : p x <;> simp_all <;> omega
theorem loop_run {Q : AS → Prop} (S : List Nat → AS) (es : List (A × A × Nat)) (stop : A × A × Nat → Bool)
    (hd : ∀ e ∈ es, ∀ e' ∈ es, stop e = true → stop e' = false → e.2.2 ≠ e'.2.2)
    (hn : ∀ olds, ∃ N, nextAt C (S olds) = some N ∧ N.es = es ∧ N.seen = olds ∧ (∀ e ∈ es, stop e = false → Run C Q (S (e.2.2 :: olds)) → Run C Q (N.to e)) ∧ (∀ e ∈ es, stop e = true → Run C Q (N.to e)) ∧ ((∀ e ∈ es, stop e = false) → Run C Q N.over)) :
    ∀ (m : Nat) (olds : List Nat), es.countP (fun e => !olds.contains e.2.2) ≤ m → (∀ e ∈ es, stop e = true → e.2.2 ∉ olds) → Run C Q (S olds) := by
  intro m
  induction m with
  | zero =>
    intro olds hc ho
    obtain ⟨N, h1, h2, h3, h4, h5, h6⟩ := hn olds
    have hall : ∀ e ∈ es, e.2.2 ∈ olds := fun e he => by
      have := List.countP_eq_zero.1 (Nat.le_zero.1 hc) e he
      simpa using this
    refine .next N h1 (fun e he hne => absurd (by rw [h3]; exact hall e (by rw [← h2]; exact he)) hne) fun _ => h6 fun e he => ?_
    cases hs : stop e with
    | false => rfl
    | true => exact absurd (hall e he) (ho e he hs)
  | succ m ih =>
    intro olds hc ho
    obtain ⟨N, h1, h2, h3, h4, h5, h6⟩ := hn olds
    refine .next N h1 (fun e he hne => ?_) fun hall => h6 fun e he => ?_
    · rw [h2] at he
      rw [h3] at hne
      cases hs : stop e with
      | true => exact h5 e he hs
      | false =>
        refine h4 e he hs (ih _ ?_ fun e' he' hs' => ?_)
        · have := countP_lt (fun e => !olds.contains e.2.2) (fun x => !(e.2.2 :: olds).contains x.2.2) es (fun a _ ha => by simp at ha ⊢; exact ha.2) ⟨e, he, by simpa using hne, by simp⟩
          omega
        · have := hd e' he' e he hs' hs
          simp only [List.mem_cons, not_or]
          exact ⟨this, ho e' he' hs'⟩
    · cases hs : stop e with
      | false => rfl
      | true => exact absurd (by rw [← h3]; exact hall e (by rw [h2]; exact he)) (ho e he hs)
end
end Go.U
/-
  U, part 43: states of which less is known, in contexts that know other things of the numbers; loops, round by round.
-/
set_option linter.unusedVariables false
set_option linter.unusedSimpArgs false
set_option linter.unusedSectionVars false
namespace Go.U
open Go Go.RowKit

noncomputable section
/-- Does it go on plainly? -/
def plainHead : List Item → Bool
  | .inRegion _ (i :: _) :: _ => Nat.blt i MB
  | .inRegion _ [] :: _ => false
  | _ => true
/-- One frame, that goes on plainly. -/
def lone1 : AS → Bool
  | ⟨⟨_, _, _, todo, _, .run, _, _⟩, [], _⟩ => plainHead todo
  | _ => false
/-- Is a value, or what is told of it, the other one? -/
def lessA (ps : List (A × A)) (a b : A) : Bool := sameV a b || ps.any fun p => sameV p.1 a && sameV p.2 b
def lessT (ps : List (A × A)) (tm : T A) : List (Nat × A) → Bool
  | [] => true
  | q :: l => (match tm.get q.1 with | some a => lessA ps a q.2 | none => false) && lessT ps tm l
def tmOf : List (Nat × A) → T A
  | [] => .e
  | q :: l => (tmOf l).set q.1 q.2
/-- Without what lies in the frame's places. -/
def er : AS → AS
  | ⟨⟨fn, nt, _, todo, df, md, kd, rd⟩, cs, h⟩ => ⟨⟨fn, nt, .e, todo, df, md, kd, rd⟩, cs, h⟩
def withT (q : List (Nat × A)) : AS → AS
  | ⟨⟨fn, nt, _, todo, df, md, kd, rd⟩, cs, h⟩ => ⟨⟨fn, nt, tmOf q, todo, df, md, kd, rd⟩, cs, h⟩
/-- A block of integers that is kept. -/
structure YB where
  i : Nat
  e : TypeId
  k : IntKind
  j : Nat
def putYs : List YB → T AO → T AO
  | [], t => t
  | y :: l, t => putYs l (t.set y.i (.yb y.e true 0 .e y.k y.j))
def isYs (h : Hp) : List YB → Bool
  | [] => true
  | y :: l => (match h.get y.i with
    | some (.yb e _ n _ k j) => Nat.beq y.e e && (Nat.beq n 0 && (decide (y.k = k) && Nat.beq y.j j))
    | _ => false) && isYs h l
/-- Of a state what is told of its places, of its blocks. -/
def cutS (q : List (Nat × A)) (gs : List (Nat × CO)) (ys : List YB) : AS → AS
  | ⟨⟨fn, nt, _, todo, df, md, kd, rd⟩, cs, h⟩ => ⟨⟨fn, nt, tmOf q, todo, df, md, kd, rd⟩, cs, ⟨putNew id gs (putYs ys .e), h.nx⟩⟩
def mayCut (ps : List (A × A)) (q : List (Nat × A)) (gs : List (Nat × CO)) (ys : List YB) (s : AS) : Bool := lone1 s && (lessT ps s.fr.tm q && (isNew 0 s.h gs && isYs s.h ys))
end
/-- Contexts alike but for what they know of the numbers, and of functions. -/
structure Alike (C C' : Cx) : Prop where
  P : C'.P = C.P
  G : C'.G = C.G
  N : C'.N = C.N
  ex : C'.ex = C.ex
theorem Alike.refl (C : Cx) : Alike C C := ⟨rfl, rfl, rfl, rfl⟩
theorem Alike.symm {C C' : Cx} (h : Alike C C') : Alike C' C := ⟨h.P.symm, h.G.symm, h.N.symm, h.ex.symm⟩
theorem Alike.trans {C C' C'' : Cx} (h : Alike C C') (k : Alike C' C'') : Alike C C'' := ⟨k.P.trans h.P, k.G.trans h.G, k.N.trans h.N, k.ex.trans h.ex⟩
section
variable {C C' : Cx} {ρ : Nat → Int} {w0 : World} {K0 K K' : Nat → Option Obj} {cs0 : List Frame} {ψ ψ' ψ0 : Psi} {h h' : Hp} {w w' : World}
theorem Mem.relax (al : Alike C C') (ok : C'.Ok ρ) (hh : ∀ i o', h'.get i = some o' → ∃ o, h.get i = some o ∧ (∀ B ob, OR ρ ψ B o ob → OR ρ ψ B o' ob) ∧ ∀ e ro n t, o' = .cells e ro n t → ∃ ro' t', o = .cells e ro' n t') (hnx : h'.nx = h.nx) (m : Mem C ρ w0 K ψ h w) : Mem C' ρ w0 K ψ h' w where
  ok := ok
  os := m.os
  tape := m.tape
  output := m.output
  keep := m.keep
  g := by rw [al.G, hnx]; exact m.g
  obj := fun i o' hi => by
    obtain ⟨o, h1, h2, _⟩ := hh i o' hi
    obtain ⟨B, ob, q1, q2, q3⟩ := m.obj i o h1
    exact ⟨B, ob, q1, q2, h2 B ob q3⟩
  own := fun i B o' hg hi hB => by
    obtain ⟨o, h1, _⟩ := hh i o' hi
    rw [al.G] at hg
    exact m.own i B o hg h1 hB
  low := fun i hi => by rw [al.G] at hi; exact m.low i hi
  sz0 := m.sz0
  glob := fun i hi => by rw [al.N] at hi; exact m.glob i hi
  inj := fun i j B B' o o' hne hi hj gi gj bi bj => by
    rw [al.G] at hi hj
    obtain ⟨o1, h1, _⟩ := hh i o gi
    obtain ⟨o2, h2, _⟩ := hh j o' gj
    exact m.inj i j B B' o1 o2 hne hi hj h1 h2 bi bj
  fresh := fun i hi => by rw [hnx] at hi; exact m.fresh i hi
  lt := m.lt
  keys := fun i o' hi => by
    obtain ⟨o, h1, _⟩ := hh i o' hi
    rw [hnx]; exact m.keys i o h1
  ext := fun i e ro n t B hi hB he => by
    obtain ⟨o, h1, _, h3⟩ := hh i _ hi
    obtain ⟨ro', t', rfl⟩ := h3 e ro n t rfl
    exact m.ext i e ro' n t' B h1 hB (he.trans al.ex)
/-- One block more that is kept. -/
theorem Mem.more {W : World} (m : Mem C ρ W (fun b => W.heap[b]?) ψ h W) (hN : C'.N = C.N) (hex : C'.ex = C.ex) (ok : C'.Ok ρ) (hG : C'.G = C.G + 1) (hx : h.nx = C.G) {B : Blk} {o : AO} {ob : Obj} (hb : W.heap[B.b]? = some ob) (ho : OR ρ (ψ.with h.nx B) B o ob) (hxx : ∀ e ro n t, o ≠ .cells e ro n t) :
    Mem C' ρ W (fun b => W.heap[b]?) (ψ.with h.nx B) (h.new o) W := by
  have hle : ψ.le (ψ.with h.nx B) := Psi.with_le (m.fresh _ (Nat.le_refl _))
  have hwith : ∀ i D, ψ.with h.nx B i = some D → (i = h.nx ∧ D = B) ∨ (i ≠ h.nx ∧ ψ i = some D) := fun i D hi => by
    unfold Psi.with at hi
    by_cases hx : i = h.nx
    · rw [if_pos hx] at hi; exact .inl ⟨hx, (Option.some.inj hi).symm⟩
    · rw [if_neg hx] at hi; exact .inr ⟨hx, hi⟩
  have hlt : ∀ i o', (h.new o).get i = some o' → i < C'.G := fun i o' hi => by
    rcases Hp.get_new hi with ⟨rfl, _⟩ | ⟨_, hi⟩
    · omega
    · have := m.keys i o' hi; omega
  exact {
    ok := ok
    os := rfl
    tape := rfl
    output := rfl
    keep := fun _ _ h => h
    g := by rw [Hp.nx_new]; omega
    obj := fun i o' hi => by
      rcases Hp.get_new hi with ⟨rfl, rfl⟩ | ⟨hne, hi⟩
      · exact ⟨B, ob, Psi.with_at _ _ _, hb, ho⟩
      · obtain ⟨D, ob', h1, h2, h3⟩ := m.obj i o' hi
        exact ⟨D, ob', hle _ _ h1, h2, h3.mono hle⟩
    own := fun i D o' hg hi _ => by have := hlt i o' hi; omega
    low := fun i hi => by
      by_cases he : i = h.nx
      · subst he; exact ⟨B, ob, Psi.with_at _ _ _, hb, get_lt hb⟩
      · obtain ⟨D, o', h1, h2⟩ := m.low i (by omega)
        exact ⟨D, o', hle _ _ h1, h2⟩
    sz0 := Nat.le_refl _
    glob := fun i hi => by
      rw [hN] at hi
      obtain ⟨D, h1, h2⟩ := m.glob i hi
      exact ⟨D, hle _ _ h1, h2⟩
    inj := fun i j D D' o1 o2 _ hi _ g1 _ _ _ => by have := hlt i o1 g1; omega
    fresh := fun i hi => by
      rw [Hp.nx_new] at hi
      unfold Psi.with
      rw [if_neg (by omega)]
      exact m.fresh i (by omega)
    lt := fun i D hi => by
      rcases hwith i D hi with ⟨_, rfl⟩ | ⟨_, hi⟩
      · exact get_lt hb
      · exact m.lt i D hi
    keys := fun i o' hi => by
      rw [Hp.nx_new]
      rcases Hp.get_new hi with ⟨rfl, _⟩ | ⟨_, hi⟩
      · omega
      · have := m.keys i o' hi; omega
    ext := fun i e ro n t D hi hD he => by
      rcases Hp.get_new hi with ⟨rfl, e2⟩ | ⟨hne, hi⟩
      · exact absurd e2 (hxx e ro n t)
      · rcases hwith i D hD with ⟨h1, _⟩ | ⟨_, hD⟩
        · exact absurd h1 hne
        · exact m.ext i e ro n t D hi hD (he.trans hex) }
theorem StR.relax (al : Alike C C') (ok : C'.Ok ρ) {fn : FuncId} {nt : Nat} {tm tm' : T A} {todo : List Item} {df : List AD} {kd : CallKind} {rd : Option Nat} (hp : plainHead todo = true)
    (ht : ∀ j a, tm'.get j = some a → ∃ a0, tm.get j = some a0 ∧ ∀ ψ v, VR ρ ψ a0 v → VR ρ ψ a v)
    (hh : ∀ i o', h'.get i = some o' → ∃ o, h.get i = some o ∧ (∀ ψ B ob, OR ρ ψ B o ob → OR ρ ψ B o' ob) ∧ ∀ e ro n t, o' = .cells e ro n t → ∃ ro' t', o = .cells e ro' n t') (hnx : h'.nx = h.nx) {m0 : Machine}
    (hs : StR C ρ w0 K0 cs0 ψ0 ⟨⟨fn, nt, tm, todo, df, .run, kd, rd⟩, [], h⟩ m0) : StR C' ρ w0 K0 cs0 ψ0 ⟨⟨fn, nt, tm', todo, df, .run, kd, rd⟩, [], h'⟩ m0 := by
  obtain ⟨K, ψ, w, f, cs, es, Kp, rfl, hB, hr, hS, hP, m, hle⟩ := hs
  simp only at hB hr hS m
  have mm : Mem C' ρ w0 K ψ h' w := m.relax al ok (fun i o' hi => by
    obtain ⟨o, h1, h2, h3⟩ := hh i o' hi
    exact ⟨o, h1, h2 ψ, h3⟩) hnx
  cases hr with
  | ret q => cases q
  | pan _ _ q => cases q
  | run _ hm' htd =>
    simp only at htd
    generalize hft : f.todo = q' at htd
    cases htd with
    | @cur ops all H F L R k k' tmps' es G' hk hi D =>
      obtain ⟨st, D⟩ := D (· = h)
      exfalso
      cases L with
      | nil => cases hp
      | cons i L =>
        have hiM : i < MB := by simpa [plainHead, Nat.blt_eq] using hp
        have hck := D.ck
        unfold chk at hck
        rw [Nat.div_eq_of_lt hiM] at hck
        split at hck <;> first | cases hck | (rename_i hx; cases hx)
    | plain hk hi ht0 =>
      refine ⟨K, ψ, w, f, cs, [], Kp, rfl, ⟨hB.fn, hB.nt, hB.mb, hB.df, hB.kd, hB.rd⟩, .run rfl hm' ?_, hS, hP, mm, hle⟩
      rw [hft]
      refine .plain hk hi fun j a hj => ?_
      obtain ⟨a0, h1, h2⟩ := ht j a hj
      obtain ⟨v, v1, v2⟩ := ht0 j a0 h1
      exact ⟨v, v1, h2 ψ v v2⟩
theorem lone1_is {s : AS} (hl : lone1 s = true) : ∃ fn nt tm todo df kd rd h, s = ⟨⟨fn, nt, tm, todo, df, .run, kd, rd⟩, [], h⟩ ∧ plainHead todo = true := by
  unfold lone1 at hl
  split at hl
  · exact ⟨_, _, _, _, _, _, _, _, rfl, hl⟩
  · cases hl
/-- In another context. -/
theorem StR.ctx (al : Alike C C') (ok : C'.Ok ρ) {s : AS} (hl : lone1 s = true) {m0 : Machine} (hs : StR C ρ w0 K0 cs0 ψ0 s m0) : StR C' ρ w0 K0 cs0 ψ0 s m0 := by
  obtain ⟨fn, nt, tm, todo, df, kd, rd, h, rfl, hp⟩ := lone1_is hl
  exact StR.relax al ok hp (fun j a hj => ⟨a, hj, fun _ _ hv => hv⟩) (fun i o hi => ⟨o, hi, fun _ _ _ hv => hv, fun e ro n t he => ⟨ro, t, he⟩⟩) rfl hs
theorem lessT_get {ps : List (A × A)} {tm : T A} : ∀ {q : List (Nat × A)}, lessT ps tm q = true → ∀ j a, (tmOf q).get j = some a → ∃ a0, tm.get j = some a0 ∧ (a0 = a ∨ ∃ p ∈ ps, p.1 = a0 ∧ p.2 = a)
  | [], _, j, a, h => by rw [show tmOf [] = T.e from rfl, T.get_e] at h; cases h
  | q :: l, hl, j, a, h => by
    simp only [lessT, Bool.and_eq_true] at hl
    rcases T.get_set h with ⟨rfl, rfl⟩ | ⟨_, h⟩
    · have h1 := hl.1
      split at h1
      · rename_i a0 ha
        refine ⟨a0, ha, ?_⟩
        simp only [lessA, Bool.or_eq_true, List.any_eq_true, Bool.and_eq_true] at h1
        rcases h1 with h1 | ⟨p, hp, h2, h3⟩
        · exact .inl (sameV_eq h1)
        · exact .inr ⟨p, hp, sameV_eq h2, sameV_eq h3⟩
      · cases h1
    · exact lessT_get hl.2 j a h
theorem StR.less (al : Alike C C') (ok : C'.Ok ρ) {ps : List (A × A)} (hps : ∀ p ∈ ps, ∀ ψ v, VR ρ ψ p.1 v → VR ρ ψ p.2 v) {q : List (Nat × A)} {s : AS} (hl : lone1 s = true) (hq : lessT ps s.fr.tm q = true) {m0 : Machine} (hs : StR C ρ w0 K0 cs0 ψ0 s m0) : StR C' ρ w0 K0 cs0 ψ0 (withT q s) m0 := by
  obtain ⟨fn, nt, tm, todo, df, kd, rd, h, rfl, hp⟩ := lone1_is hl
  refine StR.relax al ok hp (fun j a hj => ?_) (fun i o hi => ⟨o, hi, fun _ _ _ hv => hv, fun e ro n t he => ⟨ro, t, he⟩⟩) rfl hs
  obtain ⟨a0, h1, h2⟩ := lessT_get hq j a hj
  refine ⟨a0, h1, fun ψ v hv => ?_⟩
  rcases h2 with rfl | ⟨p, hp, rfl, rfl⟩
  · exact hv
  · exact hps p hp ψ v hv
theorem putYs_get : ∀ {l : List YB} {t : T AO} {j : Nat} {o : AO}, (putYs l t).get j = some o → (∃ y ∈ l, j = y.i ∧ o = .yb y.e true 0 .e y.k y.j) ∨ t.get j = some o
  | [], t, j, o, h => .inr h
  | y :: l, t, j, o, h => by
    rcases putYs_get (l := l) h with ⟨q, q1, q2⟩ | q
    · exact .inl ⟨q, List.mem_cons_of_mem _ q1, q2⟩
    · rcases T.get_set q with ⟨h1, h2⟩ | ⟨_, h2⟩
      · exact .inl ⟨y, List.mem_cons_self .., h1, h2.symm⟩
      · exact .inr h2
theorem isYs_get {h : Hp} : ∀ {l : List YB}, isYs h l = true → ∀ y ∈ l, ∃ ro t, h.get y.i = some (.yb y.e ro 0 t y.k y.j)
  | [], _, y, hy => by cases hy
  | z :: l, hn, y, hy => by
    simp only [isYs, Bool.and_eq_true] at hn
    rcases List.mem_cons.1 hy with rfl | hy
    · have h1 := hn.1
      split at h1
      · rename_i e ro n t k j hg
        simp only [Bool.and_eq_true, decide_eq_true_eq] at h1
        obtain ⟨e1, e2, e3, e4⟩ := h1
        rw [Nat.eq_of_beq_eq_true e1, e3, Nat.eq_of_beq_eq_true e4]
        rw [Nat.eq_of_beq_eq_true e2] at hg
        exact ⟨ro, t, hg⟩
      · cases h1
    · exact isYs_get hn.2 y hy
theorem StR.cut (al : Alike C C') (ok : C'.Ok ρ) {ps : List (A × A)} (hps : ∀ p ∈ ps, ∀ ψ v, VR ρ ψ p.1 v → VR ρ ψ p.2 v) {q : List (Nat × A)} {gs : List (Nat × CO)} {ys : List YB} {s : AS} (hc : mayCut ps q gs ys s = true) {m0 : Machine} (hs : StR C ρ w0 K0 cs0 ψ0 s m0) : StR C' ρ w0 K0 cs0 ψ0 (cutS q gs ys s) m0 := by
  simp only [mayCut, Bool.and_eq_true] at hc
  obtain ⟨hl, hq, hn, hy⟩ := hc
  obtain ⟨fn, nt, tm, todo, df, kd, rd, h, rfl, hp⟩ := lone1_is hl
  show StR C' ρ w0 K0 cs0 ψ0 ⟨⟨fn, nt, tmOf q, todo, df, .run, kd, rd⟩, [], ⟨putNew id gs (putYs ys .e), h.nx⟩⟩ m0
  refine StR.relax (h := h) (h' := ⟨putNew id gs (putYs ys .e), h.nx⟩) al ok hp (fun j a hj => ?_) (fun i o hi => ?_) rfl hs
  · obtain ⟨a0, h1, h2⟩ := lessT_get hq j a hj
    refine ⟨a0, h1, fun ψ v hv => ?_⟩
    rcases h2 with rfl | ⟨p, hp, rfl, rfl⟩
    · exact hv
    · exact hps p hp ψ v hv
  · rcases putNew_get hi with ⟨p, hp, h1, rfl⟩ | hi
    · obtain ⟨_, o, h2, h3⟩ := isNew_get hn p hp
      subst h1
      exact ⟨o, h2, fun ψ B ob ho => isCO_sound (f := id) (fun _ _ hB => hB) h3 ho, isCO_shape h3⟩
    · rcases putYs_get hi with ⟨y, hy1, h1, rfl⟩ | hi
      · obtain ⟨ro, t, h2⟩ := isYs_get hy y hy1
        subst h1
        refine ⟨_, h2, fun ψ B ob ho => ?_, fun e ro n t he => by cases he⟩
        obtain ⟨arr, e, fr, m, k1, k2, k3, k4, k5, k6, k7⟩ := ho
        exact ⟨arr, e, fr, m, k1, k2, fun hx => (by cases hx), k4, k5, fun j a hj => (by rw [T.get_e] at hj; cases hj), k7⟩
      · rw [T.get_e] at hi; cases hi
end

/-! loops -/
noncomputable section
/-- A loop in a function: of each round the contexts, how many steps they take, what is told of the frame's places. -/
structure Lp where
  f : FuncId
  r : Nat → Bool → Cx
  c : Nat → Cx
  e : Nat → Cx
  nT : Nat → Nat
  nF : Nat → Nat
  n1 : Nat → Nat
  nE : Nat → Nat
  ps : Nat → Bool → List (A × A)
  tj : Nat → List (Nat × A)
def endsT (C : Cx) (f : FuncId) (n : Nat) (s : AS) : Bool :=
  match runA C n s with
  | some z => (match endOf C f z with | some (.b true, _) => true | _ => false)
  | none => false
/-- Rounds, from the i-th one on; each may be the end. A round goes one of two ways, that meet again. -/
def chain (L : Lp) : Nat → Nat → AS → Option (List AS × List AS × AS)
  | 0, i, s => bif lone1 s && endsT (L.e i) L.f (L.nE i) s then some ([], [], s) else none
  | n + 1, i, s => bif lone1 s && endsT (L.e i) L.f (L.nE i) s then
      match runA (L.r i true) (L.nT i) s, runA (L.r i false) (L.nF i) s with
      | some a, some b => bif lone1 a && (lone1 b && (lessT (L.ps i true) a.fr.tm (L.tj i) && lessT (L.ps i false) b.fr.tm (L.tj i))) then
          match runA (L.c i) (L.n1 i) (withT (L.tj i) a) with
          | some s' => match chain L n (i + 1) s' with
            | some (x, y, z) => some (er a :: x, er b :: y, z)
            | none => none
          | none => none
        else none
      | _, _ => none
    else none
/-- What the kernel finds out of a chain: both ways meet; what is gone on with. -/
def chL (q : List (Nat × A)) (gs : List (Nat × CO)) (ys : List YB) : Option (List AS × List AS × AS) → Bool × List AS × AS
  | some (x, _, z) => (true, x, cutS q gs ys z)
  | none => (true, [], default)
def chR (q : List (Nat × A)) (gs : List (Nat × CO)) (ys : List YB) (t : AS) : Option (List AS × List AS × AS) → Bool × List AS × AS
  | some (_, y, z) => (mayCut [] q gs ys z, y, t)
  | none => (false, [], t)
end
section
variable {ρ : Nat → Int} {w0 : World} {K0 : Nat → Option Obj} {cs0 : List Frame} {ψ0 : Psi}
theorem endsT_is {C : Cx} {f : FuncId} {n : Nat} {s : AS} (h : endsT C f n s = true) : ∃ z h', runA C n s = some z ∧ endOf C f z = some (.b true, h') := by
  unfold endsT at h
  split at h
  · rename_i z hz
    split at h
    · rename_i h' he; exact ⟨z, h', hz, he⟩
    · cases h
  · cases h
theorem withT_er {q : List (Nat × A)} {a b : AS} (h : er a = er b) : withT q a = withT q b := by
  have key : ∀ s, withT q s = withT q (er s) := fun s => rfl
  rw [key a, key b, h]
/-- What the numbers say of a loop: so many rounds; which way each goes. -/
structure LpOk (L : Lp) (C0 : Cx) (ρ : Nat → Int) (w0 : World) (k : Nat) (way : Nat → Bool) : Prop where
  mix : C0.P.follows .mixedOrders = true
  r : ∀ i, i < k → Alike C0 (L.r i (way i)) ∧ (L.r i (way i)).Ok ρ ∧ NatOk (L.r i (way i)) ρ w0
  c : ∀ i, i < k → Alike C0 (L.c i) ∧ (L.c i).Ok ρ ∧ NatOk (L.c i) ρ w0
  e : Alike C0 (L.e k) ∧ (L.e k).Ok ρ ∧ NatOk (L.e k) ρ w0
  ps : ∀ i, i < k → ∀ p ∈ L.ps i (way i), ∀ ψ v, VR ρ ψ p.1 v → VR ρ ψ p.2 v
/-- The machine comes to the function's end, and true. -/
def EndsAt (C0 : Cx) (f : FuncId) (ρ : Nat → Int) (w0 : World) (K0 : Nat → Option Obj) (cs0 : List Frame) (ψ0 : Psi) (m0 : Machine) : Prop :=
  ∃ C' s' h' m', Alike C0 C' ∧ endOf C' f s' = some (.b true, h') ∧ Steps C0.P m0 m' ∧ StR C' ρ w0 K0 cs0 ψ0 s' m'
theorem steps_ctx {C C0 : Cx} (al : Alike C0 C) (hN : NatOk C ρ w0) (hMix : C0.P.follows .mixedOrders = true) {n : Nat} {s s' : AS} {m0 : Machine} (hs : StR C ρ w0 K0 cs0 ψ0 s m0) (he : runA C n s = some s') : ∃ m', Steps C0.P m0 m' ∧ StR C ρ w0 K0 cs0 ψ0 s' m' := by
  have := run_sound hN (by rw [al.P]; exact hMix) n hs he
  rwa [al.P] at this
theorem chain_sound {L : Lp} {C0 : Cx} {k : Nat} {way : Nat → Bool} (H : LpOk L C0 ρ w0 k way) : ∀ (n i : Nat) {s z : AS} {x : List AS}, chain L n i s = some (x, x, z) → i ≤ k → ∀ {C : Cx} {m0 : Machine}, Alike C0 C → StR C ρ w0 K0 cs0 ψ0 s m0 →
    EndsAt C0 L.f ρ w0 K0 cs0 ψ0 m0 ∨ (i + n < k ∧ ∃ C' m', Alike C0 C' ∧ Steps C0.P m0 m' ∧ StR C' ρ w0 K0 cs0 ψ0 z m')
  | 0, i, s, z, x, hch, hik, C, m0, al, hs => by
    unfold chain at hch
    cases hb : (lone1 s && endsT (L.e i) L.f (L.nE i) s) with
    | false => rw [hb] at hch; cases hch
    | true =>
      rw [hb] at hch; cases hch
      simp only [Bool.and_eq_true] at hb
      obtain ⟨hl, hend⟩ := hb
      by_cases hk : i = k
      · subst hk
        obtain ⟨a1, a2, a3⟩ := H.e
        obtain ⟨q, h', q1, q2⟩ := endsT_is hend
        obtain ⟨m', t1, r1⟩ := steps_ctx a1 a3 H.mix (hs.ctx (al.symm.trans a1) a2 hl) q1
        exact .inl ⟨_, q, h', m', a1, q2, t1, r1⟩
      · exact .inr ⟨by omega, C, m0, al, Steps.refl _ _, hs⟩
  | n + 1, i, s, z, x, hch, hik, C, m0, al, hs => by
    unfold chain at hch
    cases hb : (lone1 s && endsT (L.e i) L.f (L.nE i) s) with
    | false => rw [hb] at hch; cases hch
    | true =>
      rw [hb, cond_true] at hch
      simp only [Bool.and_eq_true] at hb
      obtain ⟨hl, hend⟩ := hb
      by_cases hk : i = k
      · subst hk
        obtain ⟨a1, a2, a3⟩ := H.e
        obtain ⟨q, h', q1, q2⟩ := endsT_is hend
        obtain ⟨m', t1, r1⟩ := steps_ctx a1 a3 H.mix (hs.ctx (al.symm.trans a1) a2 hl) q1
        exact .inl ⟨_, q, h', m', a1, q2, t1, r1⟩
      · have hlt : i < k := by omega
        split at hch
        case h_2 => cases hch
        rename_i a b ha hb
        cases hc : (lone1 a && (lone1 b && (lessT (L.ps i true) a.fr.tm (L.tj i) && lessT (L.ps i false) b.fr.tm (L.tj i)))) with
        | false => rw [hc] at hch; cases hch
        | true =>
          rw [hc, cond_true] at hch
          simp only [Bool.and_eq_true] at hc
          obtain ⟨la, lb, ta, tb⟩ := hc
          split at hch
          case h_2 => cases hch
          rename_i s' hs'
          split at hch
          case h_2 => cases hch
          rename_i x1 y1 z1 hrec
          simp only [Option.some.injEq, Prod.mk.injEq] at hch
          obtain ⟨e1, e2, rfl⟩ := hch
          rw [← e1, List.cons.injEq] at e2
          obtain ⟨e3, rfl⟩ := e2
          obtain ⟨a1, a2, a3⟩ := H.r i hlt
          obtain ⟨b1, b2, b3⟩ := H.c i hlt
          have hps := H.ps i hlt
          have hj : ∃ m', Steps C0.P m0 m' ∧ StR (L.c i) ρ w0 K0 cs0 ψ0 (withT (L.tj i) a) m' := by
            cases hw : way i with
            | true =>
              rw [hw] at a1 a2 a3 hps
              obtain ⟨m', t1, r1⟩ := steps_ctx a1 a3 H.mix (hs.ctx (al.symm.trans a1) a2 hl) ha
              exact ⟨m', t1, r1.less (a1.symm.trans b1) b2 hps la ta⟩
            | false =>
              rw [hw] at a1 a2 a3 hps
              obtain ⟨m', t1, r1⟩ := steps_ctx a1 a3 H.mix (hs.ctx (al.symm.trans a1) a2 hl) hb
              rw [← withT_er e3]
              exact ⟨m', t1, r1.less (a1.symm.trans b1) b2 hps lb tb⟩
          obtain ⟨m1, t1, r1⟩ := hj
          obtain ⟨m2, t2, r2⟩ := steps_ctx b1 b3 H.mix r1 hs'
          rcases chain_sound H n (i + 1) hrec hlt b1 r2 with ⟨C', q, h', m', k1, k2, k3, k4⟩ | ⟨h1, C', m', k1, k2, k3⟩
          · exact .inl ⟨C', q, h', m', k1, k2, (t1.trans t2).trans k3, k4⟩
          · exact .inr ⟨by omega, C', m', k1, (t1.trans t2).trans k2, k3⟩
/-- A piece of the loop, of which the kernel found out that both ways of each round meet. -/
theorem chain_piece {L : Lp} {C0 : Cx} {k : Nat} {way : Nat → Bool} (H : LpOk L C0 ρ w0 k way) (ok : C0.Ok ρ) {n i : Nat} {s t : AS} {q : List (Nat × A)} {gs : List (Nat × CO)} {ys : List YB} (hch : chL q gs ys (chain L n i s) = chR q gs ys t (chain L n i s)) (hik : i ≤ k) {C : Cx} {m0 : Machine} (al : Alike C0 C) (hs : StR C ρ w0 K0 cs0 ψ0 s m0) :
    EndsAt C0 L.f ρ w0 K0 cs0 ψ0 m0 ∨ (i + n < k ∧ ∃ m', Steps C0.P m0 m' ∧ StR C0 ρ w0 K0 cs0 ψ0 t m') := by
  cases hx : chain L n i s with
  | none => rw [hx] at hch; cases hch
  | some p =>
    obtain ⟨x, y, z⟩ := p
    rw [hx] at hch
    simp only [chL, chR, Prod.mk.injEq] at hch
    obtain ⟨h1, rfl, rfl⟩ := hch
    rcases chain_sound H n i hx hik al hs with h | ⟨h2, C', m', k1, k2, k3⟩
    · exact .inl h
    · exact .inr ⟨h2, m', k2, k3.cut k1.symm ok (fun p hp => by cases hp) h1.symm⟩
theorem EndsAt.steps {C0 : Cx} {f : FuncId} {m0 m1 : Machine} (t : Steps C0.P m0 m1) (h : EndsAt C0 f ρ w0 K0 cs0 ψ0 m1) : EndsAt C0 f ρ w0 K0 cs0 ψ0 m0 := by
  obtain ⟨C', s', h', m', k1, k2, k3, k4⟩ := h
  exact ⟨C', s', h', m', k1, k2, t.trans k3, k4⟩
/-- A call of a function that comes to its end, and true. -/
theorem path_call {C : Cx} {K : Nat → Option Obj} {ψ : Psi} {h : Hp} {w : World} (m : Mem C ρ w0 K ψ h w) {f : FuncId} {args : List A} {us : List Value} (hu : VRs ρ ψ args us) {fr : AF} (hfr : enterF C f args .normal = some fr)
    (hr : ∀ cs m0, StR C ρ w0 K cs ψ ⟨fr, [], h⟩ m0 → EndsAt C f ρ w0 K cs ψ m0) :
    Calls C.P f us.toArray w fun e w' => e = .returned (.bool true) ∧ w'.os = w0.os ∧ w'.output = w0.output ∧ ∀ b o, K b = some o → w'.heap[b]? = some o := by
  obtain ⟨c1, _, c2⟩ := enter_sound (K := K) m.ok hfr hu
  intro cs
  obtain ⟨f0, t0, b0, r0⟩ := c2 cs w
  have h0' : StR C ρ w0 K cs ψ ⟨fr, [], h⟩ (lone f0 cs w) := ⟨K, ψ, w, f0, cs, [], fun b o => K b = some o, rfl, b0, r0, ⟨rfl, fun _ _ h => h⟩, ⟨fun _ _ h => h, fun p hp => by cases hp⟩, m, Psi.le.refl ψ⟩
  obtain ⟨C', s, h', m1, al, he, t1, hst⟩ := hr cs _ h0'
  have hcs : s.cs = [] := by
    unfold endOf at he
    split at he
    · rfl
    · cases he
  obtain ⟨K1, ψ1, w1, f1, cs1, es, Kp, rfl, b1, r1, hS, p1, m1, l1⟩ := hst
  rw [hcs] at hS
  obtain ⟨rfl, k1⟩ := hS
  unfold endOf at he
  split at he
  case h_2 => cases he
  rename_i fn nt tm todo hq
  cases hbf : Nat.beq fn f with
  | false => rw [hbf] at he; cases he
  | true =>
    rw [hbf] at he
    have hbf := Nat.eq_of_beq_eq_true hbf
    subst hbf
    simp only [cond_true] at he
    split at he
    case h_2 => cases he
    rename_i fd hfd
    split at he
    case h_2 => cases he
    rename_i x' hx
    cases he
    simp only at b1 r1 m1
    cases r1 with
    | run q => cases q
    | pan _ _ q => cases q
    | ret _ g2 g3 _ =>
      obtain ⟨v, d1, d2⟩ := result_sound m1 g3 hx
      have e : v = .bool true := d2
      subst e
      have d1' := d1
      rw [al.P] at d1'
      refine ⟨.returned (.bool true), w1, f1, ⟨rfl, m1.os, m1.output, fun b o hb => m1.keep b o (p1.k b o (k1 b o hb))⟩, t0.trans t1, b1.fn, g2, b1.df, b1.kd, fd, ?_, d1'⟩
      rw [b1.fn, ← al.P]
      exact m1.ok.fns _ _ hfd
end
end Go.U
