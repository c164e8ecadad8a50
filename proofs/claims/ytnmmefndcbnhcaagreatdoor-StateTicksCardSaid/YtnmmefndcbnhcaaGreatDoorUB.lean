import Derived.Laws.AppendOwn
import Derived.Laws.BytesString
import Derived.Laws.IdiomStrings
import Derived.Lib.UnsafeStr
import Derived.Orders
import Derived.Test.YtnmmefndcbnhcaaGreatDoorUA
/-
  U, part 11: rows that are made, pieces of rows, ranges over strings, conversions.
-/
set_option linter.unusedVariables false
set_option linter.unusedSimpArgs false
namespace Go.U
open Go Go.RowKit

mutual
theorem sameV_eq : ∀ {x y : A}, sameV x y = true → x = y
  | .b x, y, h => by cases y <;> simp [sameV] at h; rw [h]
  | .i k n, y, h => by cases y <;> simp [sameV] at h; rw [h.1, h.2]
  | .y k n, y, h => by cases y <;> simp [sameV] at h; rw [h.1, h.2]
  | .s l, y, h => by cases y <;> simp [sameV] at h; rw [strEqN_eq h]
  | .p x, y, h => by cases y <;> simp [sameV] at h; rw [h]
  | .sl x n c e, y, h => by
    cases y <;> simp [sameV] at h
    obtain ⟨h1, h2, h3, h4⟩ := h
    rw [h1, h2, h3, h4]
  | .m x, y, h => by cases y <;> simp [sameV] at h; rw [h]
  | .f fn a b, y, h => by
    cases y <;> simp [sameV] at h
    rw [h.1, sameVs_eq h.2.1, sameVs_eq h.2.2]
  | .nf, y, h => by cases y <;> simp [sameV] at h; rfl
  | .ifc t x, y, h => by cases y <;> simp [sameV] at h; rw [h.1, sameV_eq h.2]
  | .ni, y, h => by cases y <;> simp [sameV] at h; rfl
  | .se, y, h => by cases y <;> simp [sameV] at h; rfl
  | .yl .., y, h => by
    cases y <;> simp [sameV] at h
    obtain ⟨h1, h2, h3, h4, h5⟩ := h
    rw [h1, h2, h3, h4, h5]
  | .ag xs, y, h => by cases y <;> simp [sameV] at h; rw [sameVs_eq h]
  | .tu xs, y, h => by cases y <;> simp [sameV] at h; rw [sameVs_eq h]
theorem sameVs_eq : ∀ {xs ys : List A}, sameVs xs ys = true → xs = ys
  | [], [], _ => rfl
  | [], _ :: _, h => by simp [sameVs] at h
  | _ :: _, [], h => by simp [sameVs] at h
  | x :: xs, y :: ys, h => by
    simp only [sameVs, Bool.and_eq_true] at h
    rw [sameV_eq h.1, sameVs_eq h.2]
end
theorem wrap_small {n : Int} (h0 : 0 ≤ n) (h1 : n ≤ 1000000000) : IntKind.i64.wrap n = n := by
  have hm : n % 18446744073709551616 = n := Int.emod_eq_of_lt h0 (by omega)
  unfold IntKind.wrap
  simp [IntKind.bits, IntKind.signed, hm]
  omega
section
variable {C : Cx} {ρ : Nat → Int} {w0 : World} {K : Nat → Option Obj} {ψ : Psi} {h : Hp} {w : World}
theorem make_sound (m : Mem C ρ w0 K ψ h w) {t : TypeId} {a b : A} {va vb : Value} (ha : VR ρ ψ a va) (hb : VR ρ ψ b vb) : Snd C ρ w0 K ψ w (do pure (.value (← Instr.makeSlice t va vb))) (xMake C h t a b) := by
  unfold xMake
  split
  · rename_i e hu
    split
    · rename_i l c i hl hc hi
      obtain ⟨ka, rfl⟩ := known_of ha hl
      obtain ⟨kb, rfl⟩ := known_of hb hc
      split
      · rename_i z hz
        unfold makeIn
        cases hcond : (decide (0 ≤ l) && (decide (l ≤ c) && (decide (c * i.info.bytes ≤ 1000000000) && (decide (c ≤ 1000000000) && (Nat.blt 0 i.info.size && lenIs z.cs i.info.size))))) with
        | false => trivial
        | true =>
          simp only [Bool.and_eq_true, decide_eq_true_eq] at hcond
          obtain ⟨c1, c2, c3, c4, c5, c6⟩ := hcond
          have h0 : 0 < i.info.size := by simpa [Nat.blt_eq] using c5
          rw [cond_true]
          split
          · rename_i h' hr
            obtain ⟨hinfo, _, _, _⟩ := ti_of (k := m.ok) hi
            have hzz : zeroOf C e = some z := by unfold zeroOf; rw [hi]; exact hz
            obtain ⟨vz, z1, z2⟩ := zeroOf_ok (ψ := ψ) (w := w) m.ok hzz
            obtain ⟨uz, k1, k2⟩ := z2.cells
            have huz : uz.length = i.info.size := by rw [k2.len, lenIs_eq c6]
            obtain ⟨w', r1, r2, r3⟩ := newRow_sound (e := e) m hr (VRs.rep k2 c.toNat)
            have hsz : (sizeOf e).run C.P w = .ok i.info.size w := by simp [sizeOf, typeInfo, hinfo]
            have hti : (typeInfo e).run C.P w = .ok i.info w := by simp [typeInfo, hinfo]
            have hzero : (Array.range (c.toNat * i.info.size)).map (fun q => uz.toArray[q % uz.toArray.size]!) = (List.replicate c.toNat uz).flatten.toArray := by
              have := range_rep huz h0 c.toNat
              rw [← this]
              apply Array.ext'
              simp [huz]
            have hlen : (rep c.toNat z.cs).length = c.toNat * i.info.size := by rw [rep_len, lenIs_eq c6]
            have hcn : ¬ (c < 0) := by omega
            have hb2 : ¬ ((i.info.bytes : Int) * c > 2 ^ 48) := by rw [Int.mul_comm]; omega
            have hll : l ≤ 1000000000 := by omega
            refine ⟨.slice (some ⟨w.heap.size, 0, none⟩) l.toNat c.toNat, w', _, ?_, r2, r3, ⟨_, c.toNat, Psi.with_at _ _ _, rfl, by omega, ?_, Nat.le_refl _, fun _ => rfl⟩⟩
            · by_cases hz0 : c.toNat * i.info.size = 0
              · have hc0 : c.toNat = 0 := by rcases Nat.mul_eq_zero.1 hz0 with hh | hh; exact hh; omega
                rw [hc0] at r1
                simp only [List.replicate_zero, List.flatten_nil] at r1
                simp only [Instr.makeSlice, Sem.run_bind, run_underlying (und_ok m.ok hu), Result.andThen_ok, asInt, asIntOf, Sem.run_pure, hti, wrap_small c1 hll, wrap_small (by omega : 0 ≤ c) c4]
                rw [if_neg (by simp [hcn, hb2]; omega)]
                simp only [Sem.run_bind, Sem.run_pure, Result.andThen_ok, run_askRoom, hsz, hc0, Nat.zero_mul, if_true, show Array.range 0 = #[] from rfl, Array.map_empty, r1]
              · simp only [Instr.makeSlice, Sem.run_bind, run_underlying (und_ok m.ok hu), Result.andThen_ok, asInt, asIntOf, Sem.run_pure, hti, wrap_small c1 hll, wrap_small (by omega : 0 ≤ c) c4]
                rw [if_neg (by simp [hcn, hb2]; omega)]
                simp only [Sem.run_bind, Sem.run_pure, Result.andThen_ok, run_askRoom, hsz, if_neg hz0, z1, k1, hzero, r1]
            · rw [← hlen]; simp
          · trivial
      · trivial
    · trivial
  · trivial

/-! bounds -/
def OV (ρ : Nat → Int) (x : Option Int) (v : Option Value) : Prop := match x, v with | none, none => True | some n, some v => ∃ k, v = .int k n | _, _ => False
theorem optOp_rel (m : Mem C ρ w0 K ψ h w) {fr : Frame} {tm : T A} (ht : TR ρ ψ tm fr.tmps) {o : Option Operand} {x : Option Int} (ho : optOp C tm o = some x) : OV ρ x (o.map fr.eval) := by
  unfold optOp at ho
  split at ho
  · cases ho; trivial
  · split at ho
    · rename_i a ha
      obtain ⟨n, hn, rfl⟩ := Option.map_eq_some_iff.1 ho
      exact known_of (opd_rel m ht ha) hn
    · cases ho
def sb (v : Option Value) (d top : Nat) (code : BoundsCode) : Sem Nat := match v with | some v => Instr.sliceBound v top code | none => pure d
theorem bnd_run {x : Option Int} {v : Option Value} (hv : OV ρ x v) {d top n : Nat} (hb : bnd x d top = some n) (code : BoundsCode) : (sb v d top code).run C.P w = .ok n w := by
  unfold bnd at hb
  cases x with
  | none =>
    cases v with
    | none => cases hb; rfl
    | some v => cases hv
  | some i =>
    cases v with
    | none => cases hv
    | some v =>
      obtain ⟨k, rfl⟩ := hv
      simp only at hb
      by_cases hc : 0 ≤ i ∧ i ≤ top
      · rw [if_pos hc] at hb; cases hb
        simp [sb, Instr.sliceBound, asIntOf, hc]
      · rw [if_neg hc] at hb; cases hb
theorem bounds_run {lo hi mx : Option Int} {vlo vhi vmx : Option Value} (hlo : OV ρ lo vlo) (hhi : OV ρ hi vhi) (hmx : OV ρ mx vmx) {isS : Bool} {len cap : Nat} {r : Nat × Nat × Nat} (hb : bounds len cap lo hi mx = some r) :
    (Instr.sliceBounds isS len cap vlo vhi vmx).run C.P w = .ok r w := by
  unfold bounds at hb
  split at hb
  · cases hb
  · rename_i hne
    simp only [Option.bind_eq_some_iff, Option.map_eq_some_iff] at hb
    obtain ⟨a, h1, b, h2, c, h3, rfl⟩ := hb
    have e1 := fun code => bnd_run (C := C) (w := w) hmx h1 code
    have e2 := fun code => bnd_run (C := C) (w := w) hhi h2 code
    have e3 := fun code => bnd_run (C := C) (w := w) hlo h3 code
    have hbad : ∀ q, vmx = some q → vhi ≠ none := by
      rintro q rfl rfl
      cases hi with
      | some n => cases hhi
      | none =>
        cases mx with
        | none => cases hmx
        | some n => exact hne n rfl rfl
    clear hlo hhi hmx
    unfold Instr.sliceBounds
    cases vmx with
    | none =>
      simp only [sb] at e1
      have ha : a = cap := by simpa using (e1 .index).symm
      cases vhi with
      | none =>
        simp only [sb] at e2
        have hb' : b = len := by simpa using (e2 .index).symm
        cases vlo with
        | none =>
          simp only [sb] at e3
          have hc' : c = 0 := by simpa using (e3 .index).symm
          subst ha hb' hc'; simp
        | some v => simp only [sb] at e3; subst ha hb'; simp [e3]
      | some u =>
        simp only [sb] at e2
        cases vlo with
        | none =>
          simp only [sb] at e3
          have hc' : c = 0 := by simpa using (e3 .index).symm
          subst ha hc'; simp [e2]
        | some v => simp only [sb] at e3; subst ha; simp [e2, e3]
    | some q =>
      simp only [sb] at e1
      cases vhi with
      | none => exact absurd rfl (hbad q rfl)
      | some u =>
        simp only [sb] at e2
        cases vlo with
        | none =>
          simp only [sb] at e3
          have hc' : c = 0 := by simpa using (e3 .index).symm
          subst hc'; simp [e1, e2]
        | some v => simp only [sb] at e3; simp [e1, e2, e3]
theorem bounds_le {len cap : Nat} {lo hi mx : Option Int} {r : Nat × Nat × Nat} (hb : bounds len cap lo hi mx = some r) (hl : len ≤ cap) : r.1 ≤ r.2.1 ∧ r.2.1 ≤ r.2.2 ∧ r.2.2 ≤ cap := by
  have key : ∀ {x : Option Int} {d top n : Nat}, bnd x d top = some n → d ≤ top ∨ x ≠ none → n ≤ top := by
    intro x d top n hb hd
    unfold bnd at hb
    cases x with
    | none => cases hb; rcases hd with hd | hd; exact hd; exact absurd rfl hd
    | some i =>
      simp only at hb
      by_cases hc : 0 ≤ i ∧ i ≤ top
      · rw [if_pos hc] at hb; cases hb; omega
      · rw [if_neg hc] at hb; cases hb
  unfold bounds at hb
  split at hb
  · cases hb
  · rename_i hne
    simp only [Option.bind_eq_some_iff, Option.map_eq_some_iff] at hb
    obtain ⟨a, h1, b, h2, c, h3, rfl⟩ := hb
    have k1 := key h1 (.inl (Nat.le_refl _))
    have k3 := key h3 (.inl (Nat.zero_le _))
    refine ⟨k3, key h2 ?_, k1⟩
    cases hi with
    | some n => exact .inr (by simp)
    | none =>
      cases mx with
      | none => left; cases h1; exact hl
      | some n => exact absurd rfl (hne n rfl)
theorem str_slice (l : List Nat) (a b : Nat) : (bstr l).extract a b = bstr ((l.take b).drop a) := by
  apply ByteArray.ext
  simp [bstr, ByteArray.data_extract, List.extract_toArray, List.drop_take]
theorem piece_sound (m : Mem C ρ w0 K ψ h w) {i o es len c : Nat} {lo hi mx : Option Int} {a : A} {B : Blk} (hB : ψ i = some B) (hl : len ≤ c) (hsz : B.base + o + c * es ≤ B.sz) (ha : pieceA i o es len c lo hi mx = some a) :
    ∃ r, bounds len c lo hi mx = some r ∧ VR ρ ψ a (.slice (some (if r.2.2 = r.1 then ⟨B.b, B.base + o, none⟩ else (⟨B.b, B.base + o, none⟩ : Addr).add (r.1 * es))) (r.2.1 - r.1) (r.2.2 - r.1)) := by
  unfold pieceA at ha
  obtain ⟨r, hr, rfl⟩ := Option.map_eq_some_iff.1 ha
  obtain ⟨h1, h2, h3⟩ := bounds_le hr hl
  refine ⟨r, hr, ?_⟩
  by_cases he : r.2.2 = r.1
  · rw [if_pos he, if_pos he]
    refine ⟨B, r.2.2 - r.1, hB, rfl, by omega, ?_, Nat.le_refl _, fun _ => rfl⟩
    rw [he, Nat.sub_self, Nat.zero_mul]; omega
  · rw [if_neg he, if_neg he, add_eq]
    refine ⟨B, r.2.2 - r.1, hB, by rw [Nat.add_assoc], by omega, ?_, Nat.le_refl _, fun _ => rfl⟩
    have : (r.2.2 - r.1) * es + r.1 * es ≤ c * es := by rw [← Nat.add_mul]; exact Nat.mul_le_mul_right _ (by omega)
    omega
theorem bnd_up {x : Option Int} {d d' top top' n : Nat} (hb : bnd x d top = some n) (hx : x ≠ none) (ht : top ≤ top') : bnd x d' top' = some n := by
  unfold bnd at hb ⊢
  cases x with
  | none => exact absurd rfl hx
  | some i =>
    simp only at hb ⊢
    by_cases hc : 0 ≤ i ∧ i ≤ top
    · rw [if_pos hc] at hb; rw [if_pos ⟨hc.1, by omega⟩]; exact hb
    · rw [if_neg hc] at hb; cases hb
theorem bounds_up_some {len c c' : Nat} {lo hi : Option Int} {n : Int} {r : Nat × Nat × Nat} (hb : bounds len c lo hi (some n) = some r) (hc : c ≤ c') : bounds len c' lo hi (some n) = some r := by
  unfold bounds at hb ⊢
  cases hi with
  | none => cases hb
  | some q =>
    simp only [Option.bind_eq_some_iff, Option.map_eq_some_iff] at hb ⊢
    obtain ⟨a, h1, h2⟩ := hb
    exact ⟨a, bnd_up h1 (by simp) hc, h2⟩
theorem bounds_up {len c c' : Nat} {lo hi : Option Int} {r : Nat × Nat × Nat} (hb : bounds len c lo hi none = some r) (hc : c ≤ c') : bounds len c' lo hi none = some (r.1, r.2.1, c') := by
  unfold bounds at hb ⊢
  simp only [Option.bind_eq_some_iff, Option.map_eq_some_iff] at hb ⊢
  obtain ⟨a, h1, b, h2, d, h3, rfl⟩ := hb
  refine ⟨c', rfl, b, ?_, d, h3, rfl⟩
  have ha : a = c := by cases h1; rfl
  subst ha
  cases hi with
  | none => exact h2
  | some q => exact bnd_up h2 (by simp) hc
theorem array_sound (m : Mem C ρ w0 K ψ h w) {n : Nat} {e : TypeId} {x a : A} {v : Value} (hx : VR ρ ψ x v) {lo hi mx : Option Int} (ha : sliceArr C h n e x lo hi mx = some a) :
    ∃ (ad : Addr) (r : Nat × Nat × Nat) (sz : Nat), v = .pointer (some ad) ∧ szOf C e = some sz ∧ bounds n n lo hi mx = some r ∧ VR ρ ψ a (.slice (some (if r.2.2 = r.1 then ad else ad.add (r.1 * sz))) (r.2.1 - r.1) (r.2.2 - r.1)) := by
  unfold sliceArr at ha
  split at ha
  · rename_i i o sz hsz
    obtain ⟨B, hB, rfl⟩ := hx
    split at ha
    · rename_i _ _ k _ hi
      cases hk : Nat.ble (o + n * sz) k with
      | false => rw [hk] at ha; cases ha
      | true =>
        rw [hk, cond_true] at ha
        have hk' := Nat.le_of_ble_eq_true hk
        obtain ⟨B', _, _, h1, _, _, _, h2, _⟩ := m.cells hi
        rw [hB] at h1; cases h1
        obtain ⟨r, h1, h2⟩ := piece_sound m hB (Nat.le_refl n) (by omega) ha
        exact ⟨_, r, sz, rfl, hsz, h1, h2⟩
    · cases ha
  · cases ha
theorem sliceSl_sound (m : Mem C ρ w0 K ψ h w) {t e : TypeId} (hu : und C t = some (.slice e)) {b : Option (Nat × Nat × Nat)} {len cap : Nat} {ex : Bool} {a : A} {v : Value} (hv : VR ρ ψ (.sl b len cap ex) v) {lo hi mx : Option Int} {vlo vhi vmx : Option Value} (hlo : OV ρ lo vlo) (hhi : OV ρ hi vhi) (hmx : OV ρ mx vmx)
    (ha : sliceSl C e b len cap ex lo hi mx = some a) : ∃ u, (Instr.sliceAt t v vlo vhi vmx).run C.P w = .ok u w ∧ VR ρ ψ a u := by
  have hu' := und_ok m.ok hu
  unfold sliceSl at ha
  split at ha
  · rename_i sz hsz
    obtain ⟨rfl, rfl⟩ := hv
    obtain ⟨r, hr, rfl⟩ := Option.map_eq_some_iff.1 ha
    obtain ⟨h1, h2, h3⟩ := bounds_le hr (Nat.le_refl 0)
    have e1 : r.1 = 0 := by omega
    have e2 : r.2.1 = 0 := by omega
    have e3 : r.2.2 = 0 := by omega
    have := bounds_run (C := C) (w := w) (isS := true) hlo hhi hmx hr
    refine ⟨.slice none 0 0, ?_, ⟨rfl, rfl⟩⟩
    simp [Instr.sliceAt, Instr.slice, run_underlying hu', this, szOf_run m.ok hsz, e1, e2, e3]
  · rename_i es i o es' hsz
    obtain ⟨B, c, hB, rfl, g1, g2, g3, g4⟩ := hv
    cases hes : Nat.beq es es' with
    | false => rw [hes] at ha; cases ha
    | true =>
      have ee := Nat.eq_of_beq_eq_true hes
      subst ee
      rw [hes, cond_true] at ha
      have fin : ∀ {r : Nat × Nat × Nat}, bounds len c lo hi mx = some r → (Instr.sliceAt t (.slice (some ⟨B.b, B.base + o, none⟩) len c) vlo vhi vmx).run C.P w = .ok (.slice (some (if r.2.2 = r.1 then ⟨B.b, B.base + o, none⟩ else (⟨B.b, B.base + o, none⟩ : Addr).add (r.1 * es))) (r.2.1 - r.1) (r.2.2 - r.1)) w := fun {r} hr => by
        have := bounds_run (C := C) (w := w) (isS := true) hlo hhi hmx hr
        simp only [Instr.sliceAt, Instr.slice, Sem.run_bind, run_underlying hu', Result.andThen_ok, this, szOf_run m.ok hsz, Sem.run_pure]
        by_cases he : r.2.2 = r.1 <;> simp [he]
      cases ex with
      | true =>
        rw [cond_true] at ha
        obtain rfl := g4 rfl
        obtain ⟨r, hr, hv⟩ := piece_sound m hB g1 g2 ha
        exact ⟨_, fin hr, hv⟩
      | false =>
        rw [cond_false] at ha
        unfold pieceL at ha
        cases mx with
        | some n =>
          simp only at ha
          obtain ⟨r, hr, ha⟩ := Option.bind_eq_some_iff.1 ha
          cases h0 : Nat.beq r.1 0 with
          | false => rw [h0] at ha; cases ha
          | true =>
            rw [h0, cond_true] at ha; cases ha
            have e0 := Nat.eq_of_beq_eq_true h0
            have hr' := bounds_up_some hr g3
            obtain ⟨k1, k2, k3⟩ := bounds_le hr' g1
            refine ⟨_, fin hr', ?_⟩
            have ea : (if r.2.2 = r.1 then (⟨B.b, B.base + o, none⟩ : Addr) else (⟨B.b, B.base + o, none⟩ : Addr).add (r.1 * es)) = ⟨B.b, B.base + o, none⟩ := by
              rw [e0, add_eq]; simp
            rw [ea, e0, Nat.sub_zero, Nat.sub_zero]
            refine ⟨B, r.2.2, hB, rfl, k2, ?_, Nat.le_refl _, fun _ => rfl⟩
            have : r.2.2 * es ≤ c * es := Nat.mul_le_mul_right _ k3
            omega
        | none =>
          simp only at ha
          obtain ⟨r, hr, ha⟩ := Option.bind_eq_some_iff.1 ha
          have hr' := bounds_up hr g3
          obtain ⟨k1, k2, k3⟩ := bounds_le hr' g1
          simp only at k1 k2 k3
          cases h0 : Nat.beq r.1 0 with
          | true =>
            rw [h0, cond_true] at ha; cases ha
            have e0 := Nat.eq_of_beq_eq_true h0
            refine ⟨_, fin hr', ?_⟩
            have ea : (if c = r.1 then (⟨B.b, B.base + o, none⟩ : Addr) else (⟨B.b, B.base + o, none⟩ : Addr).add (r.1 * es)) = ⟨B.b, B.base + o, none⟩ := by
              rw [e0, add_eq]; simp
            simp only
            rw [ea, e0, Nat.sub_zero, Nat.sub_zero]
            exact ⟨B, c, hB, rfl, k2, g2, g3, fun hx => by cases hx⟩
          | false =>
            rw [h0, cond_false] at ha
            cases hlt : Nat.blt r.1 cap with
            | false =>
              rw [hlt, cond_false] at ha
              cases hse : Nat.beq r.2.1 r.1 with
              | false => rw [hse] at ha; cases ha
              | true =>
                rw [hse, cond_true] at ha; cases ha
                have e0 := Nat.eq_of_beq_eq_true hse
                refine ⟨_, fin hr', ?_⟩
                simp only
                rw [e0, Nat.sub_self]
                exact ⟨_, _, rfl⟩
            | true =>
              rw [hlt, cond_true] at ha; cases ha
              have hlt' : r.1 < cap := by simpa [Nat.blt_eq] using hlt
              refine ⟨_, fin hr', ?_⟩
              simp only
              rw [if_neg (by omega), add_eq]
              refine ⟨B, c - r.1, hB, by rw [Nat.add_assoc], by omega, ?_, by omega, fun hx => by cases hx⟩
              have : (c - r.1) * es + r.1 * es ≤ c * es := by rw [← Nat.add_mul]; exact Nat.mul_le_mul_right _ (by omega)
              omega
  · cases ha
/-! a piece of a slice whose length is not known -/
def OA (ρ : Nat → Int) (ψ : Psi) (x : Option A) (v : Option Value) : Prop := match x, v with | none, none => True | some a, some v => VR ρ ψ a v | _, _ => False
theorem optA_rel (m : Mem C ρ w0 K ψ h w) {fr : Frame} {tm : T A} (ht : TR ρ ψ tm fr.tmps) {o : Option Operand} {x : Option A} (ho : optA C tm o = some x) : OA ρ ψ x (o.map fr.eval) := by
  unfold optA at ho
  split at ho
  · cases ho; trivial
  · obtain ⟨a, ha, rfl⟩ := Option.map_eq_some_iff.1 ho
    exact opd_rel m ht ha
theorem wrap_mid64 {n : Int} (h0 : 0 ≤ n) (h1 : n < 9223372036854775808) : IntKind.i64.wrap n = n := by
  have hm : n % 18446744073709551616 = n := Int.emod_eq_of_lt h0 (by omega)
  unfold IntKind.wrap
  simp [IntKind.bits, IntKind.signed, hm]
  omega
theorem lenE_ev {c j q : Nat} (hq : ρ j = ((q : Nat) : Int)) (hlt : c + q < 9223372036854775808) : (lenE c j).ev ρ = ((c + q : Nat) : Int) := by
  unfold lenE
  cases hb : Nat.beq c 0 with
  | true =>
    have := Nat.eq_of_beq_eq_true hb
    subst this
    show ρ j = _
    rw [hq, Nat.zero_add]
  | false =>
    show IntKind.i64.wrap ((c : Int) + ρ j) = _
    rw [hq, wrap_mid64 (by omega) (by omega)]
    simp
theorem mkY_int (F : C.Ok ρ) {k : IntKind} {e : SE} {v : Value} (h : VR ρ ψ (mkY C k e) v) : v = .int k (e.ev ρ) := by
  have h2 := rwIn_ev (e := e) F.rw
  unfold mkY at h
  split at h
  · rename_i n hn
    rw [hn] at h2
    have e1 : v = .int k n := h
    rw [e1, ← h2]; rfl
  · have e1 : v = .int k ((rwIn C.rw e).ev ρ) := h
    rw [e1, h2]
theorem sameLen (F : C.Ok ρ) {c j q : Nat} (hq : ρ j = ((q : Nat) : Int)) (hlt : c + q < 9223372036854775808) {a : A} {v : Value} (hb : isLenY C c j a = true) (h : VR ρ ψ a v) : v = .int .i64 ((c + q : Nat) : Int) := by
  unfold isLenY at hb
  rw [sameV_eq hb] at h
  rw [mkY_int F h, lenE_ev hq hlt]
theorem loY_rel {x : Option A} {l : Nat} (hl : loY x = some l) {v : Option Value} (h : OA ρ ψ x v) : ∃ y : Option Int, OV ρ y v ∧ (y = none ∧ l = 0 ∨ y = some ((l : Nat) : Int)) := by
  unfold loY at hl
  split at hl
  · cases hl
    cases v with
    | none => exact ⟨none, trivial, .inl ⟨rfl, rfl⟩⟩
    | some v => cases h
  · cases hl
    cases v with
    | none => cases h
    | some v => exact ⟨some _, ⟨_, h⟩, .inr rfl⟩
  · cases hl
theorem bnd_is {n d top : Nat} (h : n ≤ top) : bnd (some ((n : Nat) : Int)) d top = some n := by
  show (if 0 ≤ ((n : Nat) : Int) ∧ ((n : Nat) : Int) ≤ (top : Int) then some ((n : Nat) : Int).toNat else none) = some n
  rw [if_pos (by omega), Int.toNat_natCast]
theorem bnd_lo {y : Option Int} {l x : Nat} (h : y = none ∧ l = 0 ∨ y = some ((l : Nat) : Int)) (hl : l ≤ x) : bnd y 0 x = some l := by
  rcases h with ⟨rfl, rfl⟩ | rfl
  · rfl
  · exact bnd_is hl
theorem bounds_of {len cap : Nat} {lo hi mx : Option Int} {l x m : Nat} (hm : bnd mx cap cap = some m) (hx : bnd hi len m = some x) (hl : bnd lo 0 x = some l) (hne : mx = none ∨ hi ≠ none) : bounds len cap lo hi mx = some (l, x, m) := by
  unfold bounds
  cases mx with
  | none => simp only [hm, hx, hl, Option.bind_some, Option.map_some]
  | some a =>
    cases hi with
    | none =>
      rcases hne with h | h
      · cases h
      · exact absurd rfl h
    | some b => simp only [hm, hx, hl, Option.bind_some, Option.map_some]
theorem sliceY_sound (m : Mem C ρ w0 K ψ h w) {t e : TypeId} (hu : und C t = some (.slice e)) {i o es c j : Nat} {a : A} {v : Value} (hv : VR ρ ψ (.yl i o es c j) v) {lo hi mx : Option A} {vlo vhi vmx : Option Value} (hlo : OA ρ ψ lo vlo) (hhi : OA ρ ψ hi vhi) (hmx : OA ρ ψ mx vmx)
    (ha : sliceY C e i o es c j lo hi mx = some a) : ∃ u, (Instr.sliceAt t v vlo vhi vmx).run C.P w = .ok u w ∧ VR ρ ψ a u := by
  have hu' := und_ok m.ok hu
  obtain ⟨B, q, k, hB, hq, hlt, rfl, hck, hsz⟩ := hv
  unfold sliceY at ha
  split at ha
  case h_2 => cases ha
  rename_i es' l hes hl
  cases hee : Nat.beq es es' with
  | false => rw [hee] at ha; cases ha
  | true =>
    obtain rfl := Nat.eq_of_beq_eq_true hee
    rw [hee, cond_true] at ha
    obtain ⟨ylo, o1, o2⟩ := loY_rel hl hlo
    have fin : ∀ {yhi ymx : Option Int} {r : Nat × Nat × Nat}, OV ρ yhi vhi → OV ρ ymx vmx → bounds (c + q) k ylo yhi ymx = some r → (Instr.sliceAt t (.slice (some ⟨B.b, B.base + o, none⟩) (c + q) k) vlo vhi vmx).run C.P w = .ok (.slice (some (if r.2.2 = r.1 then ⟨B.b, B.base + o, none⟩ else (⟨B.b, B.base + o, none⟩ : Addr).add (r.1 * es))) (r.2.1 - r.1) (r.2.2 - r.1)) w := fun {yhi ymx r} hh hm hr => by
      have := bounds_run (C := C) (w := w) (isS := true) o1 hh hm hr
      simp only [Instr.sliceAt, Instr.slice, Sem.run_bind, run_underlying hu', Result.andThen_ok, this, szOf_run m.ok hes, Sem.run_pure]
      by_cases he : r.2.2 = r.1 <;> simp [he]
    -- up to the end
    have top : ∀ {yhi ymx : Option Int} {k' : Nat}, sliceYl C i o es c j l = some a → OV ρ yhi vhi → OV ρ ymx vmx → c + q ≤ k' → k' ≤ k → (l ≤ c + q → bounds (c + q) k ylo yhi ymx = some (l, c + q, k')) → ∃ u, (Instr.sliceAt t (.slice (some ⟨B.b, B.base + o, none⟩) (c + q) k) vlo vhi vmx).run C.P w = .ok u w ∧ VR ρ ψ a u := by
      intro yhi ymx k' ha h1 h2 hk1 hk2 hb
      unfold sliceYl at ha
      cases hc : (Nat.beq l 0 || (Nat.blt l c || (Nat.beq l c && belowY C j 0))) with
      | false => rw [hc] at ha; cases ha
      | true =>
        rw [hc, cond_true] at ha; cases ha
        simp only [Bool.or_eq_true, Bool.and_eq_true, Nat.blt_eq] at hc
        have hl2 : l = 0 ∨ l < c + q := by
          rcases hc with hc | hc | ⟨hc, hd⟩
          · exact .inl (Nat.eq_of_beq_eq_true hc)
          · right; omega
          · have := belowY_ok m.ok hq hd
            have := Nat.eq_of_beq_eq_true hc
            right; omega
        have hlc : l ≤ c := by
          rcases hc with hc | hc | ⟨hc, hd⟩
          · rw [Nat.eq_of_beq_eq_true hc]; omega
          · omega
          · rw [Nat.eq_of_beq_eq_true hc]; omega
        refine ⟨_, fin h1 h2 (hb (by omega)), ?_⟩
        have ea : (if k' = l then (⟨B.b, B.base + o, none⟩ : Addr) else (⟨B.b, B.base + o, none⟩ : Addr).add (l * es)) = ⟨B.b, B.base + (o + l * es), none⟩ := by
          split
          · rename_i he
            have : l = 0 := by omega
            subst this; simp
          · rw [add_eq, Nat.add_assoc]
        simp only
        rw [ea]
        refine ⟨B, q, k' - l, hB, hq, by omega, by rw [show c - l + q = c + q - l by omega], by omega, ?_⟩
        have h5 : (k' - l) * es + l * es ≤ k * es := by rw [← Nat.add_mul]; exact Nat.mul_le_mul_right _ (by omega)
        omega
    split at ha
    · cases vhi with
      | some _ => cases hhi
      | none => cases vmx with
        | some _ => cases hmx
        | none =>
          exact top (yhi := none) (ymx := none) ha trivial trivial hck (Nat.le_refl _) fun hle => bounds_of rfl rfl (bnd_lo o2 hle) (.inl rfl)
    · rename_i x
      cases vmx with
      | some _ => cases hmx
      | none => cases vhi with
        | none => cases hhi
        | some vx =>
          cases hb : isLenY C c j x with
          | true =>
            rw [hb, cond_true] at ha
            have e := sameLen m.ok hq hlt hb hhi
            subst e
            exact top (yhi := some ((c + q : Nat) : Int)) (ymx := none) ha ⟨_, rfl⟩ trivial hck (Nat.le_refl _) fun hle => bounds_of rfl (bnd_is hck) (bnd_lo o2 hle) (.inl rfl)
          | false =>
            rw [hb, cond_false] at ha
            split at ha
            case h_2 => cases ha
            rename_i kk p
            have e : vx = .int kk ((p : Nat) : Int) := hhi
            subst e
            unfold sliceYh at ha
            cases hc : ((Nat.beq l 0 || Nat.blt l c) && (Nat.ble l p && Nat.ble p c)) with
            | false => rw [hc] at ha; cases ha
            | true =>
              rw [hc, cond_true] at ha; cases ha
              simp only [Bool.or_eq_true, Bool.and_eq_true, Nat.blt_eq] at hc
              obtain ⟨c1, c2, c3⟩ := hc
              have d2 := Nat.le_of_ble_eq_true c2
              have d3 := Nat.le_of_ble_eq_true c3
              have hb2 : bounds (c + q) k ylo (some ((p : Nat) : Int)) none = some (l, p, k) := bounds_of rfl (bnd_is (by omega)) (bnd_lo o2 d2) (.inl rfl)
              refine ⟨_, fin (yhi := some ((p : Nat) : Int)) (ymx := none) ⟨_, rfl⟩ trivial hb2, ?_⟩
              have ea : (if k = l then (⟨B.b, B.base + o, none⟩ : Addr) else (⟨B.b, B.base + o, none⟩ : Addr).add (l * es)) = ⟨B.b, B.base + (o + l * es), none⟩ := by
                split
                · rename_i he
                  have : l = 0 := by
                    rcases c1 with c1 | c1
                    · exact Nat.eq_of_beq_eq_true c1
                    · omega
                  subst this; simp
                · rw [add_eq, Nat.add_assoc]
              simp only
              rw [ea]
              refine ⟨B, k - l, hB, rfl, by omega, ?_, by omega, fun hx => by cases hx⟩
              have h5 : (k - l) * es + l * es ≤ k * es := by rw [← Nat.add_mul]; exact Nat.mul_le_mul_right _ (by omega)
              omega
    · rename_i x y
      cases vhi with
      | none => cases hhi
      | some vx => cases vmx with
        | none => cases hmx
        | some vy =>
          cases hb : (isLenY C c j x && isLenY C c j y) with
          | false => rw [hb] at ha; cases ha
          | true =>
            rw [hb, cond_true] at ha
            simp only [Bool.and_eq_true] at hb
            have e := sameLen m.ok hq hlt hb.1 hhi
            have e2 := sameLen m.ok hq hlt hb.2 hmx
            subst e e2
            exact top (yhi := some ((c + q : Nat) : Int)) (ymx := some ((c + q : Nat) : Int)) ha ⟨_, rfl⟩ ⟨_, rfl⟩ (Nat.le_refl _) hck fun hle => bounds_of (bnd_is hck) (bnd_is (Nat.le_refl _)) (bnd_lo o2 hle) (.inr (by simp))
    · cases ha
theorem sliceY_snd (m : Mem C ρ w0 K ψ h w) {fr : Frame} {tm : T A} (ht : TR ρ ψ tm fr.tmps) {t : TypeId} {i o es c j : Nat} {v : Value} (hv : VR ρ ψ (.yl i o es c j) v) {lo hi mx : Option Operand} :
    Snd C ρ w0 K ψ w (do pure (.value (← Instr.sliceAt t v (lo.map fr.eval) (hi.map fr.eval) (mx.map fr.eval)))) (xSliceY C tm h t lo hi mx i o es c j) := by
  unfold xSliceY
  split
  · rename_i e hu
    split
    · rename_i vlo vhi vmx h1 h2 h3
      refine Snd.ofR m fun r hr => ?_
      exact sliceY_sound m hu hv (optA_rel m ht h1) (optA_rel m ht h2) (optA_rel m ht h3) hr
    · trivial
  · trivial
theorem slice_sound (m : Mem C ρ w0 K ψ h w) {fr : Frame} {tm : T A} (ht : TR ρ ψ tm fr.tmps) {t : TypeId} {x a : A} {v : Value} (hv : VR ρ ψ a v) {lo hi mx : Option Operand} :
    Snd C ρ w0 K ψ w (do pure (.value (← Instr.sliceAt t v (lo.map fr.eval) (hi.map fr.eval) (mx.map fr.eval)))) (xSlice C tm h t lo hi mx a) := by
  unfold xSlice
  split
  · exact sliceY_snd m ht hv
  rename_i hny
  clear hny
  unfold xSlice0
  split
  · rename_i vlo vhi vmx h1 h2 h3
    have g1 := optOp_rel m ht h1
    have g2 := optOp_rel m ht h2
    have g3 := optOp_rel m ht h3
    refine Snd.ofR m fun r hr => ?_
    unfold sliceOp at hr
    split at hr
    · rename_i hu
      split at hr
      · rename_i l
        have e : v = .string (bstr l) := hv
        subst e
        unfold sliceStr at hr
        split at hr
        · cases hr
        · obtain ⟨b, hb, rfl⟩ := Option.map_eq_some_iff.1 hr
          have hmn : mx.map fr.eval = none := by
            cases hm : mx.map fr.eval with
            | none => rfl
            | some q => rw [hm] at g3; cases g3
          have hsz : (bstr l).size = l.length := by simp [bstr, ByteArray.size]
          have := bounds_run (C := C) (w := w) (isS := false) g1 g2 (show OV ρ none none from trivial) hb
          refine ⟨.string (bstr ((l.take b.2.1).drop b.1)), ?_, rfl⟩
          rw [← str_slice]
          simp [Instr.sliceAt, Instr.slice, run_underlying (und_ok m.ok hu), hmn, hsz, this]
      · cases hr
    · rename_i e hu
      split at hr
      · exact sliceSl_sound m hu hv g1 g2 g3 hr
      · cases hr
    · rename_i n e hu
      obtain ⟨ad, q, sz, rfl, hsz, hb, hv2⟩ := array_sound m hv hr
      have := bounds_run (C := C) (w := w) (isS := false) g1 g2 g3 hb
      refine ⟨_, ?_, hv2⟩
      simp [Instr.sliceAt, run_underlying (und_ok m.ok hu), Instr.sureAddr, this, szOf_run m.ok hsz]
    · rename_i ar hu
      split at hr
      · rename_i n e hu2
        obtain ⟨ad, q, sz, rfl, hsz, hb, hv2⟩ := array_sound m hv hr
        have := bounds_run (C := C) (w := w) (isS := false) g1 g2 g3 hb
        refine ⟨_, ?_, hv2⟩
        simp [Instr.sliceAt, Instr.slice, run_underlying (und_ok m.ok hu), run_underlying (und_ok m.ok hu2), asAddr, this, szOf_run m.ok hsz]
      · cases hr
    · cases hr
  · trivial
theorem run_get {P : Program} {w : World} {r : Nat} {o : Obj} (h : w.heap[r]? = some o) (hn : ∀ a e f, o ≠ .cells a e f) : (getObj r).run P w = .ok o w := by
  cases o <;> first | exact absurd rfl (hn _ _ _) | simp [getObj, Sem.run, h]
theorem run_set {P : Program} {w : World} {r : Nat} {o : Obj} (o' : Obj) (h : w.heap[r]? = some o) (hn : ∀ a e f, o ≠ .cells a e f) : ∃ w', (setObj r o').run P w = .ok () w' ∧ Upd w r o' w' := by
  have hl := get_lt h
  refine ⟨{ w with heap := w.heap.setIfInBounds r o' }, ?_, rfl, rfl, rfl, by simp, ?_, fun b hb => ?_⟩
  · cases o <;> first | exact absurd rfl (hn _ _ _) | simp [setObj, Sem.run, h]
  · simp [hl]
  · rw [Array.getElem?_setIfInBounds, if_neg (fun e => hb e.symm)]
theorem range_sound (m : Mem C ρ w0 K ψ h w) {t : TypeId} {a : A} {v : Value} (hv : VR ρ ψ a v) : Snd C ρ w0 K ψ w (do pure (.value (← Instr.range t v))) (xRange C h t a) := by
  unfold xRange
  split
  · rename_i hu
    split
    · rename_i l
      have e : v = .string (bstr l) := hv
      subst e
      have hm := m.new (o := .strIter l 0) (Push.mk' w (.stringIter (bstr l) 0) w.drawn) 0 (fun e ro k t hx => by cases hx) ⟨rfl, rfl⟩
      exact ⟨.pointer (some ⟨w.heap.size, 0, none⟩), _, _, by simp [Instr.range, run_underlying (und_ok m.ok hu)], hm.1, hm.2, ⟨_, Psi.with_at _ _ _, rfl⟩⟩
    · trivial
  · rename_i hu
    split
    · rename_i r
      obtain ⟨B, hB, rfl⟩ := hv
      split
      · rename_i es c hr
        obtain ⟨B', ob, h1, h2, l, rfl, h4⟩ := m.obj r _ hr
        rw [hB] at h1; cases h1
        have hrn : r < h.nx := m.keys r _ hr
        have hne : r ≠ h.nx := by omega
        have hm := m.new (o := .mapIter r c [] c) (Push.mk' w (.mapIter (some B.b) c #[] c) w.drawn) 0 (fun e ro k t hx => by cases hx) ⟨rfl, B, Psi.with_le (m.fresh _ (Nat.le_refl _)) _ _ hB, rfl⟩
        exact ⟨.pointer (some ⟨w.heap.size, 0, none⟩), _, _, by simp [Instr.range, run_underlying (und_ok m.ok hu), run_get h2 (by simp)], hm.1, hm.2, ⟨_, Psi.with_at _ _ _, rfl⟩⟩
      · trivial
    · trivial
  · trivial
theorem bornE_find : ∀ {es : List (A × A × Nat)} {l : List MapEntry} {s : Nat} {e : A × A × Nat}, EsR ρ ψ es l → bornE s es = some e → ∃ me, l.find? (fun x => x.born == s) = some me ∧ VR ρ ψ e.1 me.key ∧ VR ρ ψ e.2.1 me.val
  | [], l, s, e, h, he => by cases he
  | (k, v, b) :: es, l, s, e, h, he => by
    obtain ⟨x, l', rfl, h1, h2, h3, h4⟩ := h
    unfold bornE at he
    cases hb : Nat.beq b s with
    | true =>
      rw [hb] at he; cases he
      refine ⟨x, ?_, h1, h2⟩
      simp [List.find?, h3, Nat.eq_of_beq_eq_true hb]
    | false =>
      rw [hb] at he
      obtain ⟨me, k1, k2⟩ := bornE_find h4 he
      refine ⟨me, ?_, k2⟩
      have : (x.born == s) = false := by rw [h3]; simpa using fun e => by subst e; rw [Nat.beq_refl] at hb; cases hb
      simp [List.find?, this, k1]
theorem entry_sound (m : Mem C ρ w0 K ψ h w) {a : A} {v : Value} (hv : VR ρ ψ a v) : Snd C ρ w0 K ψ w (do pure (.value (← Instr.entry v))) (xEntry h a) := by
  unfold xEntry
  split
  · rename_i r
    obtain ⟨B, hB, rfl⟩ := hv
    split
    · rename_i mm since s olds last hi
      obtain ⟨B', ob, h1, h2, hb0, B2, hB2, rfl⟩ := m.obj r _ hi
      rw [hB] at h1; cases h1
      unfold entryIn
      split
      · rename_i es c hm
        obtain ⟨B3, ob3, g1, g2, l, rfl, g4⟩ := m.obj mm _ hm
        rw [hB2] at g1; cases g1
        cases hc : Nat.beq c last with
        | false => trivial
        | true =>
          have hc' := Nat.eq_of_beq_eq_true hc
          subst hc'
          rw [cond_true]
          split
          · rename_i e he
            obtain ⟨me, k1, k2, k3⟩ := bornE_find g4 he
            refine ⟨.tuple #[me.key, me.val], w, ψ, ?_, Psi.le.refl ψ, m, ⟨[me.key, me.val], rfl, VRs.cons k2 (VRs.cons k3 VRs.nil)⟩⟩
            rw [hb0]
            simp [Instr.entry, run_get h2 (by simp), run_get g2 (by simp), k1]
          · trivial
      · trivial
    · trivial
  · trivial
theorem decode_ascii {l : List Nat} {pos b : Nat} (hb : l[pos]? = some b) (h : b < 128) : Utf8.decode (bstr l) pos = (b, 1) := by
  have e : ((bstr l).get! (pos + 0)).toNat = b := by
    obtain ⟨hl, hbv⟩ := List.getElem?_eq_some_iff.1 hb
    show ((bstr l).data[pos + 0]!).toNat = b
    have : (bstr l).data[pos + 0]! = UInt8.ofNat b := by
      rw [Nat.add_zero, getElem!_pos (bstr l).data pos (by simp [bstr]; exact hl)]
      simp [bstr, hbv]
    rw [this]
    simp; omega
  unfold Utf8.decode
  simp only [e]
  rw [if_pos h]
theorem next_sound (m : Mem C ρ w0 K ψ h w) {t : TypeId} {a : A} {v : Value} (hv : VR ρ ψ a v) : Snd C ρ w0 K ψ w (do pure (.value (← Instr.next v true t))) (xNext C h a) := by
  unfold xNext
  split
  · rename_i r
    obtain ⟨B, hB, rfl⟩ := hv
    split
    · rename_i l pos hi
      cases hg : Nat.ble C.G r with
      | false => trivial
      | true =>
        have hg' := Nat.le_of_ble_eq_true hg
        rw [cond_true]
        obtain ⟨B', ob, h1, h2, h3⟩ := m.obj r _ hi
        rw [hB] at h1; cases h1
        obtain ⟨rfl, hb0⟩ := h3
        have hsz : (bstr l).size = l.length := by simp [bstr, ByteArray.size]
        rw [hb0]
        unfold nextIn
        rw [nth_eq]
        split
        · rename_i hn
          have hge : ¬ (pos < (bstr l).size) := by rw [hsz]; exact Nat.not_lt.2 (List.getElem?_eq_none_iff.1 hn)
          refine ⟨.tuple #[.bool false], w, ψ, ?_, Psi.le.refl ψ, m, ⟨[.bool false], rfl, VRs.cons rfl VRs.nil⟩⟩
          simp [Instr.next, run_get h2 (by simp), hge]
        · rename_i b hb
          cases hlt : Nat.blt b 128 with
          | false => trivial
          | true =>
            have hlt' : b < 128 := by simpa [Nat.blt_eq] using hlt
            have hl : pos < (bstr l).size := by rw [hsz]; exact (List.getElem?_eq_some_iff.1 hb).1
            have hd := decode_ascii hb hlt'
            rw [cond_true]
            obtain ⟨w', s1, s2⟩ := run_set (P := C.P) (.stringIter (bstr l) (pos + 1)) h2 (by simp)
            refine ⟨.tuple #[.bool true, .int .i64 pos, .int .i32 b], w', ψ, ?_, Psi.le.refl ψ, m.upd hi hg' hB s2 (fun _ _ _ _ hx => by cases hx) ⟨rfl, hb0⟩, ⟨[.bool true, .int .i64 pos, .int .i32 b], rfl, VRs.cons rfl (VRs.cons rfl (VRs.cons rfl VRs.nil))⟩⟩
            simp [Instr.next, run_get h2 (by simp), hl, hd, s1, goInt]
    · trivial
  · trivial
end
end Go.U
/-
  U, part 12: 'append', 'copy'.
-/
set_option linter.unusedVariables false
set_option linter.unusedSimpArgs false
namespace Go.U
open Go Go.RowKit

section
variable {C : Cx} {ρ : Nat → Int} {w0 : World} {K : Nat → Option Obj} {ψ : Psi} {h : Hp} {w : World}
theorem bytes_rel : ∀ (l : List Nat), VRs ρ ψ (byteCells l) (l.map fun b => Value.int .u8 ((UInt8.ofNat b).toNat : Int))
  | [] => VRs.nil
  | b :: l => VRs.cons (show Value.int .u8 ((UInt8.ofNat b).toNat : Int) = .int .u8 (Int.ofNat (b % 256)) by simp) (bytes_rel l)
theorem bytes_one (l : List Nat) : (byteCells l).all A.one = true := by simp [byteCells, A.one]
theorem byte_vals (l : List Nat) (k : Nat) : (((bstr l).extract 0 k).data.map fun b => Value.int .u8 (b.toNat : Int)) = ((l.map fun b => Value.int .u8 ((UInt8.ofNat b).toNat : Int)).take k).toArray := by
  rw [str_slice]
  simp [bstr, List.map_take, Function.comp_def]
/-- The cells that a source has: all of them, and the first of them. -/
theorem src_sound (m : Mem C ρ w0 K ψ h w) {es n : Nat} {x : A} {l : List A} {v : Value} (hv : VR ρ ψ x v) (hs : srcCells h es x = some l) (hn : lenA x = some n) :
    ∃ us : List Value, VRs ρ ψ l us ∧ l.all A.one = true ∧ us.length = n * es ∧ Builtin.lenOf v = pure n ∧ ∀ (w1 : World) k, w1.heap = w.heap → k ≤ n → (Builtin.firstCells es k v).run C.P w1 = .ok (us.take (k * es)).toArray w1 := by
  unfold srcCells at hs
  split at hs
  · rename_i len _ _
    obtain ⟨rfl, rfl⟩ := hv
    cases hs; cases hn
    exact ⟨[], VRs.nil, rfl, by simp, rfl, fun w1 k _ hk => by simp [Builtin.firstCells]⟩
  · obtain ⟨p, c, rfl⟩ := hv
    cases hs; cases hn
    refine ⟨[], VRs.nil, rfl, by simp, rfl, fun w1 k _ hk => ?_⟩
    obtain rfl := Nat.le_zero.1 hk
    have := run_firstCells_some (P := C.P) w1 es 0 p 0 c [] (by simp) (fun j u hj => by simp at hj)
    simpa using this
  · rename_i i o es' len _ _
    obtain ⟨B, c, hB, rfl, _⟩ := hv
    cases hn
    cases hb : Nat.beq es es' with
    | false => rw [hb] at hs; cases hs
    | true =>
      rw [hb, cond_true] at hs
      split at hs
      · rename_i e ro k t hi
        obtain ⟨B', arr, fr, h1, h2, h3, h4, h5, h6⟩ := m.cells hi
        rw [hB] at h1; cases h1
        obtain ⟨us, k1, k2, k3, k4⟩ := loadN_rel h6 hs
        refine ⟨us, k1, k2, k3, rfl, fun w1 k hw hk => ?_⟩
        have hle : k * es ≤ n * es := Nat.mul_le_mul_right _ hk
        have hlen : (us.take (k * es)).length = k * es := by rw [List.length_take, k3]; omega
        exact run_firstCells_some (P := C.P) w1 es k _ n c _ hlen (fun j u hj => by
          rw [add_eq]
          refine cell_of (by rw [hw]; exact h2) (k4 j u ?_)
          rw [List.getElem?_take] at hj
          split at hj
          · exact hj
          · cases hj)
      · cases hs
  · rename_i s
    have e : v = .string (bstr s) := hv
    subst e
    cases hn
    cases hb : Nat.beq es 1 with
    | false => rw [hb] at hs; cases hs
    | true =>
      rw [hb, cond_true] at hs; cases hs
      have := Nat.eq_of_beq_eq_true hb
      subst this
      refine ⟨_, bytes_rel s, bytes_one s, by simp, by simp [Builtin.lenOf, bstr, ByteArray.size], fun w1 k _ hk => ?_⟩
      simp only [Builtin.firstCells, Nat.mul_one]
      rw [byte_vals]; rfl
  · cases hs
theorem run_askRoom (P : Program) (w : World) (n : Nat) : (askRoom n).run P w = .ok () w := by
  unfold askRoom; split <;> simp [mark, Sem.run]
section
variable {P : Program} {ats : Array TypeId} {ty t e : TypeId} {sLen sCap es n : Nat} {vy : Value} {i : TypeInfo}
/-- Is the second argument's type no whole number's? -/
def NoLen (P : Program) (ats : Array TypeId) : Prop := ∀ u, ats[1]? = some u → P.underlying u = some .string ∨ ∃ e, P.underlying u = some (.slice e)
set_option maxHeartbeats 1000000 in
theorem run_append_here {w w' : World} {base : Option Addr} {new : List Value} (h0 : ats[0]? = some t) (hz : NoLen P ats) (hu : P.underlying t = some (.slice e)) (hi : P.info? e = some i)
    (hn : Builtin.lenOf vy = pure n) (hnew : (Builtin.firstCells i.size n vy).run P w = .ok new.toArray w) (hle : sLen + n ≤ sCap)
    (hst : (match base with | some a => storeCells (a.add (sLen * i.size)) new | none => pure () : Sem Unit).run P w = .ok () w') :
    (Builtin.append_ ats ty #[.slice base sLen sCap, vy]).run P w = .ok (.slice base (sLen + n) sCap) w' := by
  cases base with
  | none =>
    simp only at hst
    have e : w = w' := by simpa using hst
    subst e
    cases hx : ats[1]? with
    | none => simp [Builtin.append_, h0, hx, run_underlying hu, sizeOf, typeInfo, hi, hn, hnew, hle]
    | some u =>
      rcases hz u hx with hd | ⟨_, hd⟩ <;> simp [Builtin.append_, h0, hx, run_underlying hu, run_underlying hd, sizeOf, typeInfo, hi, hn, hnew, hle]
  | some a =>
    simp only at hst
    cases hx : ats[1]? with
    | none => simp [Builtin.append_, h0, hx, run_underlying hu, sizeOf, typeInfo, hi, hn, hnew, hle, hst]
    | some u =>
      rcases hz u hx with hd | ⟨_, hd⟩ <;> simp [Builtin.append_, h0, hx, run_underlying hu, run_underlying hd, sizeOf, typeInfo, hi, hn, hnew, hle, hst]
set_option maxHeartbeats 1000000 in
theorem run_append_more {w : World} {base : Option Addr} {new old : List Value} {z : Value} (h0 : ats[0]? = some t) (hz : NoLen P ats) (hu : P.underlying t = some (.slice e)) (hi : P.info? e = some i) (hzv : i.zero = some z)
    (hn : Builtin.lenOf vy = pure n) (hnew : ∀ w1 : World, w1.heap = w.heap → (Builtin.firstCells i.size n vy).run P w1 = .ok new.toArray w1) (hle : sCap < sLen + n)
    (hold : ∀ w1 : World, w1.heap = w.heap → (Builtin.firstCells i.size sLen (.slice base sLen sCap)).run P w1 = .ok old.toArray w1) (hsz : (sLen + n) * (i.bytes + 1) ≤ 1000000000) :
    ∃ c w', (Builtin.append_ ats ty #[.slice base sLen sCap, vy]).run P w = .ok (.slice (some ⟨w.heap.size, 0, none⟩) (sLen + n) (sLen + n + c)) w' ∧ Push w (.cells (old ++ new ++ (Builtin.zeroCells z.cells c).toList).toArray e) w' := by
  have h1 : ¬ (sLen + n ≤ sCap) := by omega
  have hb : (sLen + n) ≤ 1000000000 := Nat.le_trans (Nat.le_mul_of_pos_right _ (Nat.succ_pos _)) hsz
  have h2 : ¬ (9223372036854775807 < ((sLen : Int) + (n : Int))) := by omega
  have h3 : ¬ (281474976710656 < Builtin.nextslicecap (sLen + n) sCap * i.bytes) := by
    have := nextslicecap_le hle
    have h4 : Builtin.nextslicecap (sLen + n) sCap * i.bytes ≤ 2 * (sLen + n) * i.bytes := Nat.mul_le_mul_right _ this
    have h5 : (sLen + n) * i.bytes ≤ 1000000000 := Nat.le_trans (Nat.mul_le_mul_left _ (Nat.le_succ _)) hsz
    rw [Nat.mul_assoc] at h4
    omega
  have hg : sLen + n + (grownCap w (sLen + n) sCap e - (sLen + n)) = grownCap w (sLen + n) sCap e := by have := grownCap_ge w (sLen + n) sCap e; omega
  refine ⟨grownCap w (sLen + n) sCap e - (sLen + n), w.drew.alloc (.cells (old.toArray ++ (new.toArray ++ Builtin.zeroCells z.cells (grownCap w (sLen + n) sCap e - (sLen + n)))) e), ?_, rfl, rfl, rfl, ?_⟩
  · rw [hg]
    have hf := hnew w.drew rfl
    have hfo := hold w.drew rfl
    cases hx : ats[1]? with
    | none => simp [Builtin.append_, h0, hx, run_underlying hu, sizeOf, typeInfo, zeroValue, hi, hzv, hn, h1, h2, h3, Question.forced, hf, hfo, run_askRoom, Go.newRow, grownCap]
    | some u =>
      rcases hz u hx with hd | ⟨_, hd⟩ <;> simp [Builtin.append_, h0, hx, run_underlying hu, run_underlying hd, sizeOf, typeInfo, zeroValue, hi, hzv, hn, h1, h2, h3, Question.forced, hf, hfo, run_askRoom, Go.newRow, grownCap]
  · show w.heap.push (.cells _ e) = w.heap.push (.cells _ e)
    congr 2
    simp
end

theorem zeroCells_len (z : Array Value) (n : Nat) : (Builtin.zeroCells z n).toList.length = n * z.size := by simp [Builtin.zeroCells]
/-- A grown row. -/
theorem grown_sound (m : Mem C ρ w0 K ψ h w) {e es need : Nat} (hex : e ≠ C.ex) {l : List A} {us rest : List Value} {c : Nat} (hu : VRs ρ ψ l us) (hlen : us.length = need * es) (hr : rest.length = c * es) {a : A} {h' : Hp} (hn : grown h e es need l = some (a, h')) {w' : World} {lo hi : Nat} (hfr : hi ≤ lo ∨ need * es + c * es ≤ lo)
    (p : Push w (.cells (us ++ rest).toArray e (lo, hi)) w') : ∃ ψ', ψ.le ψ' ∧ Mem C ρ w0 K ψ' h' w' ∧ VR ρ ψ' a (.slice (some ⟨w.heap.size, 0, none⟩) need (need + c)) := by
  unfold grown at hn
  obtain ⟨h1, hn, he⟩ := Option.map_eq_some_iff.1 hn
  cases he
  unfold newRow at hn
  cases hc : l.all A.one with
  | false => rw [hc] at hn; cases hn
  | true =>
    rw [hc] at hn
    simp only [cond_true, Option.some.injEq] at hn
    subst hn
    have hle : ψ.le (ψ.with h.nx ⟨w.heap.size, 0, need * es + c * es⟩) := Psi.with_le (m.fresh _ (Nat.le_refl _))
    have hl := hu.len
    have := m.new p (need * es + c * es) (o := .cells e false l.length (T.ofList l 0 .e)) (fun e' ro k t hx he => by cases hx; exact absurd he hex) ⟨_, _, rfl, by simp; omega, fun _ => hfr, by simp; omega, fun j a hj => by
      rcases T.get_ofList hj with ⟨_, s2⟩ | ⟨_, s2⟩
      · obtain ⟨v, v1, v2⟩ := hu.get s2
        have hj' : j < l.length := (List.getElem?_eq_some_iff.1 s2).1
        refine ⟨(List.all_eq_true.1 hc) a (List.mem_of_getElem? s2), ⟨v, ?_, VR.mono hle _ _ v2⟩, hj'⟩
        simp only [Nat.zero_add, List.getElem?_toArray]
        rw [List.getElem?_append_left (by omega)]
        exact v1
      · rw [T.get_e] at s2; cases s2⟩
    refine ⟨_, this.1, this.2, ⟨_, need + c, Psi.with_at _ _ _, rfl, by omega, ?_, by omega, fun hx => by cases hx⟩⟩
    simp only [Nat.zero_add]
    rw [Nat.add_mul]; exact Nat.le_refl _
theorem appHere_sound (m : Mem C ρ w0 K ψ h w) {i o es need len cap : Nat} {ex : Bool} {new : List A} {us : List Value} (hu : VRs ρ ψ new us) {a : A} {h' : Hp} {B : Blk} {c : Nat} (hB : ψ i = some B) (g2 : B.base + o + c * es ≤ B.sz) (g3 : cap ≤ c) (g4 : ex = true → c = cap) (hle : need ≤ cap)
    (ha : appHere C h i o es need len cap ex new = some (a, h')) :
    ∃ w', (storeCells ((⟨B.b, B.base + o, none⟩ : Addr).add (len * es)) us).run C.P w = .ok () w' ∧ Mem C ρ w0 K ψ h' w' ∧ VR ρ ψ a (.slice (some ⟨B.b, B.base + o, none⟩) need c) := by
  unfold appHere at ha
  obtain ⟨h1, hp, he⟩ := Option.map_eq_some_iff.1 ha
  cases he
  obtain ⟨w', k1, k2⟩ := putAt_sound m hp hu hB
  refine ⟨w', ?_, k2, ⟨B, c, hB, rfl, by omega, g2, g3, g4⟩⟩
  rw [add_eq, Nat.add_assoc]
  exact k1
theorem info_of (k : C.Ok ρ) {e es bt : Nat} {z : A} (h1 : szOf C e = some es) (h2 : bytesT C e = some bt) (h3 : zeroOf C e = some z) : ∃ i v, C.P.info? e = some i ∧ i.size = es ∧ i.bytes = bt ∧ i.zero = some v ∧ VR ρ ψ z v := by
  unfold szOf at h1; unfold bytesT at h2; unfold zeroOf at h3
  cases hi : C.ty.get e with
  | none => rw [hi] at h1; cases h1
  | some i =>
    rw [hi] at h1 h2 h3
    cases h1; cases h2
    obtain ⟨k1, k2, k3, k4⟩ := ti_of (k := k) hi
    simp only at h3
    rw [k4] at h3
    obtain ⟨v, hv, hz⟩ := Option.bind_eq_some_iff.1 h3
    exact ⟨i.info, v, k1, rfl, rfl, hv, ofV_rel hz⟩
/-! a slice whose length is not known, appended -/
def ysOf (ρ : Nat → Int) (k : IntKind) (j q : Nat) : List Value := (List.range q).map fun p => Value.int k (ρ (j + 1 + p))
theorem ysOf_len (k : IntKind) (j q : Nat) : (ysOf ρ k j q).length = q := by simp [ysOf]
theorem ysOf_get {k : IntKind} {j q p : Nat} (h : p < q) : (ysOf ρ k j q)[p]? = some (.int k (ρ (j + 1 + p))) := by simp [ysOf, h]
theorem ysOf_one {k : IntKind} {j q : Nat} : ∀ v ∈ ysOf ρ k j q, v.oneCell' = true := by
  intro v hv
  obtain ⟨p, _, rfl⟩ := List.mem_map.1 hv
  rfl
theorem ySrc_sound (m : Mem C ρ w0 K ψ h w) {i o c j : Nat} {l : List A} {k : IntKind} {v : Value} (hv : VR ρ ψ (.yl i o 1 c j) v) (hs : yCells h i o c j = some (l, k)) :
    ∃ (us : List Value) (q : Nat), ρ j = ((q : Nat) : Int) ∧ VRs ρ ψ l us ∧ us.length = c ∧ Builtin.lenOf v = pure (c + q) ∧ ∀ (w1 : World), w1.heap = w.heap → (Builtin.firstCells 1 (c + q) v).run C.P w1 = .ok (us ++ ysOf ρ k j q).toArray w1 := by
  obtain ⟨B, q, cp, hB, hq, hlt, rfl, hck, hsz⟩ := hv
  unfold yCells at hs
  split at hs
  case h_2 => cases hs
  rename_i e ro n t k' j' hi
  cases hb : (Nat.beq j j' && Nat.beq (o + c) n) with
  | false => rw [hb] at hs; cases hs
  | true =>
    rw [hb, cond_true] at hs
    simp only [Bool.and_eq_true] at hb
    obtain rfl := Nat.eq_of_beq_eq_true hb.1
    obtain rfl := Nat.eq_of_beq_eq_true hb.2
    obtain ⟨l', hl, he⟩ := Option.map_eq_some_iff.1 hs
    cases he
    obtain ⟨B', arr, e', fr, q', h1, h2, h3, h4, h5, h6, h7, h8⟩ := m.yb hi
    rw [hB] at h1; cases h1
    have hqq : q' = q := by rw [hq] at h6; omega
    subst hqq
    obtain ⟨us, k1, k2, k3, k4⟩ := loadN_rel h7 hl
    refine ⟨us, q', hq, k1, k3, rfl, fun w1 hw => ?_⟩
    refine run_firstCells_some (P := C.P) w1 1 (c + q') _ _ _ _ (by rw [List.length_append, k3, ysOf_len]; omega) fun p u hp => ?_
    rw [add_eq]
    refine cell_of (by rw [hw]; exact h2) ?_
    rcases Nat.lt_or_ge p c with hpc | hpc
    · rw [List.getElem?_append_left (by omega)] at hp
      exact k4 p u hp
    · rw [List.getElem?_append_right (by omega), k3] at hp
      have hlt2 : p - c < q' := by have := (List.getElem?_eq_some_iff.1 hp).1; rw [ysOf_len] at this; exact this
      rw [ysOf_get hlt2] at hp
      cases hp
      have := h8 (p - c) hlt2
      rw [show B.base + (o + c) + (p - c) = B.base + o + p by omega] at this
      exact this
theorem newY_sound (m : Mem C ρ w0 K ψ h w) {e : TypeId} {l : List A} {us rest : List Value} {k : IntKind} {j q : Nat} (hq : ρ j = ((q : Nat) : Int)) (hlt : l.length + q < 9223372036854775808) (hu : VRs ρ ψ l us) {a : A} {h' : Hp} (hn : newY h e l k j = some (a, h')) {w' : World} {lo hi : Nat} (hfr : hi ≤ lo ∨ us.length + q + rest.length ≤ lo)
    (p : Push w (.cells (us ++ ysOf ρ k j q ++ rest).toArray e (lo, hi)) w') : ∃ ψ', ψ.le ψ' ∧ Mem C ρ w0 K ψ' h' w' ∧ VR ρ ψ' a (.slice (some ⟨w.heap.size, 0, none⟩) (l.length + q) (l.length + q + rest.length)) := by
  unfold newY at hn
  cases hc : l.all A.one with
  | false => rw [hc] at hn; cases hn
  | true =>
    rw [hc] at hn
    simp only [cond_true, Option.some.injEq, Prod.mk.injEq] at hn
    obtain ⟨rfl, rfl⟩ := hn
    have hle : ψ.le (ψ.with h.nx ⟨w.heap.size, 0, us.length + q + rest.length⟩) := Psi.with_le (m.fresh _ (Nat.le_refl _))
    have hl := hu.len
    have hcell : CellsR ρ (ψ.with h.nx ⟨w.heap.size, 0, us.length + q + rest.length⟩) (T.ofList l 0 T.e) (us ++ ysOf ρ k j q ++ rest).toArray 0 l.length := by
      intro p a hp
      rcases T.get_ofList hp with ⟨_, s2⟩ | ⟨_, s2⟩
      · obtain ⟨v, v1, v2⟩ := hu.get s2
        have hp' : p - 0 < l.length := (List.getElem?_eq_some_iff.1 s2).1
        rw [Nat.sub_zero] at v1
        refine ⟨(List.all_eq_true.1 hc) a (List.mem_of_getElem? s2), ⟨v, ?_, VR.mono hle _ _ v2⟩, by omega⟩
        simp only [Nat.zero_add, List.getElem?_toArray]
        rw [List.append_assoc, List.getElem?_append_left (by omega)]
        exact v1
      · rw [T.get_e] at s2; cases s2
    have hint : ∀ p, p < q → (us ++ ysOf ρ k j q ++ rest).toArray[0 + l.length + p]? = some (.int k (ρ (j + 1 + p))) := by
      intro p hp
      simp only [Nat.zero_add, List.getElem?_toArray]
      rw [List.append_assoc, List.getElem?_append_right (by omega), List.getElem?_append_left (by rw [ysOf_len]; omega), show l.length + p - us.length = p by omega]
      exact ysOf_get hp
    have := m.new p (us.length + q + rest.length) (o := .yb e false l.length (T.ofList l 0 .e) k j) (fun e' ro k t hx he => by cases hx) ⟨_, e, _, q, rfl, by simp [ysOf_len]; omega, fun _ => hfr, by simp only; omega, hq, hcell, hint⟩
    refine ⟨_, this.1, this.2, ⟨_, q, l.length + q + rest.length, Psi.with_at _ _ _, hq, hlt, rfl, by omega, by simp only; omega⟩⟩
theorem smallY_ok (F : C.Ok ρ) {j q : Nat} (hq : ρ j = ((q : Nat) : Int)) (h : smallY C j = true) : q ≤ 65536 := by
  unfold smallY at h
  split at h
  · rename_i r hr
    have := factIn_ok F.facts hr
    cases r with
    | true => cases h
    | false =>
      simp only [icmp, SE.ev, hq, Option.some.injEq, decide_eq_false_iff_not] at this
      have h2 : ¬ ((q : Nat) : Int) > ((65536 : Nat) : Int) := this
      omega
  · cases h
theorem appendYIn_sound (m : Mem C ρ w0 K ψ h w) {t ty e : TypeId} {ats : Array TypeId} {x : A} {vx vy : Value} (h0 : ats[0]? = some t) (hz : NoLen C.P ats) (hu' : C.P.underlying t = some (.slice e)) (hex : e ≠ C.ex) {i : TypeInfo} (hi : C.P.info? e = some i) (hs1 : i.size = 1) (hb1 : i.bytes = 1) {zv : Value} (hiz : i.zero = some zv) (hzsz : zv.cells.size = 1)
    {l : List A} {us : List Value} {k : IntKind} {c j q : Nat} (hq : ρ j = ((q : Nat) : Int)) (hsm : q ≤ 65536) (hcm : c ≤ 65536) (u1 : VRs ρ ψ l us) (u3 : us.length = c) (u4 : Builtin.lenOf vy = pure (c + q)) (u5 : ∀ (w1 : World), w1.heap = w.heap → (Builtin.firstCells 1 (c + q) vy).run C.P w1 = .ok (us ++ ysOf ρ k j q).toArray w1)
    (hx : VR ρ ψ x vx) {a : A} {h' : Hp} (ha : appendYIn C h e x l k c j = some (a, h')) : ValSnd C ρ w0 K ψ w (Builtin.append_ ats ty #[vx, vy]) a h' := by
  have hl := u1.len
  unfold appendYIn at ha
  split at ha
  · obtain ⟨rfl, rfl⟩ := hx
    cases hb : (Nat.ble 1 c || belowY C j 0) with
    | false => rw [hb] at ha; cases ha
    | true =>
      rw [hb, cond_true] at ha
      have hpos : 0 < c + q := by
        simp only [Bool.or_eq_true] at hb
        rcases hb with hb | hb
        · have := Nat.le_of_ble_eq_true hb; omega
        · have := belowY_ok m.ok hq hb; omega
      obtain ⟨d, w', k1, k2⟩ := run_append_more (ty := ty) (old := []) (base := none) (sLen := 0) (sCap := 0) (n := c + q) h0 hz hu' hi hiz u4 (new := us ++ ysOf ρ k j q) (fun w1 hw => by rw [hs1]; exact u5 w1 hw) (by omega) (fun w1 hw => by simp [Builtin.firstCells]) (by rw [hb1]; omega)
      obtain ⟨ψ', q1, q2, q3⟩ := newY_sound (q := q) (rest := (Builtin.zeroCells zv.cells d).toList) m hq (by omega) u1 ha (.inl (Nat.le_refl 0)) (by simpa using k2)
      refine ⟨_, w', ψ', k1, q1, q2, ?_⟩
      rw [zeroCells_len, hzsz, Nat.mul_one, show l.length = c by omega] at q3
      rw [Nat.zero_add]
      exact q3
  · rename_i i0 o es len cap ex
    obtain ⟨B, cp, hB, rfl, g1, g2, g3, g4⟩ := hx
    cases hb : (Nat.beq es 1 && Nat.ble len 65536) with
    | false => rw [hb] at ha; cases ha
    | true =>
      rw [hb, cond_true] at ha
      simp only [Bool.and_eq_true] at hb
      obtain rfl := Nat.eq_of_beq_eq_true hb.1
      have hlen := Nat.le_of_ble_eq_true hb.2
      split at ha
      case h_2 => cases ha
      rename_i e' ro n cs hj
      split at ha
      case h_2 => cases ha
      rename_i old hold
      obtain ⟨B', arr, fr, b1, b2, b3, b4, b5, b6⟩ := m.cells hj
      rw [hB] at b1; cases b1
      obtain ⟨uo, o1, o2, o3, o4⟩ := loadN_rel b6 hold
      have hol := o1.len
      have hfirst : ∀ w1 : World, w1.heap = w.heap → (Builtin.firstCells i.size len (.slice (some ⟨B.b, B.base + o, none⟩) len cp)).run C.P w1 = .ok uo.toArray w1 := fun w1 hw => by
        rw [hs1]
        exact run_firstCells_some (P := C.P) w1 1 len _ len cp uo (by omega) (fun p u hp => by rw [add_eq]; exact cell_of (by rw [hw]; exact b2) (o4 p u hp))
      have hnew : ∀ w1 : World, w1.heap = w.heap → (Builtin.firstCells i.size (c + q) vy).run C.P w1 = .ok (us ++ ysOf ρ k j q).toArray w1 := fun w1 hw => by rw [hs1]; exact u5 w1 hw
      have grow : ∀ {h1 : Hp} (m1 : Mem C ρ w0 K ψ h1 w), cp < len + (c + q) → newY h1 e (old ++ l) k j = some (a, h') → ValSnd C ρ w0 K ψ w (Builtin.append_ ats ty #[.slice (some ⟨B.b, B.base + o, none⟩) len cp, vy]) a h' := by
        intro h1 m1 hgt hn
        obtain ⟨d, w', k1, k2⟩ := run_append_more (ty := ty) (old := uo) (sLen := len) (sCap := cp) (n := c + q) (base := some ⟨B.b, B.base + o, none⟩) h0 hz hu' hi hiz u4 (new := us ++ ysOf ρ k j q) hnew hgt hfirst (by rw [hb1]; omega)
        obtain ⟨ψ', q1, q2, q3⟩ := newY_sound (q := q) (us := uo ++ us) (rest := (Builtin.zeroCells zv.cells d).toList) m1 hq (by rw [List.length_append]; omega) (VRs.append o1 u1) hn (.inl (Nat.le_refl 0)) (by simpa [List.append_assoc] using k2)
        refine ⟨_, w', ψ', k1, q1, q2, ?_⟩
        rw [zeroCells_len, hzsz, Nat.mul_one, List.length_append, show old.length + l.length + q = len + (c + q) by omega] at q3
        exact q3
      cases ex with
      | true =>
        rw [cond_true] at ha
        obtain rfl := g4 rfl
        cases hc : (Nat.blt cp (len + c) || (Nat.beq cp (len + c) && belowY C j 0)) with
        | false => rw [hc] at ha; cases ha
        | true =>
          rw [hc, cond_true] at ha
          refine grow m ?_ ha
          simp only [Bool.or_eq_true, Bool.and_eq_true, Nat.blt_eq] at hc
          rcases hc with hc | ⟨hc, hd⟩
          · omega
          · have := belowY_ok m.ok hq hd
            have := Nat.eq_of_beq_eq_true hc
            omega
      | false =>
        rw [cond_false] at ha
        cases hc : (Nat.ble C.G i0 && (!ro && (Nat.beq e e' && (Nat.beq o 0 && Nat.beq n len)))) with
        | false => rw [hc] at ha; cases ha
        | true =>
          rw [hc, cond_true] at ha
          simp only [Bool.and_eq_true, Bool.not_eq_true'] at hc
          obtain ⟨x1, x2, x3, x4, x5⟩ := hc
          have hg := Nat.le_of_ble_eq_true x1
          obtain rfl := Nat.eq_of_beq_eq_true x3
          obtain rfl := Nat.eq_of_beq_eq_true x4
          obtain rfl := Nat.eq_of_beq_eq_true x5
          rcases Nat.lt_or_ge cp (n + (c + q)) with hcn | hcn
          · exact grow (m.forget i0) hcn ha
          · -- in the row
            unfold newY at ha
            cases hone : (old ++ l).all A.one with
            | false => rw [hone] at ha; cases ha
            | true =>
              rw [hone] at ha
              simp only [cond_true, Option.some.injEq, Prod.mk.injEq] at ha
              obtain ⟨rfl, rfl⟩ := ha
              have hlall : l.all A.one = true := by
                rw [List.all_append, Bool.and_eq_true] at hone; exact hone.2
              obtain ⟨arr', w', k1, k2, k3, k4⟩ := run_storeCells (P := C.P) (b := B.b) (off := B.base + 0 + n * 1) (us ++ ysOf ρ k j q) 0 w arr b2 (by rw [b3]; exact b4 x2) (by rw [List.length_append, ysOf_len]; omega) (fun v hv => by
                rcases List.mem_append.1 hv with hv | hv
                · exact u1.oneCell hlall v hv
                · exact ysOf_one v hv)
              have hle' : ψ.le (ψ.with h.nx ⟨B.b, B.base + 0, B.sz⟩) := Psi.with_le (m.fresh _ (Nat.le_refl _))
              have hcell : CellsR ρ (ψ.with h.nx ⟨B.b, B.base + 0, B.sz⟩) (T.ofList (old ++ l) 0 T.e) arr' (B.base + 0) (old ++ l).length := by
                intro p a hp
                rcases T.get_ofList hp with ⟨_, s2⟩ | ⟨_, s2⟩
                · have hlt := (List.getElem?_eq_some_iff.1 s2).1
                  rw [Nat.sub_zero] at s2 hlt
                  refine ⟨(List.all_eq_true.1 hone) a (List.mem_of_getElem? s2), ?_, hlt⟩
                  rw [List.length_append] at hlt
                  rcases Nat.lt_or_ge p old.length with hpl | hpl
                  · rw [List.getElem?_append_left hpl] at s2
                    obtain ⟨v, v1, v2⟩ := o1.get s2
                    refine ⟨v, ?_, VR.mono hle' _ _ v2⟩
                    have := o4 p v v1
                    rw [k4, if_neg (by omega)]
                    exact this
                  · rw [List.getElem?_append_right hpl] at s2
                    obtain ⟨v, v1, v2⟩ := u1.get s2
                    have hvl := (List.getElem?_eq_some_iff.1 v1).1
                    refine ⟨v, ?_, VR.mono hle' _ _ v2⟩
                    rw [k4, if_pos (by rw [List.length_append, ysOf_len]; omega)]
                    rw [show B.base + 0 + p - (B.base + 0 + n * 1 + 0) = p - old.length by omega, List.getElem?_append_left (by omega)]
                    exact v1
                · rw [T.get_e] at s2; cases s2
              have hint : ∀ p, p < q → arr'[B.base + 0 + (old ++ l).length + p]? = some (.int k (ρ (j + 1 + p))) := by
                intro p hp
                rw [List.length_append, k4, if_pos (by rw [List.length_append, ysOf_len]; omega)]
                rw [show B.base + 0 + (old.length + l.length) + p - (B.base + 0 + n * 1 + 0) = us.length + p by omega, List.getElem?_append_right (by omega), show us.length + p - us.length = p by omega]
                exact ysOf_get hp
              have mm := m.moved (B' := ⟨B.b, B.base + 0, B.sz⟩) (o := .yb e false (old ++ l).length (T.ofList (old ++ l) 0 .e) k j) hj hg hB k2 rfl (fun e' ro k t hx he => by cases hx) ⟨arr', e, fr, q, rfl, by show arr'.size = B.sz; omega, fun _ => b4 x2, by simp only [List.length_append]; omega, hq, hcell, hint⟩
              refine ⟨_, w', _, run_append_here (n := c + q) (new := us ++ ysOf ρ k j q) h0 hz hu' hi u4 (hnew w rfl) hcn (by rw [hs1]; simp only [add_eq]; exact k1), mm.1, mm.2, ?_⟩
              refine ⟨_, q, cp, by rw [Hp.nx_drop]; exact Psi.with_at _ _ _, hq, by rw [List.length_append]; omega, ?_, by rw [List.length_append]; omega, by simp only; omega⟩
              rw [List.length_append, show old.length + l.length + q = n + (c + q) by omega]
              rfl
  · cases ha
theorem appendY_sound (m : Mem C ρ w0 K ψ h w) {t ty : TypeId} {ats : Array TypeId} {x : A} {i o es c j : Nat} {vx vy : Value} (hx : VR ρ ψ x vx) (hy : VR ρ ψ (.yl i o es c j) vy) (h0 : ats[0]? = some t) (hz : NoLen C.P ats) {a : A} {h' : Hp} (ha : appendY C h t x i o es c j = some (a, h')) :
    ValSnd C ρ w0 K ψ w (Builtin.append_ ats ty #[vx, vy]) a h' := by
  unfold appendY at ha
  split at ha
  case h_2 => cases ha
  rename_i e hu
  split at ha
  case h_2 => cases ha
  rename_i es' bt z l k hes hbt hzv hyc
  cases hc : (Nat.beq es 1 && (Nat.beq es' 1 && (Nat.beq bt 1 && (lenIs z.cs 1 && (!Nat.beq e C.ex && (smallY C j && Nat.ble c 65536)))))) with
  | false => rw [hc] at ha; cases ha
  | true =>
    rw [hc, cond_true] at ha
    simp only [Bool.and_eq_true] at hc
    obtain ⟨c1, c2, c3, c4, c5, c6, c7⟩ := hc
    have hex : e ≠ C.ex := fun hx => by rw [hx, Nat.beq_refl] at c5; cases c5
    obtain rfl := Nat.eq_of_beq_eq_true c1
    obtain ⟨i', zv, hi, hsz, hbb, hiz, hzr⟩ := info_of (ψ := ψ) m.ok hes hbt hzv
    obtain ⟨uz, z1, z2⟩ := hzr.cells
    have hzsz : zv.cells.size = 1 := by rw [z1]; simp [z2.len, lenIs_eq c4]
    obtain ⟨us, q, hq, u1, u3, u4, u5⟩ := ySrc_sound m hy hyc
    exact appendYIn_sound m h0 hz (und_ok m.ok hu) hex hi (hsz.trans (Nat.eq_of_beq_eq_true c2)) (hbb.trans (Nat.eq_of_beq_eq_true c3)) hiz hzsz hq (smallY_ok m.ok hq c6) (Nat.le_of_ble_eq_true c7) u1 u3 u4 u5 hx ha
theorem append_sound (m : Mem C ρ w0 K ψ h w) {t ty : TypeId} {ats : Array TypeId} {x y : A} {vx vy : Value} (hx : VR ρ ψ x vx) (hy : VR ρ ψ y vy) (h0 : ats[0]? = some t) (hz : NoLen C.P ats) {a : A} {h' : Hp} (ha : append C h t x y = some (a, h')) :
    ValSnd C ρ w0 K ψ w (Builtin.append_ ats ty #[vx, vy]) a h' := by
  unfold append at ha
  split at ha
  · exact appendY_sound m hx hy h0 hz ha
  rename_i hny
  clear hny
  unfold append0 at ha
  split at ha
  · rename_i e hu
    have hu' := und_ok m.ok hu
    split at ha
    · rename_i es bt b len cap ex n z hes hbt hn hzv
      cases hc : (!Nat.beq e C.ex && appSize es bt len n && lenIs z.cs es) with
      | false => rw [hc] at ha; cases ha
      | true =>
        rw [hc, cond_true] at ha
        simp only [Bool.and_eq_true] at hc
        obtain ⟨⟨hexb, hsz⟩, hzl⟩ := hc
        have hex : e ≠ C.ex := fun hx => by rw [hx, Nat.beq_refl] at hexb; cases hexb
        unfold appSize at hsz
        simp only [Bool.and_eq_true] at hsz
        have hes1 := Nat.le_of_ble_eq_true hsz.1
        have hsz2 := Nat.le_of_ble_eq_true hsz.2
        split at ha
        · rename_i new hnew
          obtain ⟨us, u1, u2, u3, u4, u5⟩ := src_sound m hy hnew hn
          obtain ⟨i, zv, hi, rfl, rfl, hiz, hzr⟩ := info_of (ψ := ψ) m.ok hes hbt hzv
          obtain ⟨uz, z1, z2⟩ := hzr.cells
          have hzsz : zv.cells.size = i.size := by rw [z1]; simp [z2.len, lenIs_eq hzl]
          have hall : us.take (n * i.size) = us := List.take_of_length_le (by omega)
          have hnew' : ∀ w1 : World, w1.heap = w.heap → (Builtin.firstCells i.size n vy).run C.P w1 = .ok us.toArray w1 := fun w1 hw => by rw [u5 w1 n hw (Nat.le_refl _), hall]
          unfold appendTo at ha
          split at ha
          · obtain ⟨rfl, rfl⟩ := hx
            cases hb : Nat.beq n 0 with
            | true =>
              rw [hb, cond_true] at ha; cases ha
              obtain rfl := Nat.eq_of_beq_eq_true hb
              refine ValSnd.pure m ⟨.slice none 0 0, ?_, ⟨rfl, rfl⟩⟩
              exact run_append_here (n := 0) (sLen := 0) h0 hz hu' hi u4 (hnew' w rfl) (Nat.le_refl _) (by simp)
            | false =>
              rw [hb, cond_false] at ha
              have hn0 := Nat.ne_of_beq_eq_false hb
              obtain ⟨c, w', k1, k2⟩ := run_append_more (ty := ty) (old := []) (base := none) (sLen := 0) (sCap := 0) h0 hz hu' hi hiz u4 hnew' (by omega) (fun w1 hw => by simp [Builtin.firstCells]) hsz2
              obtain ⟨ψ', q1, q2, q3⟩ := grown_sound (c := c) m hex (need := 0 + n) u1 (by rw [Nat.zero_add]; exact u3) (by rw [zeroCells_len, hzsz]) ha (.inl (Nat.le_refl 0)) (by simpa using k2)
              exact ⟨_, w', ψ', k1, q1, q2, q3⟩
          · rename_i j o es'
            obtain ⟨B, c, hB, rfl, g1, g2, g3, g4⟩ := hx
            cases hb : Nat.beq i.size es' with
            | false => rw [hb] at ha; cases ha
            | true =>
              rw [hb, cond_true] at ha
              obtain rfl := Nat.eq_of_beq_eq_true hb
              split at ha
              · rename_i e' ro k cs hj
                unfold appRow at ha
                cases hle : Nat.ble (len + n) cap with
                | true =>
                  rw [hle, cond_true] at ha
                  have hle' := Nat.le_of_ble_eq_true hle
                  obtain ⟨w', k1, k2, k3⟩ := appHere_sound m u1 hB g2 g3 g4 hle' ha
                  exact ⟨_, w', ψ, run_append_here (n := n) h0 hz hu' hi u4 (hnew' w rfl) (by omega) (by simpa using k1), Psi.le.refl ψ, k2, k3⟩
                | false =>
                  rw [hle, cond_false] at ha
                  have hgt : cap < len + n := by
                    rcases Nat.lt_or_ge cap (len + n) with h | h
                    · exact h
                    · rw [Nat.ble_eq_true_of_le h] at hle; cases hle
                  obtain ⟨B', arr, fr, b1, b2, b3, b4, b5, b6⟩ := m.cells hj
                  rw [hB] at b1; cases b1
                  cases ex with
                  | true =>
                    rw [cond_true] at ha
                    obtain rfl := g4 rfl
                    unfold appGrow at ha
                    split at ha
                    · rename_i old hold
                      obtain ⟨uo, o1, o2, o3, o4⟩ := loadN_rel b6 hold
                      obtain ⟨d, w', k1, k2⟩ := run_append_more (ty := ty) (old := uo) (sLen := len) (sCap := c) (base := some ⟨B.b, B.base + o, none⟩) h0 hz hu' hi hiz u4 hnew' hgt (fun w1 hw =>
                        run_firstCells_some (P := C.P) w1 i.size len _ len c uo o3 (fun j u hj => by rw [add_eq]; exact cell_of (by rw [hw]; exact b2) (o4 j u hj))) hsz2
                      obtain ⟨ψ', q1, q2, q3⟩ := grown_sound (c := d) m hex (VRs.append o1 u1) (by rw [List.length_append, o3, u3, Nat.add_mul]) (by rw [zeroCells_len, hzsz]) ha (.inl (Nat.le_refl 0)) (by simpa using k2)
                      exact ⟨_, w', ψ', k1, q1, q2, q3⟩
                    · cases ha
                  | false =>
                    rw [cond_false] at ha
                    unfold appMove at ha
                    cases hx : (Nat.ble C.G j && (!ro && (Nat.beq e e' && (Nat.beq o 0 && (Nat.beq k (len * i.size) && new.all A.one))))) with
                    | false => rw [hx] at ha; cases ha
                    | true =>
                      rw [hx, cond_true] at ha
                      simp only [Bool.and_eq_true, Bool.not_eq_true'] at hx
                      obtain ⟨x1, x2, x3, x4, x5, x6⟩ := hx
                      have hg := Nat.le_of_ble_eq_true x1
                      obtain rfl := Nat.eq_of_beq_eq_true x3
                      obtain rfl := Nat.eq_of_beq_eq_true x4
                      obtain rfl := Nat.eq_of_beq_eq_true x5
                      cases ha
                      have hnl := u1.len
                      rcases Nat.lt_or_ge c (len + n) with hcn | hcn
                      · -- a new row
                        have hb2 : B.base + len * i.size ≤ B.sz := by
                          have : len * i.size ≤ c * i.size := Nat.mul_le_mul_right _ g1
                          omega
                        have hold : ∀ q, q < len * i.size → ((arr.toList.drop B.base).take (len * i.size))[q]? = arr[B.base + q]? := fun q hq => by
                          rw [List.getElem?_take_of_lt hq, List.getElem?_drop]; simp
                        have holen : ((arr.toList.drop B.base).take (len * i.size)).length = len * i.size := by simp; omega
                        obtain ⟨d, w', k1, k2⟩ := run_append_more (ty := ty) (old := (arr.toList.drop B.base).take (len * i.size)) (sLen := len) (sCap := c) (base := some ⟨B.b, B.base + 0, none⟩) h0 hz hu' hi hiz u4 hnew' hcn (fun w1 hw =>
                          run_firstCells_some (P := C.P) w1 i.size len _ len c _ holen (fun q u hq => by
                            rw [add_eq]
                            have hq' : q < len * i.size := by have := (List.getElem?_eq_some_iff.1 hq).1; omega
                            rw [hold q hq'] at hq
                            exact cell_of (by rw [hw]; exact b2) hq)) hsz2
                        have mf := m.forget j
                        have hnx := Hp.nx_drop h j
                        have hle' : ψ.le (ψ.with (h.drop j).nx ⟨w.heap.size, 0, len * i.size + n * i.size + d * i.size⟩) := Psi.with_le (mf.fresh _ (Nat.le_refl _))
                        have mn := mf.new k2 (len * i.size + n * i.size + d * i.size) (o := .cells e false (len * i.size + new.length) (storeN new cs (len * i.size))) (fun e' ro k t hx he => by cases hx; exact absurd he hex) ⟨_, _, rfl, by
                            have := zeroCells_len zv.cells d
                            rw [hzsz] at this
                            simp only [List.size_toArray, List.length_append, holen, u3, this], fun _ => .inl (Nat.le_refl 0), by simp only [Nat.zero_add]; omega, fun q a hq => by
                          rcases storeN_get hq with ⟨s1, s2⟩ | ⟨s1, s2⟩
                          · have hlt := (List.getElem?_eq_some_iff.1 s2).1
                            obtain ⟨v, v1, v2⟩ := u1.get s2
                            refine ⟨(List.all_eq_true.1 x6) a (List.mem_of_getElem? s2), ⟨v, ?_, VR.mono hle' _ _ v2⟩, by omega⟩
                            simp only [Nat.zero_add, List.getElem?_toArray]
                            rw [List.append_assoc, List.getElem?_append_right (by omega), holen, List.getElem?_append_left (by omega)]
                            exact v1
                          · obtain ⟨q1, ⟨v, q2, q3⟩, q4⟩ := b6 q a s2
                            refine ⟨q1, ⟨v, ?_, VR.mono hle' _ _ q3⟩, by omega⟩
                            simp only [Nat.zero_add, List.getElem?_toArray]
                            rw [List.append_assoc, List.getElem?_append_left (by omega), hold q q4]
                            exact q2⟩
                        refine ⟨_, w', _, k1, mn.1, mn.2, ⟨_, len + n + d, by rw [← hnx]; exact Psi.with_at _ _ _, rfl, by omega, ?_, by omega, fun hx => by cases hx⟩⟩
                        simp only [Nat.zero_add]
                        rw [Nat.add_mul, Nat.add_mul]; exact Nat.le_refl _
                      · -- in the row
                        have hcs : (len + n) * i.size ≤ c * i.size := Nat.mul_le_mul_right _ hcn
                        rw [Nat.add_mul] at hcs
                        obtain ⟨arr', w', k1, k2, k3, k4⟩ := run_storeCells (P := C.P) (b := B.b) (off := B.base + 0 + len * i.size) us 0 w arr b2 (by rw [b3]; exact b4 x2) (by omega) (u1.oneCell x6)
                        have hle' : ψ.le (ψ.with h.nx ⟨B.b, B.base + 0, B.sz⟩) := Psi.with_le (m.fresh _ (Nat.le_refl _))
                        have mm := m.moved (B' := ⟨B.b, B.base + 0, B.sz⟩) (o := .cells e false (len * i.size + new.length) (storeN new cs (len * i.size))) hj hg hB k2 rfl (fun e' ro k t hx he => by cases hx; exact hex he) ⟨arr', fr, rfl, by show arr'.size = B.sz; omega, fun _ => b4 x2, by simp only; omega, fun q a hq => by
                          rcases storeN_get hq with ⟨s1, s2⟩ | ⟨s1, s2⟩
                          · have hlt := (List.getElem?_eq_some_iff.1 s2).1
                            obtain ⟨v, v1, v2⟩ := u1.get s2
                            refine ⟨(List.all_eq_true.1 x6) a (List.mem_of_getElem? s2), ⟨v, ?_, VR.mono hle' _ _ v2⟩, by omega⟩
                            rw [k4, if_pos (by simp only; omega)]
                            simp only
                            rw [show B.base + 0 + q - (B.base + 0 + len * i.size + 0) = q - len * i.size by omega]
                            exact v1
                          · obtain ⟨q1, ⟨v, q2, q3⟩, q4⟩ := b6 q a s2
                            exact ⟨q1, ⟨v, by rw [k4, if_neg (by simp only; omega)]; exact q2, VR.mono hle' _ _ q3⟩, by omega⟩⟩
                        refine ⟨_, w', _, run_append_here (n := n) h0 hz hu' hi u4 (hnew' w rfl) hcn (by simp only [add_eq]; exact k1), mm.1, mm.2, ⟨_, c, Psi.with_at _ _ _, rfl, hcn, by simp only; omega, hcn, fun hx => by cases hx⟩⟩
              · cases ha
        · cases ha
    · cases ha
  · cases ha
theorem VRs.all_one {as : List A} (h : as.all A.one = true) (n : Nat) : (as.take n).all A.one = true := by
  rw [List.all_eq_true] at h ⊢
  exact fun x hx => h x (List.mem_of_mem_take hx)
theorem run_copy {P : Program} {w w' : World} {ats : Array TypeId} {ty t e : TypeId} {i : TypeInfo} {base : Option Addr} {dLen dCap n : Nat} {vy : Value} {cells : List Value} (h0 : ats[0]? = some t) (hu : P.underlying t = some (.slice e)) (hi : P.info? e = some i)
    (hn : Builtin.lenOf vy = pure n) (hc : (Builtin.firstCells i.size (Nat.min n dLen) vy).run P w = .ok cells.toArray w) (hst : (match base with | some a => storeCells a cells | none => pure () : Sem Unit).run P w = .ok () w') :
    (Builtin.copy_ ats ty #[.slice base dLen dCap, vy]).run P w = .ok (.int .i64 (Nat.min n dLen : Nat)) w' := by
  cases base with
  | none =>
    simp only at hst
    have e : w = w' := by simpa using hst
    subst e
    simp [Builtin.copy_, h0, run_underlying hu, sizeOf, typeInfo, hi, hn, hc, goInt]
  | some a => simp [Builtin.copy_, h0, run_underlying hu, sizeOf, typeInfo, hi, hn, hc, hst, goInt]
theorem sz_info (k : C.Ok ρ) {e n : Nat} (h1 : szOf C e = some n) : ∃ i, C.P.info? e = some i ∧ i.size = n := by
  unfold szOf at h1
  split at h1
  · rename_i i hi; cases h1; exact ⟨i.info, (ti_of (k := k) hi).1, rfl⟩
  · cases h1
theorem copy_sound (m : Mem C ρ w0 K ψ h w) {t ty : TypeId} {ats : Array TypeId} {x y : A} {vx vy : Value} (hx : VR ρ ψ x vx) (hy : VR ρ ψ y vy) (h0 : ats[0]? = some t) {a : A} {h' : Hp} (ha : copyOp C h t x y = some (a, h')) :
    ValSnd C ρ w0 K ψ w (Builtin.copy_ ats ty #[vx, vy]) a h' := by
  unfold copyOp at ha
  split at ha
  · rename_i e hu
    have hu' := und_ok m.ok hu
    split at ha
    · rename_i es b len _ _ n hes hn
      split at ha
      · rename_i src hsrc
        obtain ⟨us, u1, u2, u3, u4, u5⟩ := src_sound m hy hsrc hn
        obtain ⟨i, hi, rfl⟩ := sz_info m.ok hes
        unfold copyTo at ha
        split at ha
        · cases ha
          obtain ⟨rfl, rfl⟩ := hx
          refine ⟨_, w, ψ, run_copy h0 hu' hi u4 (u5 w _ rfl (Nat.min_le_left _ _)) (by rfl), Psi.le.refl ψ, m, ?_⟩
          show Value.int .i64 _ = .int .i64 _
          rfl
        · rename_i j o es'
          obtain ⟨B, c, hB, rfl, g1, g2, g3, g4⟩ := hx
          cases hb : Nat.beq i.size es' with
          | false => rw [hb] at ha; cases ha
          | true =>
            rw [hb, cond_true] at ha
            obtain rfl := Nat.eq_of_beq_eq_true hb
            obtain ⟨h1, hp, he⟩ := Option.map_eq_some_iff.1 ha
            cases he
            obtain ⟨w', k1, k2⟩ := putAt_sound m hp (VRs.take (Nat.min n len * i.size) u1) hB
            refine ⟨_, w', ψ, run_copy h0 hu' hi u4 (u5 w _ rfl (Nat.min_le_left _ _)) k1, Psi.le.refl ψ, k2, ?_⟩
            show Value.int .i64 _ = .int .i64 _
            rfl
      · cases ha
    · cases ha
  · cases ha
/-! conversions -/
theorem bytesIn_rel : ∀ {cs : List A} {l : List Nat} {us : List Value}, bytesIn cs = some l → VRs ρ ψ cs us → us = (l.map Int.ofNat).map (Value.int .u8)
  | [], l, us, h, hu => by cases h; exact hu
  | a :: cs, l, _, h, ⟨u, us, rfl, h1, h2⟩ => by
    simp only [bytesIn] at h
    split at h
    · rename_i b hb
      obtain ⟨r, hr, rfl⟩ := Option.map_eq_some_iff.1 h
      have := bytesIn_rel hr h2
      subst this
      unfold litB at hb
      split at hb
      · rename_i n
        split at hb
        · rename_i hn
          cases hb
          have e : u = .int .u8 n := h1
          subst e
          simp; omega
        · cases hb
      · cases hb
    · cases h
theorem push_bytes : ∀ (l : List Nat) (s : ByteArray), ((l.map Int.ofNat).foldl (fun r n => r.push (UInt8.ofNat n.toNat)) s) = ⟨s.data ++ (l.map UInt8.ofNat).toArray⟩
  | [], s => by simp
  | b :: l, s => by
    simp only [List.map_cons, List.foldl_cons]
    rw [push_bytes l]
    simp [ByteArray.push]
theorem Push.alloc (w : World) (ob : Obj) : Push w ob (w.drew.alloc ob) := ⟨rfl, rfl, rfl, rfl⟩
theorem lieIn_mem : ∀ {l : List (TypeId × Nat × Nat)} {u o n : Nat}, lieIn l u o n = true → (u, o, n) ∈ l
  | [], _, _, _, h => by cases h
  | x :: l, u, o, n, h => by
    unfold lieIn at h
    rcases Bool.or_eq_true .. ▸ h with h | h
    · simp only [Bool.and_eq_true] at h
      obtain ⟨a, b, c⟩ := x
      have e1 := Nat.eq_of_beq_eq_true h.1
      have e2 := Nat.eq_of_beq_eq_true h.2.1
      have e3 := Nat.eq_of_beq_eq_true h.2.2
      simp only at e1 e2 e3
      subst e1 e2 e3
      exact List.mem_cons_self ..
    · exact List.mem_cons_of_mem _ (lieIn_mem h)
theorem toU_sound (m : Mem C ρ w0 K ψ h w) {s d t : TypeId} (hd : C.P.underlying d = some .unsafePointer) (hs : C.P.underlying s = some (.pointer t)) {x : A} {v : Value} (hv : VR ρ ψ x v) : Snd C ρ w0 K ψ w (do pure (.value (← Go.convert s d v))) (convToU C h t x) := by
  unfold convToU
  split
  · have e : v = .pointer none := hv
    subst e
    exact ⟨.pointer none, w, ψ, by simp [convert, run_underlying hd, run_underlying hs, Conv.unsafePointer], Psi.le.refl ψ, m, rfl⟩
  · rename_i a
    split
    · rename_i e ro n cs hi
      split
      · rename_i k hk
        cases hb : Nat.blt a.2 n with
        | false => trivial
        | true =>
          have hb' : a.2 < n := by simpa [Nat.blt_eq] using hb
          obtain ⟨i, o⟩ := a
          obtain ⟨B, hB, rfl⟩ := hv
          obtain ⟨B', ob, g1, g2, arr, fr, rfl, g3, g4, g5, g6⟩ := m.obj i _ hi
          rw [hB] at g1; cases g1
          have hsh : w.shape? B.b = some (e, arr.size) := by simp [World.shape?, g2]
          have hlt : ¬ (arr.size ≤ B.base + o) := by simp only at hb'; omega
          refine ⟨.pointer (some ⟨B.b, B.base + o, none⟩), w, ψ, ?_, Psi.le.refl ψ, m, ⟨B, hB, rfl⟩⟩
          simp [convert, run_underlying hd, run_underlying hs, Conv.unsafePointer, Conv.seenAt, viewAt, cellsIn, hsh, szOf_run m.ok hk, hlt]
      · trivial
    · trivial
  · trivial
theorem fromU_sound (m : Mem C ρ w0 K ψ h w) {s d u : TypeId} (hd : C.P.underlying d = some (.pointer u)) (hs : C.P.underlying s = some .unsafePointer) {x : A} {v : Value} (hv : VR ρ ψ x v) : Snd C ρ w0 K ψ w (do pure (.value (← Go.convert s d v))) (convFromU C h u x) := by
  unfold convFromU
  split
  · have e : v = .pointer none := hv
    subst e
    exact ⟨.pointer none, w, ψ, by simp [convert, run_underlying hd, run_underlying hs, Conv.unsafePointer], Psi.le.refl ψ, m, rfl⟩
  · rename_i a
    split
    · rename_i e ro n cs hi
      cases hb : ((szOf C u).isSome && (Nat.beq e C.ex && lieIn C.lie u a.2 n)) with
      | false => trivial
      | true =>
        simp only [Bool.and_eq_true] at hb
        obtain ⟨hsz, hb⟩ := hb
        obtain ⟨k, hk⟩ := Option.isSome_iff_exists.1 hsz
        have he := Nat.eq_of_beq_eq_true hb.1
        have hl := m.ok.lie _ (lieIn_mem hb.2)
        obtain ⟨i, o⟩ := a
        obtain ⟨B, hB, rfl⟩ := hv
        obtain ⟨B', ob, g1, g2, arr, fr, rfl, g3, g4, g5, g6⟩ := m.obj i _ hi
        rw [hB] at g1; cases g1
        obtain ⟨x1, x2⟩ := m.ext i e ro n cs B hi hB he
        have hsh : w.shape? B.b = some (C.ex, n) := by simp [World.shape?, g2, he, g3, x2]
        simp only at hl
        refine ⟨.pointer (some ⟨B.b, B.base + o, none⟩), w, ψ, ?_, Psi.le.refl ψ, m, ⟨B, hB, rfl⟩⟩
        rw [x1, Nat.zero_add]
        simp [convert, run_underlying hd, run_underlying hs, Conv.unsafePointer, Conv.seenAt, viewAt, variablesAt, hsh, szOf_run m.ok hk, hl]
    · trivial
  · trivial
theorem conv_sound (m : Mem C ρ w0 K ψ h w) {s d : TypeId} {x : A} {v : Value} (hv : VR ρ ψ x v) : Snd C ρ w0 K ψ w (do pure (.value (← Go.convert s d v))) (xConv C h s d x) := by
  unfold xConv
  split
  · rename_i k ds hd hs
    have hd' := und_ok m.ok hd
    have hs' := und_ok m.ok hs
    unfold convInt
    split
    · rename_i k' n
      have e : v = .int k' n := hv
      subst e
      exact ⟨.int k (k.wrap n), w, ψ, by simp [convert, run_underlying hd', run_underlying hs', Conv.intToInt], Psi.le.refl ψ, m, rfl⟩
    · rename_i k' e
      have e' : v = .int k' (e.ev ρ) := hv
      subst e'
      exact ⟨.int k (k.wrap (e.ev ρ)), w, ψ, by simp [convert, run_underlying hd', run_underlying hs', Conv.intToInt], Psi.le.refl ψ, m, mkY_rel (e := .wrap k e) m.ok⟩
    · trivial
  · rename_i ds hd hs
    have hd' := und_ok m.ok hd
    have hs' := und_ok m.ok hs
    unfold convStr
    split
    · rename_i l
      have e : v = .string (bstr l) := hv
      subst e
      exact ⟨.string (bstr l), w, ψ, by simp [convert, run_underlying hd', run_underlying hs'], Psi.le.refl ψ, m, rfl⟩
    · rename_i b len cap ex
      split
      · rename_i e hse
        have hse' := und_ok m.ok hse
        split
        · rename_i he
          have he' := und_ok m.ok he
          split
          · rename_i cs hcs
            split
            · rename_i l hl
              cases b with
              | none =>
                obtain ⟨rfl, rfl⟩ := hv
                cases hcs; cases hl
                exact ⟨.string .empty, w, ψ, by simp [run_convert_bytes_string w s d e none 0 0 hse' he' hd', Conv.bytesToString], Psi.le.refl ψ, m, rfl⟩
              | some q =>
                obtain ⟨i, o, es'⟩ := q
                obtain ⟨us, u1, u2, u3, u4, u5⟩ := src_sound m hv hcs rfl
                obtain ⟨B, c, hB, rfl, g⟩ := hv
                have := bytesIn_rel hl u1
                subst this
                have hf := u5 w len rfl (Nat.le_refl _)
                rw [List.take_of_length_le (by omega)] at hf
                simp only [Builtin.firstCells, Nat.mul_one] at hf
                have hr := run_bytesToString (P := C.P) w _ len c (l.map Int.ofNat) hf
                rw [push_bytes] at hr
                refine ⟨.string (bstr l), w, ψ, ?_, Psi.le.refl ψ, m, rfl⟩
                simp only [Sem.run_bind, run_convert_bytes_string w s d e _ len c hse' he' hd', hr, Result.andThen_ok, Sem.run_pure]
                congr 3
                apply ByteArray.ext
                simp [bstr]
            · trivial
          · trivial
        · trivial
      · trivial
    · trivial
  · rename_i e hd hs
    have hd' := und_ok m.ok hd
    have hs' := und_ok m.ok hs
    unfold convRow
    split
    · rename_i l
      have e' : v = .string (bstr l) := hv
      subst e'
      split
      · rename_i he
        have he' := und_ok m.ok he
        cases hxb : Nat.beq e C.ex with
        | true => simp only [cond_true]; trivial
        | false =>
        have hex : e ≠ C.ex := fun hx => by rw [hx, Nat.beq_refl] at hxb; cases hxb
        simp only [cond_false]
        cases hg : grown h e 1 l.length (byteCells l) with
        | none => trivial
        | some p =>
          obtain ⟨a, h'⟩ := p
          have hsz : (bstr l).size = l.length := by simp [bstr, ByteArray.size]
          have hge := grownCap_ge w l.length 0 e
          have hr := run_bytes_of_string (P := C.P) w s d e (bstr l) hs' hd' he'
          rw [hsz] at hr
          have hcs : bytesRow (bstr l) (grownCap w l.length 0 e) = ((l.map fun b => Value.int .u8 ((UInt8.ofNat b).toNat : Int)) ++ List.replicate (grownCap w l.length 0 e - l.length) (Value.int .u8 0)).toArray := by
            unfold bytesRow
            rw [hsz]
            simp [bstr, Function.comp_def]
          rw [hcs] at hr
          have hN : ((l.map fun b => Value.int .u8 ((UInt8.ofNat b).toNat : Int)) ++ List.replicate (grownCap w l.length 0 e - l.length) (Value.int .u8 0)).toArray.size = l.length + (grownCap w l.length 0 e - l.length) := by simp
          rw [hN] at hr
          obtain ⟨ψ', q1, q2, q3⟩ := grown_sound (c := grownCap w l.length 0 e - l.length) m hex (need := l.length) (es := 1) (bytes_rel l) (by simp) (by simp) hg (.inr (by omega))
            (Push.alloc w (.cells ((l.map fun b => Value.int .u8 ((UInt8.ofNat b).toNat : Int)) ++ List.replicate (grownCap w l.length 0 e - l.length) (Value.int .u8 0)).toArray e (l.length + (grownCap w l.length 0 e - l.length), l.length + (grownCap w l.length 0 e - l.length) + 1)))
          refine ⟨_, _, ψ', ?_, q1, q2, q3⟩
          simp only [Sem.run_bind, hr, Result.andThen_ok, Sem.run_pure]
          rw [show l.length + (grownCap w l.length 0 e - l.length) = grownCap w l.length 0 e by omega]
      · trivial
    · trivial
  · rename_i t hd hs
    exact toU_sound m (und_ok m.ok hd) (und_ok m.ok hs) hv
  · rename_i u hd hs
    exact fromU_sound m (und_ok m.ok hd) (und_ok m.ok hs) hv
  · trivial
end
end Go.U
/-
  U, part 13: maps; len, cap, min, max.
-/
set_option linter.unusedVariables false
set_option linter.unusedSimpArgs false
namespace Go.U
open Go Go.RowKit

section
variable {C : Cx} {ρ : Nat → Int} {w0 : World} {K : Nat → Option Obj} {ψ : Psi} {h : Hp} {w : World}
theorem Mem.mapObj (m : Mem C ρ w0 K ψ h w) {r c : Nat} {es : List (A × A × Nat)} (hr : h.get r = some (.map es c)) : ∃ B l, ψ r = some B ∧ w.heap[B.b]? = some (.map l.toArray c) ∧ EsR ρ ψ es l := by
  obtain ⟨B, ob, h1, h2, l, rfl, h3⟩ := m.obj r _ hr
  exact ⟨B, l, h1, h2, h3⟩
theorem EsR.len : ∀ {es : List (A × A × Nat)} {l : List MapEntry}, EsR ρ ψ es l → l.length = es.length
  | [], l, h => by have h' : l = [] := h; subst h'; rfl
  | (k, v, b) :: es, _, ⟨e, l', rfl, _, _, _, h⟩ => by simp [EsR.len h]
theorem EsR.get : ∀ {es : List (A × A × Nat)} {l : List MapEntry} {i : Nat} {x : A × A × Nat}, EsR ρ ψ es l → es[i]? = some x → ∃ e, l[i]? = some e ∧ VR ρ ψ x.1 e.key ∧ VR ρ ψ x.2.1 e.val ∧ e.born = x.2.2
  | [], _, i, x, _, h => by simp at h
  | (k, v, b) :: es, _, 0, x, ⟨e, l', rfl, h1, h2, h3, h4⟩, h => by simp at h; subst h; exact ⟨e, rfl, h1, h2, h3⟩
  | (k, v, b) :: es, _, i + 1, x, ⟨e, l', rfl, h1, h2, h3, h4⟩, h => by simpa using EsR.get h4 (by simpa using h)
theorem EsR.snoc {k v : A} {e : MapEntry} (h1 : VR ρ ψ k e.key) (h2 : VR ρ ψ v e.val) : ∀ {es : List (A × A × Nat)} {l : List MapEntry}, EsR ρ ψ es l → EsR ρ ψ (es ++ [(k, v, e.born)]) (l ++ [e])
  | [], l, h => by have h' : l = [] := h; subst h'; exact ⟨e, [], rfl, h1, h2, rfl, rfl⟩
  | (k, v, b) :: es, _, ⟨e', l', rfl, a1, a2, a3, a4⟩ => ⟨e', _, rfl, a1, a2, a3, EsR.snoc h1 h2 a4⟩
theorem EsR.set {f : A × A × Nat → A × A × Nat} {g : MapEntry → MapEntry} : ∀ {es : List (A × A × Nat)} {l : List MapEntry} {i : Nat} {x : A × A × Nat}, EsR ρ ψ es l → es[i]? = some x →
    (∀ e, VR ρ ψ x.1 e.key → VR ρ ψ x.2.1 e.val → e.born = x.2.2 → VR ρ ψ (f x).1 (g e).key ∧ VR ρ ψ (f x).2.1 (g e).val ∧ (g e).born = (f x).2.2) → EsR ρ ψ (setNth f es i) (l.modify i g)
  | [], _, i, x, _, h, _ => by simp at h
  | (k, v, b) :: es, _, 0, x, ⟨e, l', rfl, h1, h2, h3, h4⟩, h, hf => by
    simp at h; subst h
    obtain ⟨a1, a2, a3⟩ := hf e h1 h2 h3
    refine ⟨g e, l', by simp [List.modify], a1, a2, a3, h4⟩
  | (k, v, b) :: es, _, i + 1, x, ⟨e, l', rfl, h1, h2, h3, h4⟩, h, hf => by
    have := EsR.set (i := i) h4 (by simpa using h) hf
    exact ⟨e, l'.modify i g, by simp, h1, h2, h3, this⟩
theorem EsR.erase : ∀ {es : List (A × A × Nat)} {l : List MapEntry} (i : Nat), EsR ρ ψ es l → EsR ρ ψ (es.take i ++ es.drop (i + 1)) (l.eraseIdx i)
  | [], l, i, h => by have h' : l = [] := h; subst h'; simp [EsR]
  | (k, v, b) :: es, _, 0, ⟨e, l', rfl, h1, h2, h3, h4⟩ => by simpa using h4
  | (k, v, b) :: es, _, i + 1, ⟨e, l', rfl, h1, h2, h3, h4⟩ => ⟨e, _, by simp, h1, h2, h3, EsR.erase i h4⟩
theorem sameNow_in {P : Program} {t : TypeId} {kind : TypeDesc} {a b : Value} {r : Bool} (hu : P.underlying t = some kind) (hs : Instr.sameNow kind a b = some r) (d : Nat) : (Op.equalIn (d + 1) t a b).run P w = .ok r w := by
  unfold Instr.sameNow at hs
  split at hs
  · split at hs
    · rename_i hk; subst hk; cases hs
      simp [Op.equalIn, run_underlying hu]
    · cases hs
  · cases hs; simp [Op.equalIn, run_underlying hu]
  · cases hs; simp [Op.equalIn, run_underlying hu]
  · cases hs
theorem sameNow_eq {P : Program} {t : TypeId} {kind : TypeDesc} {a b : Value} {r : Bool} (hu : P.underlying t = some kind) (hs : Instr.sameNow kind a b = some r) : (Op.equal t a b).run P w = .ok r w := sameNow_in hu hs 9999
theorem findNow_run {P : Program} {t : TypeId} {kind : TypeDesc} {v : Value} (hu : P.underlying t = some kind) : ∀ {l : List MapEntry} {i : Nat} {q}, Instr.findNow kind v l i = some q → (Instr.findAsking t v l i).run P w = .ok q w
  | [], i, q, hq => by cases hq; simp [Instr.findAsking]
  | e :: l, i, q, hq => by
    unfold Instr.findNow at hq
    split at hq
    · rename_i hs; cases hq
      simp [Instr.findAsking, sameNow_eq hu hs]
    · rename_i hs
      simp [Instr.findAsking, sameNow_eq hu hs, findNow_run hu hq]
    · cases hq
theorem findKey_run {P : Program} {t : TypeId} {kind : TypeDesc} {v : Value} (hu : P.underlying t = some kind) {l : List MapEntry} {q} (hq : (Instr.findAsking t v l 0).run P w = .ok q w) : (Instr.findKey t v l).run P w = .ok q w := by
  unfold Instr.findKey
  simp only [Sem.run_bind, run_underlying hu, Result.andThen_ok]
  split
  · rename_i r hr
    have := findNow_run (w := w) hu hr
    rw [hq] at this
    cases this
    simp
  · exact hq
def Found (es : List (A × A × Nat)) (l : List MapEntry) (i : Nat) : Option (Nat × A × A × Nat) → Option (Nat × Value) → Prop
  | none, q => q = none
  | some p, q => ∃ e, i ≤ p.1 ∧ es[p.1 - i]? = some p.2 ∧ l[p.1 - i]? = some e ∧ q = some (p.1, e.val)
theorem asking_sound (k : C.Ok ρ) {kt : TypeId} {a : A} {v : Value} (ha : VR ρ ψ a v) : ∀ {es : List (A × A × Nat)} {l : List MapEntry} {i : Nat} {r}, EsR ρ ψ es l → findKey C kt a es i = some r → ∃ q, (Instr.findAsking kt v l i).run C.P w = .ok q w ∧ Found es l i r q
  | [], l, i, r, hl, hr => by
    have h' : l = [] := hl
    subst h'
    cases hr
    exact ⟨none, by simp [Instr.findAsking], rfl⟩
  | (k', v', b) :: es, _, i, r, ⟨e, l', rfl, h1, h2, h3, h4⟩, hr => by
    simp only [findKey] at hr
    split at hr
    · rename_i he
      cases hr
      have := eqIn_sound (ψ := ψ) (w := w) k keyDepth kt a k' true v e.key ha h1 he (Op.maxDepth - keyDepth)
      have hq : (Op.equal kt v e.key).run C.P w = .ok true w := this
      exact ⟨some (i, e.val), by simp [Instr.findAsking, hq], e, Nat.le_refl _, by simp, by simp, rfl⟩
    · rename_i he
      have := eqIn_sound (ψ := ψ) (w := w) k keyDepth kt a k' false v e.key ha h1 he (Op.maxDepth - keyDepth)
      have hq : (Op.equal kt v e.key).run C.P w = .ok false w := this
      obtain ⟨q, q1, q2⟩ := asking_sound k ha h4 hr
      refine ⟨q, by simp [Instr.findAsking, hq, q1], ?_⟩
      cases r with
      | none => exact q2
      | some p =>
        obtain ⟨e', g1, g2, g3, g4⟩ := q2
        exact ⟨e', by omega, by rw [show p.1 - i = (p.1 - (i + 1)) + 1 by omega]; simpa using g2, by rw [show p.1 - i = (p.1 - (i + 1)) + 1 by omega]; simpa using g3, g4⟩
    · cases hr
theorem find_sound (k : C.Ok ρ) {kt : TypeId} {kind : TypeDesc} (hu : C.P.underlying kt = some kind) {a : A} {v : Value} (ha : VR ρ ψ a v) {es : List (A × A × Nat)} {l : List MapEntry} {r} (hl : EsR ρ ψ es l) (hr : findKey C kt a es 0 = some r) :
    ∃ q, (Instr.findKey kt v l).run C.P w = .ok q w ∧ Found es l 0 r q := by
  obtain ⟨q, q1, q2⟩ := asking_sound (w := w) k ha hl hr
  exact ⟨q, findKey_run hu q1, q2⟩
theorem run_forIn_unit {α : Type} {P : Program} {f : α → PUnit → Sem (ForInStep PUnit)} : ∀ {l : List α}, (∀ x ∈ l, (f x ⟨⟩).run P w = .ok (.yield ⟨⟩) w) → (forIn l PUnit.unit f).run P w = .ok ⟨⟩ w
  | [], _ => by simp
  | x :: l, hf => by
    simp only [List.forIn_cons, Sem.run_bind, hf x (by simp), Result.andThen_ok]
    exact run_forIn_unit fun y hy => hf y (by simp [hy])
theorem keyFs_sound (k : C.Ok ρ) {rc : TypeId → A → Bool} {xs : List A} : ∀ {fs : List Field}, keyFs C rc xs fs = true → ∀ f ∈ fs, f.name ≠ "_" → ∃ a, part C f.type xs f.offset = some a ∧ rc f.type a = true
  | [], _, f, hf, _ => by cases hf
  | g :: fs, hk, f, hf, hn => by
    unfold keyFs at hk
    cases hb : g.name == "_" with
    | true =>
      rw [hb, cond_true] at hk
      rcases List.mem_cons.1 hf with rfl | hf
      · exact absurd (by simpa using hb) hn
      · exact keyFs_sound k hk f hf hn
    | false =>
      rw [hb, cond_false] at hk
      split at hk
      · rename_i a ha
        simp only [Bool.and_eq_true] at hk
        rcases List.mem_cons.1 hf with rfl | hf
        · exact ⟨a, ha, hk.1⟩
        · exact keyFs_sound k hk.2 f hf hn
      · cases hk
theorem keyEs_sound {rc : TypeId → A → Bool} {xs : List A} {e n : Nat} : ∀ {c i : Nat}, keyEs C rc xs e n c i = true → ∀ j ∈ List.range' i c, ∃ a, part C e xs (j * n) = some a ∧ rc e a = true
  | 0, i, _, j, hj => by simp at hj
  | c + 1, i, h, j, hj => by
    unfold keyEs at h
    split at h
    · rename_i a ha
      simp only [Bool.and_eq_true] at h
      rw [List.range'_succ] at hj
      rcases List.mem_cons.1 hj with rfl | hj
      · exact ⟨a, ha, h.1⟩
      · exact keyEs_sound h.2 j hj
    · cases h
theorem keyOk_sound (k : C.Ok ρ) (empty : Bool) : ∀ d {t : TypeId} {x : A} {v : Value}, VR ρ ψ x v → keyOk C d t x = true → ∀ D, (Instr.checkKey empty (d + D) t v).run C.P w = .ok () w
  | 0, t, x, v, hv, hk, D => by cases hk
  | d + 1, t, x, v, hv, hk, D => by
    rw [show d + 1 + D = (d + D) + 1 by omega]
    unfold keyOk at hk
    split at hk
    · rename_i fs hu
      split at hk
      · rename_i xs
        obtain ⟨us, rfl, h1, h2⟩ := hv
        have hu' := und_ok k hu
        unfold Instr.checkKey
        simp only [Sem.run_bind, run_underlying hu', Result.andThen_ok]
        rw [← Array.forIn_toList]
        rw [run_forIn_unit (fun f hf => ?a)]
        case a =>
          by_cases hn : f.name = "_"
          · simp [hn]
          · obtain ⟨a, ha, hr⟩ := keyFs_sound k hk f hf hn
            obtain ⟨u, p1, p2⟩ := part_sound (w := w) k h1 h2 ha
            simp [hn, p1, keyOk_sound k empty d p2 hr D]
        rfl
      · cases hk
    · rename_i n e hu
      split at hk
      · rename_i xs s hs
        obtain ⟨us, rfl, h1, h2⟩ := hv
        have hu' := und_ok k hu
        unfold Instr.checkKey
        simp only [Sem.run_bind, run_underlying hu', Result.andThen_ok]
        rw [Std.Legacy.Range.forIn_eq_forIn_range']
        rw [run_forIn_unit (fun j hj => ?a)]
        case a =>
          obtain ⟨a, ha, hr⟩ := keyEs_sound hk j (by simpa [Std.Legacy.Range.size] using hj)
          obtain ⟨u, p1, p2⟩ := part_sound (w := w) k h1 h2 ha
          simp [szOf_run k hs, p1, keyOk_sound k empty d p2 hr D]
        rfl
      · cases hk
    · cases hk
    · cases hk
    · rename_i dd n1 n2 n3 hu
      have hu' := und_ok k hu
      unfold Instr.checkKey
      simp only [Sem.run_bind, run_underlying hu', Result.andThen_ok]
      cases dd <;> first | exact (n1 _ rfl).elim | exact (n2 _ _ rfl).elim | exact (n3 _ rfl).elim | rfl | (cases v <;> rfl)
theorem key_run (k : C.Ok ρ) {empty : Bool} {t : TypeId} {x : A} {v : Value} (hv : VR ρ ψ x v) (hk : keyOk C keyDepth t x = true) : (Instr.checkKey empty 10000 t v).run C.P w = .ok () w :=
  keyOk_sound k empty keyDepth hv hk 9990
theorem mapOf_ok (k : C.Ok ρ) {t kt e : TypeId} (hm : mapOf C t = some (kt, e)) : C.P.underlying t = some (.map kt e) := by
  unfold mapOf at hm
  split at hm
  · rename_i a b hu; cases hm; exact und_ok k hu
  · cases hm
theorem keyOk_und (k : C.Ok ρ) {t : TypeId} {x : A} (hk : keyOk C keyDepth t x = true) : ∃ d, C.P.underlying t = some d := by
  unfold keyDepth keyOk at hk
  split at hk
  · rename_i hu; exact ⟨_, und_ok k hu⟩
  · rename_i hu; exact ⟨_, und_ok k hu⟩
  · cases hk
  · cases hk
  · rename_i hu; exact ⟨_, und_ok k hu⟩
theorem bool_res {ok : Bool} {a : A} {v : Value} {b : Bool} (hv : VR ρ ψ a v) : VR ρ ψ (bif ok then .tu [a, .b b] else a) (if ok then .tuple #[v, .bool b] else v) := by
  cases ok with
  | false => exact hv
  | true => exact ⟨[v, .bool b], rfl, VRs.cons hv (VRs.cons rfl VRs.nil)⟩
theorem lookup_sound (m : Mem C ρ w0 K ψ h w) {t : TypeId} {x y a : A} {vx vy : Value} (hx : VR ρ ψ x vx) (hy : VR ρ ψ y vy) {ok : Bool} (ha : lookup C h t x y ok = some a) : ∃ v, (Instr.lookup t vx vy ok).run C.P w = .ok v w ∧ VR ρ ψ a v := by
  unfold lookup at ha
  split at ha
  · rename_i kt e es hm he
    have hu := mapOf_ok m.ok hm
    unfold lookIn at ha
    cases hk : keyOk C keyDepth kt y with
    | false => rw [hk] at ha; cases ha
    | true =>
      rw [hk, cond_true] at ha
      obtain ⟨kind, hkd⟩ := keyOk_und m.ok hk
      have key : ∀ {l : List MapEntry}, EsR ρ ψ es l → (vx = .map none ∧ l = [] ∨ ∃ r c, vx = .map (some r) ∧ w.heap[r]? = some (.map l.toArray c)) → ∃ v, (Instr.lookup t vx vy ok).run C.P w = .ok v w ∧ VR ρ ψ a v := by
        intro l hl hw
        have hck : ∀ b, (Instr.checkKey b 10000 kt vy).run C.P w = .ok () w := fun b => key_run m.ok hy hk
        have hget : ∀ q, (Instr.findKey kt vy l).run C.P w = .ok q w → (Instr.lookup t vx vy ok).run C.P w = (do
            let (v, okv) ← match q with | some (_, v) => pure (v, true) | none => pure (← zeroValue e, false)
            pure (if ok then .tuple #[v, .bool okv] else v) : Sem Value).run C.P w := by
          intro q hq
          rcases hw with ⟨rfl, rfl⟩ | ⟨r, c, rfl, hr⟩
          · simp [Instr.lookup, run_underlying hu, hck, hq]; cases q <;> rfl
          · simp [Instr.lookup, run_underlying hu, run_get hr (by simp), hck, hq]; cases q <;> rfl
        split at ha
        · rename_i p hf
          cases ha
          obtain ⟨q, q1, ent, g1, g2, g3, rfl⟩ := find_sound (w := w) m.ok hkd hy hl hf
          obtain ⟨e', e1, e2, e3, e4⟩ := hl.get g2
          rw [g3] at e1; cases e1
          exact ⟨_, by rw [hget _ q1]; simp, bool_res e3⟩
        · rename_i hf
          obtain ⟨q, q1, q2⟩ := find_sound (w := w) m.ok hkd hy hl hf
          have q2' : q = none := q2
          subst q2'
          obtain ⟨z, hz, rfl⟩ := Option.map_eq_some_iff.1 ha
          obtain ⟨vz, z1, z2⟩ := zeroOf_ok (ψ := ψ) (w := w) m.ok hz
          exact ⟨_, by rw [hget _ q1]; simp [z1], bool_res z2⟩
        · cases ha
      unfold entries at he
      split at he
      · cases he
        exact key (l := []) rfl (.inl ⟨hx, rfl⟩)
      · rename_i r
        split at he
        · rename_i es' c hr
          cases he
          obtain ⟨B, l, h1, h2, h3⟩ := m.mapObj hr
          obtain ⟨B', h4, rfl⟩ := hx
          rw [h1] at h4; cases h4
          exact key h3 (.inr ⟨_, _, rfl, h2⟩)
        · cases he
      · cases he
  · cases ha
theorem bstr_beq (l : List Nat) : (bstr l == bstr l) = true := show ((l.map UInt8.ofNat).toArray == (l.map UInt8.ofNat).toArray) = true by simp
mutual
theorem sameA_ok : ∀ {x y : A} {u v : Value}, sameA x y = true → VR ρ ψ x u → VR ρ ψ y v → ∀ n, Instr.sameBits (n + 2) u v = true
  | .b x, y, u, v, hs, hu, hv, n => by
    cases y <;> simp [sameA] at hs
    have e1 : u = .bool x := hu
    have e2 : v = .bool _ := hv
    subst e1 e2 hs
    simp [Instr.sameBits]
  | .i k a, y, u, v, hs, hu, hv, n => by
    cases y <;> simp [sameA] at hs
    have e1 : u = .int k a := hu
    have e2 : v = .int _ _ := hv
    obtain ⟨h1, h2⟩ := hs
    subst e1 e2 h1 h2
    simp [Instr.sameBits]
  | .s l, y, u, v, hs, hu, hv, n => by
    cases y <;> simp [sameA] at hs
    have e1 : u = .string (bstr l) := hu
    have e2 : v = .string (bstr _) := hv
    have := strEqN_eq hs
    subst e1 e2 this
    simp [Instr.sameBits, bstr_beq]
  | .ag xs, y, u, v, hs, hu, hv, n => by
    cases y <;> simp [sameA] at hs
    obtain ⟨us, rfl, h1, h2⟩ := hu
    obtain ⟨vs, rfl, h3, h4⟩ := hv
    obtain ⟨k1, k2⟩ := sameAs_ok hs h1 h3 h2 n
    simp [Instr.sameBits, k1]
    intro a b hab
    exact k2 (a, b) hab
  | .y .., y, _, _, hs, _, _, _ => by cases y <;> simp [sameA] at hs
  | .p .., y, _, _, hs, _, _, _ => by cases y <;> simp [sameA] at hs
  | .sl .., y, _, _, hs, _, _, _ => by cases y <;> simp [sameA] at hs
  | .m .., y, _, _, hs, _, _, _ => by cases y <;> simp [sameA] at hs
  | .f .., y, _, _, hs, _, _, _ => by cases y <;> simp [sameA] at hs
  | .nf, y, _, _, hs, _, _, _ => by cases y <;> simp [sameA] at hs
  | .ifc .., y, _, _, hs, _, _, _ => by cases y <;> simp [sameA] at hs
  | .ni, y, _, _, hs, _, _, _ => by cases y <;> simp [sameA] at hs
  | .tu .., y, _, _, hs, _, _, _ => by cases y <;> simp [sameA] at hs
  | .yl .., y, _, _, hs, _, _, _ => by cases y <;> simp [sameA] at hs
theorem sameAs_ok : ∀ {xs ys : List A} {us vs : List Value}, sameAs xs ys = true → VRs ρ ψ xs us → VRs ρ ψ ys vs → xs.all A.one = true → ∀ n, us.length = vs.length ∧ ∀ p ∈ us.zip vs, Instr.sameBits (n + 1) p.1 p.2 = true
  | [], [], us, vs, _, h1, h2, _, n => by
    have e1 : us = [] := h1
    have e2 : vs = [] := h2
    subst e1 e2
    simp
  | [], _ :: _, _, _, hs, _, _, _, _ => by simp [sameAs] at hs
  | _ :: _, [], _, _, hs, _, _, _, _ => by simp [sameAs] at hs
  | x :: xs, y :: ys, _, _, hs, ⟨u, us, rfl, h1, h2⟩, ⟨v, vs, rfl, h3, h4⟩, ho, n => by
    simp only [sameAs, Bool.and_eq_true] at hs
    simp only [List.all_cons, Bool.and_eq_true] at ho
    obtain ⟨k1, k2⟩ := sameAs_ok hs.2 h2 h4 ho.2 n
    refine ⟨by simp [k1], fun p hp => ?_⟩
    rw [List.zip_cons_cons] at hp
    rcases List.mem_cons.1 hp with rfl | hp
    · have := sameA_ok hs.1 h1 h3
      cases n with
      | succ n => exact this n
      | zero =>
        cases x <;> cases y <;> simp [sameA] at hs <;> simp [A.one] at ho
        · have e1 : u = .bool _ := h1
          have e2 : v = .bool _ := h3
          rw [e1, e2]; simp [Instr.sameBits, hs.1]
        · have e1 : u = .int _ _ := h1
          have e2 : v = .int _ _ := h3
          rw [e1, e2]; simp [Instr.sameBits, hs.1]
        · have e1 : u = .string _ := h1
          have e2 : v = .string _ := h3
          rw [e1, e2, strEqN_eq hs.1]; simp [Instr.sameBits, bstr_beq]
    · exact k2 p hp
end
theorem stays_run {P : Program} {u v : Value} (hs : Instr.sameBits 10000 u v = true) : (Instr.keyThatStays u v).run P w = .ok v w := by
  unfold Instr.keyThatStays
  rw [if_pos hs]; rfl
theorem arr_modify (l : List MapEntry) (i : Nat) (g : MapEntry → MapEntry) : l.toArray.modify i g = (l.modify i g).toArray := by
  apply Array.ext'
  simp [Array.toList_modify]
theorem mapUpdate_sound (m : Mem C ρ w0 K ψ h w) {t : TypeId} {x y z : A} {vx vy vz : Value} (hx : VR ρ ψ x vx) (hy : VR ρ ψ y vy) (hz : VR ρ ψ z vz) {h' : Hp} (ha : mapUpdate C h t x y z = some h') : ∃ w', (Instr.mapUpdate t vx vy vz).run C.P w = .ok () w' ∧ Mem C ρ w0 K ψ h' w' := by
  unfold mapUpdate at ha
  split at ha
  · rename_i kt e r hm
    have hu := mapOf_ok m.ok hm
    split at ha
    · rename_i es c hr
      obtain ⟨B, l, h1, h2, h3⟩ := m.mapObj hr
      obtain ⟨B', h4, rfl⟩ := hx
      rw [h1] at h4; cases h4
      unfold updIn at ha
      cases hc : (Nat.ble C.G r && keyOk C keyDepth kt y) with
      | false => rw [hc] at ha; cases ha
      | true =>
        rw [hc, cond_true] at ha
        simp only [Bool.and_eq_true] at hc
        have hg := Nat.le_of_ble_eq_true hc.1
        obtain ⟨kind, hkd⟩ := keyOk_und m.ok hc.2
        have hck : ∀ b, (Instr.checkKey b 10000 kt vy).run C.P w = .ok () w := fun b => key_run m.ok hy hc.2
        split at ha
        · rename_i p hf
          cases hs : sameA p.2.1 y with
          | false => rw [hs] at ha; cases ha
          | true =>
            rw [hs, cond_true] at ha
            cases ha
            obtain ⟨q, q1, ent, g1, g2, g3, rfl⟩ := find_sound (w := w) m.ok hkd hy h3 hf
            obtain ⟨e', e1, e2, e3, e4⟩ := h3.get g2
            rw [g3] at e1; cases e1
            have hb := sameA_ok hs e2 hy 9998
            obtain ⟨w', s1, s2⟩ := run_set (P := C.P) (.map (l.modify p.1 fun e => { e with key := vy, val := vz }).toArray c) h2 (by simp)
            refine ⟨w', ?_, m.upd hr hg h1 s2 (fun _ _ _ _ hx => by cases hx) ⟨l.modify p.1 fun e => { e with key := vy, val := vz }, rfl, ?_⟩⟩
            · have g3' : l[p.1]? = some ent := by simpa using g3
              simp [Instr.mapUpdate, run_underlying hu, run_get h2 (by simp), hck, q1, g3', stays_run hb, s1]
            · exact EsR.set h3 (by simpa using g2) fun e _ _ he => ⟨hy, hz, he⟩
        · rename_i hf
          cases ha
          obtain ⟨q, q1, q2⟩ := find_sound (w := w) m.ok hkd hy h3 hf
          have q2' : q = none := q2
          subst q2'
          obtain ⟨w', s1, s2⟩ := run_set (P := C.P) (.map (l ++ [({ key := vy, val := vz, born := c } : MapEntry)]).toArray (c + 1)) h2 (by simp)
          refine ⟨w', ?_, m.upd hr hg h1 s2 (fun _ _ _ _ hx => by cases hx) ⟨l ++ [{ key := vy, val := vz, born := c }], rfl, EsR.snoc (e := { key := vy, val := vz, born := c }) hy hz h3⟩⟩
          simp [Instr.mapUpdate, run_underlying hu, run_get h2 (by simp), hck, q1, s1]
        · cases ha
    · cases ha
  · cases ha
theorem mapEntry_sound (m : Mem C ρ w0 K ψ h w) {t : TypeId} {x y a : A} {vx vy : Value} (hx : VR ρ ψ x vx) (hy : VR ρ ψ y vy) {h' : Hp} (ha : mapEntry C h t x y = some (a, h')) : ValSnd C ρ w0 K ψ w (Instr.mapEntry t vx vy) a h' := by
  unfold mapEntry at ha
  split at ha
  · rename_i kt e r hm
    have hu := mapOf_ok m.ok hm
    split at ha
    · rename_i es c hr
      obtain ⟨B, l, h1, h2, h3⟩ := m.mapObj hr
      obtain ⟨B', h4, rfl⟩ := hx
      rw [h1] at h4; cases h4
      unfold entIn at ha
      cases hc : (Nat.ble C.G r && keyOk C keyDepth kt y) with
      | false => rw [hc] at ha; cases ha
      | true =>
        rw [hc, cond_true] at ha
        simp only [Bool.and_eq_true] at hc
        have hg := Nat.le_of_ble_eq_true hc.1
        obtain ⟨kind, hkd⟩ := keyOk_und m.ok hc.2
        have hck : ∀ b, (Instr.checkKey b 10000 kt vy).run C.P w = .ok () w := fun b => key_run m.ok hy hc.2
        split at ha
        · rename_i p hf
          cases hs : sameA p.2.1 y with
          | false => rw [hs] at ha; cases ha
          | true =>
            rw [hs, cond_true] at ha
            cases ha
            obtain ⟨q, q1, ent, g1, g2, g3, rfl⟩ := find_sound (w := w) m.ok hkd hy h3 hf
            obtain ⟨e', e1, e2, e3, e4⟩ := h3.get g2
            rw [g3] at e1; cases e1
            have hb := sameA_ok hs e2 hy 9998
            obtain ⟨w', s1, s2⟩ := run_set (P := C.P) (.map (l.modify p.1 fun e => { e with key := vy }).toArray c) h2 (by simp)
            have g3' : l[p.1]? = some ent := by simpa using g3
            refine ⟨.tuple #[ent.val, .int .i64 ent.born], w', ψ, ?_, Psi.le.refl ψ, m.upd hr hg h1 s2 (fun _ _ _ _ hx => by cases hx) ⟨l.modify p.1 fun e => { e with key := vy }, rfl, ?_⟩, ⟨[_, _], rfl, VRs.cons e3 (VRs.cons ?_ VRs.nil)⟩⟩
            · simp [Instr.mapEntry, run_underlying hu, run_get h2 (by simp), hck, q1, g3', stays_run hb, s1, goInt]
            · exact EsR.set h3 (by simpa using g2) fun e _ hv he => ⟨hy, hv, he⟩
            · show Value.int .i64 _ = .int .i64 _
              rw [e4]
        · rename_i hf
          obtain ⟨q, q1, q2⟩ := find_sound (w := w) m.ok hkd hy h3 hf
          have q2' : q = none := q2
          subst q2'
          obtain ⟨z, hz, he⟩ := Option.map_eq_some_iff.1 ha
          cases he
          obtain ⟨vz, z1, z2⟩ := zeroOf_ok (ψ := ψ) (w := w) m.ok hz
          obtain ⟨w', s1, s2⟩ := run_set (P := C.P) (.map (l ++ [({ key := vy, val := vz, born := c } : MapEntry)]).toArray (c + 1)) h2 (by simp)
          refine ⟨.tuple #[vz, .int .i64 c], w', ψ, ?_, Psi.le.refl ψ, m.upd hr hg h1 s2 (fun _ _ _ _ hx => by cases hx) ⟨l ++ [{ key := vy, val := vz, born := c }], rfl, EsR.snoc (e := { key := vy, val := vz, born := c }) hy z2 h3⟩, ⟨[_, _], rfl, VRs.cons z2 (VRs.cons rfl VRs.nil)⟩⟩
          simp [Instr.mapEntry, run_underlying hu, run_get h2 (by simp), hck, q1, z1, s1, goInt]
        · cases ha
    · cases ha
  · cases ha
theorem born_sound : ∀ {es : List (A × A × Nat)} {l : List MapEntry} {n : Int} {k i : Nat}, EsR ρ ψ es l → bornAt n es k = some i → k ≤ i ∧ (∃ x, es[i - k]? = some x) ∧ l.findIdx? (fun e => (e.born : Int) == n) = some (i - k)
  | [], l, n, k, i, _, hb => by cases hb
  | (a, b, c) :: es, _, n, k, i, ⟨e, l', rfl, h1, h2, h3, h4⟩, hb => by
    unfold bornAt at hb
    simp only at hb
    split at hb
    · rename_i hn
      cases hb
      refine ⟨Nat.le_refl _, ⟨_, by simp; rfl⟩, ?_⟩
      rw [List.findIdx?_cons]
      simp [h3, hn]
    · rename_i hn
      obtain ⟨g1, ⟨x, g2⟩, g3⟩ := born_sound h4 hb
      refine ⟨by omega, ⟨x, by rw [show i - k = (i - (k + 1)) + 1 by omega]; simpa using g2⟩, ?_⟩
      rw [List.findIdx?_cons, g3]
      simp [h3, hn]
      omega
theorem entryStore_sound (m : Mem C ρ w0 K ψ h w) {t : TypeId} {x y z : A} {vx vy vz : Value} (hx : VR ρ ψ x vx) (hy : VR ρ ψ y vy) (hz : VR ρ ψ z vz) {h' : Hp} (ha : entryStore C h x y z = some h') : ∃ w', (Instr.entryStore t vx vy vz).run C.P w = .ok () w' ∧ Mem C ρ w0 K ψ h' w' := by
  unfold entryStore at ha
  split at ha
  · rename_i r n hn
    obtain ⟨kk, rfl⟩ := known_of hy hn
    split at ha
    · rename_i es c hr
      obtain ⟨B, l, h1, h2, h3⟩ := m.mapObj hr
      obtain ⟨B', h4, rfl⟩ := hx
      rw [h1] at h4; cases h4
      cases hc : Nat.ble C.G r with
      | false => rw [hc] at ha; cases ha
      | true =>
        rw [hc, cond_true] at ha
        have hg := Nat.le_of_ble_eq_true hc
        obtain ⟨i, hi, rfl⟩ := Option.map_eq_some_iff.1 ha
        obtain ⟨g1, ⟨x, g2⟩, g3⟩ := born_sound h3 hi
        simp only [Nat.sub_zero] at g2 g3
        obtain ⟨w', s1, s2⟩ := run_set (P := C.P) (.map (l.modify i fun e => { e with val := vz }).toArray c) h2 (by simp)
        refine ⟨w', ?_, m.upd hr hg h1 s2 (fun _ _ _ _ hx => by cases hx) ⟨l.modify i fun e => { e with val := vz }, rfl, EsR.set h3 g2 fun e hk _ he => ⟨hk, hz, he⟩⟩⟩
        simp [Instr.entryStore, run_get h2 (by simp), asInt, asIntOf, g3, s1]
    · cases ha
  · cases ha
theorem del_sound (m : Mem C ρ w0 K ψ h w) {t ty : TypeId} {ats : Array TypeId} {x y : A} {vx vy : Value} (hx : VR ρ ψ x vx) (hy : VR ρ ψ y vy) (h0 : ats[0]? = some t) {h' : Hp} (ha : delOp C h t x y = some h') :
    ∃ w', (Builtin.delete_ ats ty #[vx, vy]).run C.P w = .ok (.tuple #[]) w' ∧ Mem C ρ w0 K ψ h' w' := by
  unfold delOp at ha
  split at ha
  · rename_i kt e r hm
    have hu := mapOf_ok m.ok hm
    split at ha
    · rename_i es c hr
      obtain ⟨B, l, h1, h2, h3⟩ := m.mapObj hr
      obtain ⟨B', h4, rfl⟩ := hx
      rw [h1] at h4; cases h4
      unfold delIn at ha
      cases hc : (Nat.ble C.G r && keyOk C keyDepth kt y) with
      | false => rw [hc] at ha; cases ha
      | true =>
        rw [hc, cond_true] at ha
        simp only [Bool.and_eq_true] at hc
        have hg := Nat.le_of_ble_eq_true hc.1
        obtain ⟨kind, hkd⟩ := keyOk_und m.ok hc.2
        have hck : ∀ b, (Instr.checkKey b 10000 kt vy).run C.P w = .ok () w := fun b => key_run m.ok hy hc.2
        split at ha
        · rename_i p hf
          cases ha
          obtain ⟨q, q1, ent, g1, g2, g3, rfl⟩ := find_sound (w := w) m.ok hkd hy h3 hf
          obtain ⟨w', s1, s2⟩ := run_set (P := C.P) (.map (l.eraseIdx p.1).toArray c) h2 (by simp)
          refine ⟨w', ?_, m.upd hr hg h1 s2 (fun _ _ _ _ hx => by cases hx) ⟨l.eraseIdx p.1, rfl, h3.erase p.1⟩⟩
          simp [Builtin.delete_, h0, run_underlying hu, run_get h2 (by simp), hck, q1, s1]
        · rename_i hf
          cases ha
          obtain ⟨q, q1, q2⟩ := find_sound (w := w) m.ok hkd hy h3 hf
          have q2' : q = none := q2
          subst q2'
          obtain ⟨w', s1, s2⟩ := run_set (P := C.P) (.map l.toArray c) h2 (by simp)
          refine ⟨w', ?_, m.upd hr hg h1 s2 (fun _ _ _ _ hx => by cases hx) ⟨l, rfl, h3⟩⟩
          simp [Builtin.delete_, h0, run_underlying hu, run_get h2 (by simp), hck, q1, s1]
        · cases ha
    · cases ha
  · rename_i kt e hm
    have hu := mapOf_ok m.ok hm
    cases hk : keyOk C keyDepth kt y with
    | false => rw [hk] at ha; cases ha
    | true =>
      rw [hk, cond_true] at ha
      cases ha
      have e : vx = .map none := hx
      subst e
      have hck : ∀ b, (Instr.checkKey b 10000 kt vy).run C.P w = .ok () w := fun b => key_run m.ok hy hk
      exact ⟨w, by simp [Builtin.delete_, h0, run_underlying hu, hck], m⟩
  · cases ha
end
end Go.U
/-
  U, part 13u: unsafe.SliceData, unsafe.String.
-/
set_option linter.unusedVariables false
set_option linter.unusedSimpArgs false
namespace Go.U
open Go

section
variable {C : Cx} {ρ : Nat → Int} {w0 : World} {K : Nat → Option Obj} {ψ : Psi} {h : Hp} {w : World}
theorem liesAt_row {P : Program} {e : TypeId} (hc : P.cellsOf e = 1) (count off n : Nat) (hn : off + n ≤ count) : liesAt P P.depth e count off e n = true := by
  have hd : P.depth = (2 * (P.types.size + Made.depth) + 1) + 1 := rfl
  rw [hd]
  simp only [liesAt, Bool.or_eq_true]
  left
  rw [hd]
  simp [rowAt, hc, hn, sameLayout, Nat.mod_one]
theorem bytesIn_lt : ∀ {cs : List A} {l : List Nat}, bytesIn cs = some l → ∀ x ∈ l, x < 256
  | [], l, h, x, hx => by cases h; cases hx
  | a :: cs, l, h, x, hx => by
    simp only [bytesIn] at h
    split at h
    · rename_i b hb
      obtain ⟨r, hr, rfl⟩ := Option.map_eq_some_iff.1 h
      rcases List.mem_cons.1 hx with rfl | hx
      · unfold litB at hb
        split at hb
        · split at hb
          · rename_i hn; cases hb; simp at hn ⊢; omega
          · cases hb
        · cases hb
      · exact bytesIn_lt hr x hx
    · cases h
theorem data_sound (m : Mem C ρ w0 K ψ h w) {ats : Array TypeId} {ty : TypeId} {x : A} {v : Value} (hv : VR ρ ψ x v) : Snd C ρ w0 K ψ w (do pure (.value (← Builtin.unsafeSliceData_ ats ty #[v]))) (bData x h) := by
  unfold bData
  split
  · obtain ⟨_, rfl⟩ := hv
    exact ⟨.pointer none, w, ψ, by simp [Sem.run_bind, Lib.run_unsafeSliceData_nil], Psi.le.refl ψ, m, rfl⟩
  · rename_i a n c ex
    obtain ⟨i, o, es⟩ := a
    obtain ⟨B, k, hB, rfl, hn, _⟩ := hv
    cases hb : Nat.ble 1 n with
    | false => trivial
    | true =>
      have h1 := Nat.le_of_ble_eq_true hb
      exact ⟨.pointer (some ⟨B.b, B.base + o, none⟩), w, ψ, by simp [Sem.run_bind, Lib.run_unsafeSliceData_row _ _ _ _ _ k (by omega : k ≠ 0)], Psi.le.refl ψ, m, B, hB, rfl⟩
  · trivial
theorem freeze_upd {a : Addr} {n : Nat} {arr : Array Value} {e : TypeId} {fr : Nat × Nat} (hn : n ≠ 0) (hw : w.heap[a.block]? = some (.cells arr e fr)) : ∃ fr', Upd w a.block (.cells arr e fr') (w.freeze a n) := by
  obtain ⟨lo, hi⟩ := fr
  refine ⟨if lo == hi then (a.off, a.off + n) else (min lo a.off, max hi (a.off + n)), ?_⟩
  unfold World.freeze
  rw [if_neg hn]
  refine ⟨rfl, rfl, rfl, by simp, ?_, fun b hb => ?_⟩
  · simp [Array.getElem?_modify, hw]
  · simp [Array.getElem?_modify, Ne.symm hb]
theorem ustr_none {P : Program} {ats : Array TypeId} {pt ty : TypeId} {k : IntKind} (p : Option Addr) (h0 : ats[0]? = some pt) : (Builtin.unsafeString_ ats ty #[.pointer p, .int k 0]).run P w = .ok (.string .empty) w := by
  have hmax : IntKind.i64.max = 9223372036854775807 := rfl
  cases p with
  | none =>
    have hdef : Builtin.unsafeString_ ats ty #[.pointer none, .int k 0] =
        (do
          let n ← asInt (.int k 0)
          let some pt := ats[0]? | stuck "unsafe.String: no argument types"
          if n < 0 then runtimePanic (.error "unsafe.String: len out of range")
          if n > IntKind.i64.max then unsupported (.unsafePointer "String: a length above the largest int")
          if n = 0 then pure (.string .empty)
          else runtimePanic (.error "unsafe.String: ptr is nil and len is not zero")) := rfl
    rw [hdef]
    simp [asInt, asIntOf, hmax, h0]
  | some a =>
    have hdef : Builtin.unsafeString_ ats ty #[.pointer (some a), .int k 0] =
        (do
          let n ← asInt (.int k 0)
          let some pt := ats[0]? | stuck "unsafe.String: no argument types"
          if n < 0 then runtimePanic (.error "unsafe.String: len out of range")
          if n > IntKind.i64.max then unsupported (.unsafePointer "String: a length above the largest int")
          if n = 0 then pure (.string .empty)
          else if ← variablesAt a (← elemOf pt) n.toNat then do
            let s ← loadBytes a .empty n.toNat
            freeze a n.toNat
            pure (.string s)
          else unsupported (.unsafePointer "String: not so many bytes at ptr")) := rfl
    rw [hdef]
    simp [asInt, asIntOf, hmax, h0]
theorem ustr_row {P : Program} {ats : Array TypeId} {pt ty e : TypeId} {k : IntKind} {a : Addr} {q : Nat} {cells : Nat} {s : ByteArray} (h0 : ats[0]? = some pt) (hp : P.underlying pt = some (.pointer e)) (hq : q + 1 ≤ 1000000000) (hsh : w.shape? a.block = some (e, cells)) (hlies : liesAt P P.depth e (cells / P.cellsOf e) a.off e (q + 1) = true)
    (hload : (loadBytes a .empty (q + 1)).run P w = .ok s w) : (Builtin.unsafeString_ ats ty #[.pointer (some a), .int k (Int.ofNat (q + 1))]).run P w = .ok (.string s) (w.freeze a (q + 1)) := by
  have hmax : IntKind.i64.max = 9223372036854775807 := rfl
  have hdef : Builtin.unsafeString_ ats ty #[.pointer (some a), .int k (Int.ofNat (q + 1))] =
      (do
        let n ← asInt (.int k (Int.ofNat (q + 1)))
        let some pt := ats[0]? | stuck "unsafe.String: no argument types"
        if n < 0 then runtimePanic (.error "unsafe.String: len out of range")
        if n > IntKind.i64.max then unsupported (.unsafePointer "String: a length above the largest int")
        if n = 0 then pure (.string .empty)
        else if ← variablesAt a (← elemOf pt) n.toNat then do
          let s ← loadBytes a .empty n.toNat
          freeze a n.toNat
          pure (.string s)
        else unsupported (.unsafePointer "String: not so many bytes at ptr")) := rfl
  rw [hdef]
  have hneg : ¬ (Int.ofNat (q + 1)) < 0 := by simp; omega
  have h63' : ¬ (9223372036854775807 : Int) < Int.ofNat (q + 1) := by show ¬ (9223372036854775807 : Int) < ((q + 1 : Nat) : Int); omega
  have hz : ¬ (Int.ofNat (q + 1)) = 0 := by simp; omega
  have hto : (Int.ofNat (q + 1)).toNat = q + 1 := rfl
  simp only [asInt, asIntOf, h0, hmax, Sem.run_bind, Sem.run_pure, Result.andThen_ok, gt_iff_lt, if_neg hneg, if_neg h63', if_neg hz, hto, elemOf, run_underlying hp, variablesAt, program, run_shape, hsh]
  simp [Sem.run, hsh, hlies, hload]
theorem str_sound (m : Mem C ρ w0 K ψ h w) {ats : Array TypeId} {ty : TypeId} {x y : A} {v u : Value} (hv : VR ρ ψ x v) (hu : VR ρ ψ y u) : Snd C ρ w0 K ψ w (do pure (.value (← Builtin.unsafeString_ ats ty #[v, u]))) (bUnsafe C ats.toList x y h) := by
  unfold bUnsafe
  split
  case h_2 => trivial
  rename_i pt rest hats
  have h0 : ats[0]? = some pt := by rw [← Array.getElem?_toList, hats]; rfl
  unfold bStr
  split
  · rename_i k n
    have e1 : v = .pointer none := hv
    have e2 : u = .int k n := hu
    subst e1; subst e2
    split
    · exact ⟨.string .empty, w, ψ, by simp [Sem.run_bind, ustr_none _ h0], Psi.le.refl ψ, m, rfl⟩
    · trivial
  · rename_i a k n
    obtain ⟨i, o⟩ := a
    obtain ⟨B, hB, rfl⟩ := hv
    have e2 : u = .int k n := hu
    subst e2
    split
    · exact ⟨.string .empty, w, ψ, by simp [Sem.run_bind, ustr_none _ h0], Psi.le.refl ψ, m, rfl⟩
    · rename_i q
      split
      case h_2 => trivial
      rename_i e hpt
      have hpt' := und_ok m.ok hpt
      unfold bStrAt
      split
      case h_2 => trivial
      rename_i e' ro kk cs hi
      cases hb : (Nat.beq e e' && (Nat.ble C.G i && (isByteT C e && Nat.ble (q + 1) 1000000000))) with
      | false => trivial
      | true =>
        simp only [Bool.and_eq_true] at hb
        obtain ⟨b1, b2, b3, b4⟩ := hb
        have e1 := Nat.eq_of_beq_eq_true b1
        subst e1
        simp only [cond_true]
        unfold bStrIn
        split
        case h_2 => trivial
        rename_i l hl
        split
        case h_2 => trivial
        rename_i bs hbs
        obtain ⟨B', ob, g1, g2, arr, fr, rfl, g3, g4, g5, g6⟩ := m.obj i _ hi
        rw [hB] at g1; cases g1
        obtain ⟨us, u1, u2, u3, u4⟩ := loadN_rel g6 hl
        have hus := bytesIn_rel hbs u1
        have hlt := bytesIn_lt hbs
        have hlen : bs.length = q + 1 := by rw [hus] at u3; simpa using u3
        obtain ⟨fr', hupd⟩ := freeze_upd (n := q + 1) (a := ⟨B.b, B.base + o, none⟩) (by omega) g2
        have hin : B.base + o + (q + 1) ≤ arr.size := by
          have hq : us[q]? = some us[q] := by simp [u3]
          have := u4 q _ hq
          have := (Array.getElem?_eq_some_iff.1 this).1
          omega
        have hc1 : C.P.cellsOf e = 1 := by
          unfold isByteT at b3
          split at b3
          · rename_i hsz
            obtain ⟨ii, i1, i2⟩ := sz_info m.ok hsz
            unfold Program.cellsOf
            rw [i1]; exact i2
          · cases b3
        have hcell : ∀ j x, (bs.map UInt8.ofNat)[j]? = some x → w.cell? ((⟨B.b, B.base + o, none⟩ : Addr).add j) = some (.int .u8 x.toNat) := fun j x hj => by
          rw [List.getElem?_map, Option.map_eq_some_iff] at hj
          obtain ⟨y, hy, rfl⟩ := hj
          have hy' : us[j]? = some (.int .u8 (Int.ofNat y)) := by rw [hus]; simp [hy]
          rw [add_eq]
          have := cell_of (k := B.base + o + j) g2 (u4 j _ hy')
          rw [this]
          have hy2 := hlt y (List.mem_of_getElem? hy)
          simp [Nat.mod_eq_of_lt hy2]
        have hload := Lib.run_loadBytes (P := C.P) w (bs.map UInt8.ofNat) ⟨B.b, B.base + o, none⟩ .empty hcell
        rw [List.length_map, hlen] at hload
        refine ⟨.string (bstr bs), w.freeze ⟨B.b, B.base + o, none⟩ (q + 1), ψ, ?_, Psi.le.refl ψ, ?_, rfl⟩
        · have hlies := liesAt_row (P := C.P) hc1 (arr.size / C.P.cellsOf e) (B.base + o) (q + 1) (by rw [hc1, Nat.div_one]; exact hin)
          have hr := ustr_row (w := w) (ty := ty) (k := k) (q := q) (s := bstr bs) h0 hpt' (Nat.le_of_ble_eq_true b4) (a := ⟨B.b, B.base + o, none⟩) (cells := arr.size) (by simp [World.shape?, g2]) hlies (by rw [hload]; simp [bstr])
          rw [Sem.run_bind]
          exact congrArg (fun r => Result.andThen r fun v w' => Sem.run C.P (pure (.value v) : Sem Next) w') hr
        · exact m.upd hi (Nat.le_of_ble_eq_true b2) hB hupd (fun _ _ _ _ hx => by cases hx; exact ⟨_, _, rfl⟩) ⟨arr, fr', rfl, g3, fun q => (by cases q), g5, g6⟩
    · trivial
  · trivial
end
end Go.U
/-
  U, part 14: built-ins, calls; an operation, whichever it is.
-/
set_option linter.unusedVariables false
set_option linter.unusedSimpArgs false
namespace Go.U
open Go Go.RowKit

section
variable {C : Cx} {ρ : Nat → Int} {w0 : World} {K : Nat → Option Obj} {ψ : Psi} {h : Hp} {w : World}
theorem VRs.one {as : List A} {us : List Value} {x : A} {r : List A} (hu : VRs ρ ψ (x :: r) us) : ∃ u vs, us = u :: vs ∧ VR ρ ψ x u ∧ VRs ρ ψ r vs := hu
theorem len_sound (m : Mem C ρ w0 K ψ h w) {t ty : TypeId} {ats : Array TypeId} {x : A} {v : Value} {vs : List Value} (h0 : ats[0]? = some t) (hv : VR ρ ψ x v) : Snd C ρ w0 K ψ w (do pure (.value (← Builtin.len_ ats ty (v :: vs).toArray))) (bLen C h t x) := by
  unfold bLen
  split
  · rename_i hu
    split
    · rename_i l
      have e : v = .string (bstr l) := hv
      subst e
      have hs : (bstr l).size = l.length := by simp [bstr, ByteArray.size]
      exact ⟨.int .i64 l.length, w, ψ, by simp [Builtin.len_, h0, run_underlying (und_ok m.ok hu), goInt, hs], Psi.le.refl ψ, m, rfl⟩
    · trivial
  · rename_i n _ hu
    exact ⟨.int .i64 n, w, ψ, by cases v <;> simp [Builtin.len_, h0, run_underlying (und_ok m.ok hu), goInt], Psi.le.refl ψ, m, rfl⟩
  · rename_i _ hu
    split
    · rename_i b n _ _
      cases b with
      | none =>
        obtain ⟨rfl, rfl⟩ := hv
        exact ⟨.int .i64 0, w, ψ, by simp [Builtin.len_, h0, run_underlying (und_ok m.ok hu), goInt], Psi.le.refl ψ, m, rfl⟩
      | some q =>
        obtain ⟨i, o, es⟩ := q
        obtain ⟨B, c, hB, rfl, _⟩ := hv
        exact ⟨.int .i64 n, w, ψ, by simp [Builtin.len_, h0, run_underlying (und_ok m.ok hu), goInt], Psi.le.refl ψ, m, rfl⟩
    · obtain ⟨p, c, rfl⟩ := hv
      exact ⟨.int .i64 0, w, ψ, by simp [Builtin.len_, h0, run_underlying (und_ok m.ok hu), goInt], Psi.le.refl ψ, m, rfl⟩
    · rename_i i o es c j
      obtain ⟨B, q, k, hB, hq, hlt, rfl, _⟩ := hv
      exact ⟨.int .i64 ((lenE c j).ev ρ), w, ψ, by simp [Builtin.len_, h0, run_underlying (und_ok m.ok hu), goInt, lenE_ev hq hlt], Psi.le.refl ψ, m, mkY_rel m.ok⟩
    · trivial
  · rename_i _ _ hu
    split
    · rename_i es he
      unfold entries at he
      split at he
      · cases he
        have e : v = .map none := hv
        subst e
        exact ⟨.int .i64 0, w, ψ, by simp [Builtin.len_, h0, run_underlying (und_ok m.ok hu), goInt], Psi.le.refl ψ, m, rfl⟩
      · rename_i r
        split at he
        · rename_i es' c hr
          cases he
          obtain ⟨B, l, h1, h2, h3⟩ := m.mapObj hr
          obtain ⟨B', h4, rfl⟩ := hv
          rw [h1] at h4; cases h4
          exact ⟨.int .i64 es.length, w, ψ, by simp [Builtin.len_, h0, run_underlying (und_ok m.ok hu), goInt, run_get h2 (by simp), h3.len], Psi.le.refl ψ, m, rfl⟩
        · cases he
      · cases he
    · trivial
  · trivial
theorem cap_sound (m : Mem C ρ w0 K ψ h w) {t ty : TypeId} {ats : Array TypeId} {x : A} {v : Value} {vs : List Value} (h0 : ats[0]? = some t) (hv : VR ρ ψ x v) : Snd C ρ w0 K ψ w (do pure (.value (← Builtin.cap_ ats ty (v :: vs).toArray))) (bCap C h t x) := by
  unfold bCap
  split
  · rename_i n _ hu
    exact ⟨.int .i64 n, w, ψ, by cases v <;> simp [Builtin.cap_, h0, run_underlying (und_ok m.ok hu), goInt], Psi.le.refl ψ, m, rfl⟩
  · rename_i _ hu
    split
    · obtain ⟨_, rfl⟩ := hv
      exact ⟨.int .i64 0, w, ψ, by simp [Builtin.cap_, h0, run_underlying (und_ok m.ok hu), goInt], Psi.le.refl ψ, m, rfl⟩
    · rename_i q l n
      obtain ⟨i, o, es⟩ := q
      obtain ⟨B, c, hB, rfl, _, _, _, g⟩ := hv
      obtain rfl := g rfl
      exact ⟨.int .i64 c, w, ψ, by simp [Builtin.cap_, h0, run_underlying (und_ok m.ok hu), goInt], Psi.le.refl ψ, m, rfl⟩
    · trivial
  · trivial
theorem minmax_sound {P : Program} {big : Bool} : ∀ {r : List A} {x a : A} {v : Value} {vs : List Value}, minmax big x r = some a → VR ρ ψ x v → VRs ρ ψ r vs → ∃ u, (vs.foldlM (bif big then Builtin.max2 else Builtin.min2) v).run P w = .ok u w ∧ VR ρ ψ a u
  | [], x, a, v, vs, ha, hv, hr => by
    have e : vs = [] := hr
    subst e
    have e2 : a = x := by cases x <;> simp [minmax] at ha <;> exact ha.symm
    subst e2
    exact ⟨v, by simp, hv⟩
  | y :: r, x, a, v, _, ha, hv, ⟨u, us, rfl, h1, h2⟩ => by
    cases x with
    | i k n =>
      cases y with
      | i k' n' =>
        simp only [minmax] at ha
        split at ha
        · rename_i hk
          subst hk
          have e1 : v = .int k n := hv
          have e2 : u = .int k n' := h1
          subst e1 e2
          obtain ⟨z, z1, z2⟩ := minmax_sound (P := P) (vs := us) (v := .int k (bif big then (if n' > n then n' else n) else (if n' < n then n' else n))) ha rfl h2
          refine ⟨z, ?_, z2⟩
          cases big with
          | true => simpa [Builtin.max2] using z1
          | false => simpa [Builtin.min2] using z1
        · cases ha
      | _ => simp [minmax] at ha
    | _ => simp [minmax] at ha
theorem minIn_ok : ∀ {l : List (SE × SE × SE)} {a b c : SE}, (∀ x ∈ l, (if x.2.1.ev ρ < x.1.ev ρ then x.2.1.ev ρ else x.1.ev ρ) = x.2.2.ev ρ) → minIn l a b = some c → (if b.ev ρ < a.ev ρ then b.ev ρ else a.ev ρ) = c.ev ρ
  | [], _, _, _, _, h => by cases h
  | (x, y, z) :: l, a, b, c, hl, h => by
    unfold minIn at h
    split at h
    · rename_i he
      obtain ⟨rfl, rfl⟩ := he
      cases h
      exact hl _ (List.mem_cons_self ..)
    · exact minIn_ok (fun x hx => hl x (List.mem_cons_of_mem _ hx)) h
theorem minA_sound (F : C.Ok ρ) {r : List A} {x a : A} {v : Value} {vs : List Value} (ha : minA C x r = some a) (hv : VR ρ ψ x v) (hr : VRs ρ ψ r vs) : ∃ u, (vs.foldlM Builtin.min2 v).run C.P w = .ok u w ∧ VR ρ ψ a u := by
  unfold minA at ha
  split at ha
  · rename_i a' he
    cases ha
    exact minmax_sound (big := false) (P := C.P) (w := w) he hv hr
  · split at ha
    case h_2 => cases ha
    rename_i y
    obtain ⟨u, us, rfl, h1, h2⟩ := hr
    have h2' : us = [] := h2
    subst h2'
    unfold minS at ha
    split at ha
    case h_2 => cases ha
    rename_i k k' e1 e2 k1 k2 k3 k4
    split at ha
    case isFalse => cases ha
    rename_i hk
    subst hk
    obtain ⟨c, hc, rfl⟩ := Option.map_eq_some_iff.1 ha
    have q1 := int_of hv k1 k3
    have q2 := int_of h1 k2 k4
    subst q1 q2
    have := minIn_ok F.mins hc
    refine ⟨.int k (c.ev ρ), ?_, mkY_rel F⟩
    simp [Builtin.min2, this]
theorem notInt_ok (k : C.Ok ρ) {u : TypeId} (hn : notInt C u = true) : C.P.underlying u = some .string ∨ ∃ e, C.P.underlying u = some (.slice e) := by
  unfold notInt at hn
  split at hn
  · rename_i hu; exact .inl (und_ok k hu)
  · rename_i hu; exact .inr ⟨_, und_ok k hu⟩
  · cases hn
theorem ofH_sound {s : Sem Value} {x : Option (A × Hp)} (hs : ∀ a h', x = some (a, h') → ValSnd C ρ w0 K ψ w s a h') : Snd C ρ w0 K ψ w (do pure (.value (← s))) (Res.ofH x) := by
  cases x with
  | none => trivial
  | some p => exact (hs p.1 p.2 rfl).snd
theorem ofS_sound {s : Sem Unit} {x : Option Hp} (hs : ∀ h', x = some h' → ∃ w', s.run C.P w = .ok () w' ∧ Mem C ρ w0 K ψ h' w') : Snd C ρ w0 K ψ w (do s; pure .skip) (Res.ofS x) := by
  cases x with
  | none => trivial
  | some h' =>
    obtain ⟨w', h1, h2⟩ := hs h' rfl
    exact ⟨w', ψ, by simp [h1], Psi.le.refl ψ, h2⟩
theorem get0 {ats : Array TypeId} {t : TypeId} {r : List TypeId} (h : ats.toList = t :: r) : ats[0]? = some t := by
  rw [← Array.getElem?_toList, h]; rfl
theorem get1 {ats : Array TypeId} {t : TypeId} {r : List TypeId} (h : ats.toList = t :: r) : ats[1]? = r[0]? := by
  rw [← Array.getElem?_toList, h]; rfl
theorem clear_sound (m : Mem C ρ w0 K ψ h w) {t ty : TypeId} {ats : Array TypeId} {x : A} {v : Value} (h0 : ats[0]? = some t) (hv : VR ρ ψ x v) : Snd C ρ w0 K ψ w (do pure (.value (← Builtin.clear_ ats ty #[v]))) (bClear C h t x) := by
  unfold bClear
  split
  case h_2 => trivial
  rename_i e hu
  have hu' := und_ok m.ok hu
  split
  · obtain ⟨rfl, rfl⟩ := hv
    exact ⟨.tuple #[], w, ψ, by simp [Builtin.clear_, h0, run_underlying hu'], Psi.le.refl ψ, m, ⟨[], rfl, rfl⟩⟩
  · rename_i i o es n cap ex
    obtain ⟨B, c, hB, rfl, g1, g2, _⟩ := hv
    cases hn : Nat.beq n 0 with
    | true =>
      obtain rfl := Nat.eq_of_beq_eq_true hn
      rw [cond_true]
      exact ⟨.tuple #[], w, ψ, by simp [Builtin.clear_, h0, run_underlying hu'], Psi.le.refl ψ, m, ⟨[], rfl, rfl⟩⟩
    | false =>
      rw [cond_false]
      have hn0 := Nat.ne_of_beq_eq_false hn
      split
      · rename_i es' z hes hz
        cases hc : (Nat.beq es es' && (lenIs z.cs es && Nat.blt 0 es)) with
        | false => trivial
        | true =>
          rw [cond_true]
          simp only [Bool.and_eq_true] at hc
          obtain ⟨c1, c2, c3⟩ := hc
          have hpos : 0 < es := by simpa [Nat.blt_eq] using c3
          obtain ⟨vz, z1, z2⟩ := zeroOf_ok (ψ := ψ) (w := w) m.ok hz
          obtain ⟨uz, k1, k2⟩ := z2.cells
          have huz : uz.length = es := by rw [k2.len, lenIs_eq c2]
          unfold clearIn
          split
          · rename_i h' hp
            obtain ⟨w', q1, q2⟩ := putAt_sound m hp (VRs.rep k2 n) hB
            have hzc : (Builtin.zeroCells vz.cells n).toList = (List.replicate n uz).flatten := by
              rw [← range_rep huz hpos n]
              unfold Builtin.zeroCells
              rw [k1]; simp [huz]
            refine ⟨.tuple #[], w', ψ, ?_, Psi.le.refl ψ, q2, ⟨[], rfl, rfl⟩⟩
            cases n with
            | zero => exact absurd rfl hn0
            | succ n => simp [Builtin.clear_, h0, run_underlying hu', z1, hzc, q1]
          · trivial
      · trivial
  · trivial
theorem bi_sound (m : Mem C ρ w0 K ψ h w) {b : Builtin} {ats : Array TypeId} {ty : TypeId} {consts : Array Bool} {args : List A} {us : List Value} (hu : VRs ρ ψ args us) :
    Snd C ρ w0 K ψ w (Go.builtin b ats ty consts us.toArray) (U.builtin C b ats.toList args h) := by
  have two : ∀ {x y : A}, args = [x, y] → ∃ u v, us = [u, v] ∧ VR ρ ψ x u ∧ VR ρ ψ y v := by
    rintro x y rfl
    obtain ⟨u, _, rfl, h1, v, _, rfl, h2, h3⟩ := hu
    have h3' : _ = [] := h3
    subst h3'
    exact ⟨u, v, rfl, h1, h2⟩
  unfold U.builtin
  split
  · split
    · rename_i t r x q he
      obtain ⟨u, vs, rfl, h1, h2⟩ := hu
      exact len_sound m (get0 he) h1
    · trivial
  · split
    · rename_i t r x q he
      obtain ⟨u, vs, rfl, h1, h2⟩ := hu
      exact cap_sound m (get0 he) h1
    · trivial
  · split
    · rename_i x y
      obtain ⟨u, v, rfl, h1, h2⟩ := two rfl
      show Snd C ρ w0 K ψ w _ (bAppend C h ats.toList x y)
      unfold bAppend
      split
      · rename_i t he
        exact ofH_sound fun a h' ha => append_sound m h1 h2 (get0 he) (fun u hu => by rw [get1 he] at hu; cases hu) ha
      · rename_i t q r he
        cases hn : notInt C q with
        | false => trivial
        | true =>
          exact ofH_sound fun a h' ha => append_sound m h1 h2 (get0 he) (fun u hu => by rw [get1 he] at hu; cases hu; exact notInt_ok m.ok hn) ha
      · trivial
    · trivial
  · split
    · rename_i x y
      obtain ⟨u, v, rfl, h1, h2⟩ := two rfl
      cases he : ats.toList with
      | nil => trivial
      | cons t r =>
        exact ofH_sound fun a h' ha => copy_sound m h1 h2 (get0 he) ha
    · trivial
  · split
    · rename_i x y
      obtain ⟨u, v, rfl, h1, h2⟩ := two rfl
      cases he : ats.toList with
      | nil => trivial
      | cons t r =>
        show Snd C ρ w0 K ψ w _ (bDelete C h t x y)
        unfold bDelete
        split
        · rename_i h' hd
          obtain ⟨w', k1, k2⟩ := del_sound (ty := ty) m h1 h2 (get0 he) hd
          exact ⟨.tuple #[], w', ψ, by simp [Go.builtin, k1], Psi.le.refl ψ, k2, ⟨[], rfl, rfl⟩⟩
        · trivial
    · trivial
  · split
    · rename_i x r
      obtain ⟨u, vs, rfl, h1, h2⟩ := hu
      refine Snd.ofR m fun a ha => ?_
      obtain ⟨z, z1, z2⟩ := minmax_sound (P := C.P) (w := w) ha h1 h2
      exact ⟨z, by simpa [Builtin.max_] using z1, z2⟩
    · trivial
  · split
    · rename_i x r
      obtain ⟨u, vs, rfl, h1, h2⟩ := hu
      refine Snd.ofR m fun a ha => ?_
      obtain ⟨z, z1, z2⟩ := minA_sound (w := w) m.ok ha h1 h2
      exact ⟨z, by simpa [Builtin.min_] using z1, z2⟩
    · trivial
  · split
    · rename_i t r x he
      obtain ⟨u, vs, rfl, h1, h2⟩ := hu
      have h2' : vs = [] := h2
      subst h2'
      exact clear_sound m (get0 he) h1
    · trivial
  · exact ⟨w, ψ, rfl, Psi.le.refl ψ, m⟩
  · split
    · obtain ⟨u, vs, rfl, h1, h2⟩ := hu
      have h2' : vs = [] := h2
      subst h2'
      exact data_sound m h1
    · trivial
  · split
    · rename_i x y
      obtain ⟨u, v, rfl, h1, h2⟩ := two rfl
      exact str_sound m h1 h2
    · trivial
  · trivial
theorem isPtr_ok (k : C.Ok ρ) {t : TypeId} {d : TypeDesc} (hu : C.P.underlying t = some d) (hp : isPtr C t = true) : ∃ e, d = .pointer e := by
  unfold isPtr at hp
  split at hp
  · rename_i hu2
    have := und_ok k hu2
    rw [hu] at this
    exact ⟨_, Option.some.inj this⟩
  · cases hp
theorem ti_und (k : C.Ok ρ) {t : TypeId} {i : TypeInfo} (h : infOf C t = some i) : ∃ d, und C t = some d := by
  unfold infOf at h
  unfold und
  split at h
  · rename_i j hj; exact ⟨j.und, rfl⟩
  · cases h
theorem invoke_sound (m : Mem C ρ w0 K ψ h w) {recv : A} {v : Value} {name : String} {args : List A} {us : List Value} (hr : VR ρ ψ recv v) (hu : VRs ρ ψ args us) : Snd C ρ w0 K ψ w (callMethod v name us.toArray) (U.invoke C recv name args h) := by
  unfold U.invoke
  split
  · rename_i t x
    obtain ⟨u, rfl, hx⟩ := hr
    split
    · rename_i f pr hm
      cases hp : pr == isPtr C t with
      | false => trivial
      | true =>
        rw [cond_true]
        have hpe : pr = isPtr C t := by simpa using hp
        unfold methodOf at hm
        split at hm
        · rename_i i hi
          split at hm
          · rename_i mm hmm
            cases hpath : mm.path.isEmpty with
            | false => rw [hpath] at hm; cases hm
            | true =>
              rw [hpath, cond_true] at hm
              obtain ⟨d, hd⟩ := ti_und m.ok hi
              have hd' := und_ok m.ok hd
              have hi' := inf_ok m.ok hi
              have hfuel : C.P.types.size + Made.depth = (C.P.types.size + 99) + 1 := rfl
              have hpl : mm.path.toList = [] := by simpa using hpath
              refine ⟨u :: us, w, ψ, ?_, Psi.le.refl ψ, m, VRs.cons hx hu⟩
              have hrecv : (receiverAt t (.val u) pr (some ((name.splitOn ".").getLastD name))).run C.P w = .ok u w := by
                cases hq : isPtr C t with
                | true =>
                  obtain ⟨e, rfl⟩ := isPtr_ok m.ok hd' hq
                  rw [hpe, hq]
                  simp [receiverAt, run_underlying hd', Place.get]
                | false =>
                  have hne : ∀ e, d ≠ .pointer e := by
                    rintro e rfl
                    unfold isPtr at hq
                    rw [hd] at hq
                    cases hq
                  rw [hpe, hq]
                  cases d <;> first | exact absurd rfl (hne _) | simp [receiverAt, run_underlying hd', Place.get]
              have hmeth : (method (C.P.types.size + Made.depth) t u name).run C.P w = .ok (f, u) w := by
                rw [hfuel]
                unfold method
                simp only [Sem.run_bind, typeInfo, program, Sem.run, hi', Result.andThen_ok, Sem.run_pure, hmm, hpl, follow, hm, hpath, if_true, hrecv]
              simp [callMethod, program, Sem.run, hmeth]
          · cases hm
        · cases hm
    · trivial
  · trivial
theorem callVal_sound (m : Mem C ρ w0 K ψ h w) {fn fn' : Fn} {args cap : List A} {us vs : List Value} (hf : FnR ψ fn fn') (hu : VRs ρ ψ args us) (hv : VRs ρ ψ cap vs) : Snd C ρ w0 K ψ w (Go.invoke (.fn fn' vs.toArray) us.toArray) (callVal C fn args cap h) := by
  unfold callVal
  split
  · rename_i f
    have e : fn' = .func f := hf
    subst e
    exact ⟨us ++ vs, w, ψ, by simp [Go.invoke], Psi.le.refl ψ, m, VRs.append hu hv⟩
  · rename_i name
    have e : fn' = .method name := hf
    subst e
    split
    · rename_i recv args
      obtain ⟨u, us, rfl, h1, h2⟩ := hu
      have := invoke_sound m (name := name) h1 h2
      have he : Go.invoke (.fn (.method name) vs.toArray) (u :: us).toArray = callMethod u name us.toArray := by
        simp [Go.invoke]
      rw [he]
      exact this
    · trivial
  · rename_i l
    obtain ⟨B, hB, rfl⟩ := hf
    exact ⟨B, us, w, ψ, by simp [Go.invoke], Psi.le.refl ψ, m, hB, hu⟩
  · trivial
theorem call_sound (m : Mem C ρ w0 K ψ h w) {fr : Frame} {tm : T A} (ht : TR ρ ψ tm fr.tmps) {c : Call} {ty : TypeId} : Snd C ρ w0 K ψ w (do let d ← resolve fr.eval c ty; Go.invoke d.target d.args) (xCall C tm h c) := by
  unfold xCall
  split
  · trivial
  · rename_i args ha
    have hu := opds_rel m ht ha
    have hmap : c.args.map fr.eval = (c.args.toList.map fr.eval).toArray := arr_map _ _
    split
    · rename_i b hc
      have := bi_sound m (b := b) (ats := c.argTypes) (ty := ty) (consts := c.args.map fun | .const _ => true | _ => false) hu
      simp only [resolve, hc, hmap, pure_bind, Go.invoke]
      exact this
    · rename_i r name hc
      simp only [resolve, hc, hmap, pure_bind]
      refine on_sound m ht (s := fun v => Go.invoke (.fn (.method name) #[]) (#[v] ++ (c.args.toList.map fr.eval).toArray)) fun a hr => ?_
      have := invoke_sound m (name := name) hr hu
      have he : Go.invoke (.fn (.method name) #[]) (#[fr.eval r] ++ (c.args.toList.map fr.eval).toArray) = callMethod (fr.eval r) name (c.args.toList.map fr.eval).toArray := by
        simp [Go.invoke]
        rw [List.take_of_length_le (by simp)]
      rw [he]
      exact this
    · rename_i f hc
      simp only [resolve, hc, hmap]
      refine on_sound m ht (s := fun v => (do let d ← Deferred.ofValue v (c.args.toList.map fr.eval).toArray; Go.invoke d.target d.args)) fun a hr => ?_
      unfold callFn
      split
      · rename_i fn first cap
        obtain ⟨fn', us, vs, h1, h2, h3, h4⟩ := hr
        have := callVal_sound m h1 (VRs.append h3 hu) h4
        rw [h2]
        simp only [Deferred.ofValue, pure_bind, List.append_toArray]
        exact this
      · trivial
theorem defer_sound (m : Mem C ρ w0 K ψ h w) {fr : Frame} {tm : T A} (ht : TR ρ ψ tm fr.tmps) {c : Call} {ty : TypeId} : Snd C ρ w0 K ψ w (do pure (.defer (← resolve fr.eval c ty))) (xDefer C tm h c) := by
  unfold xDefer
  split
  · rename_i args f ha hc
    have hu := opds_rel m ht ha
    have hmap : c.args.map fr.eval = (c.args.toList.map fr.eval).toArray := arr_map _ _
    simp only [resolve, hc, hmap]
    refine on_sound m ht (s := fun v => (do pure (.defer (← Deferred.ofValue v (c.args.toList.map fr.eval).toArray)))) fun a hr => ?_
    split
    · rename_i fn first cap
      obtain ⟨fn', us, vs, h1, h2, h3, h4⟩ := hr
      rw [h2]
      exact ⟨{ target := .fn fn' vs.toArray, args := (us ++ c.args.toList.map fr.eval).toArray }, w, ψ, by simp [Deferred.ofValue], Psi.le.refl ψ, m, ⟨fn', _, vs, h1, rfl, VRs.append h3 hu, h4⟩⟩
    · trivial
  · trivial
/-- What the evaluator says of an operation is what the machine does. -/
theorem op_sound (m : Mem C ρ w0 K ψ h w) {fr : Frame} {tm : T A} (ht : TR ρ ψ tm fr.tmps) (o : Oper) : Snd C ρ w0 K ψ w (execOp fr.eval o) ((exOp C o.op).f tm h) := by
  unfold exOp
  split <;> rename_i ho
  all_goals try simp only [execOp, ho]
  case h_1 => exact move_sound m ht
  case h_2 => exact move_sound m ht
  case h_3 => exact on_sound m ht (s := fun v => (do pure (.value (if ← asBool v then _ else _)))) fun a ha => pick_sound m ht ha
  case h_4 => exact alloc_sound m
  case h_5 => exact on_sound m ht (s := fun v => (do pure (.value (← Instr.box _ v)))) fun a ha => box_sound m ha
  case h_6 => exact build_sound m ht
  case h_7 => exact buildRow_sound m ht
  case h_8 => exact on_sound m ht (s := fun v => (do pure (.value (← Instr.loadAt _ v)))) fun a ha => load_sound m ha
  case h_9 => exact on_sound m ht (s := fun v => (do Instr.storeAt _ v (fr.eval _); pure .skip)) fun a ha => on_sound m ht (s := fun u => (do Instr.storeAt _ (fr.eval _) u; pure .skip)) fun b hb => store_sound m ha hb
  case h_10 => 
    have := fun a ha => nil_sound (a := a) m (fr := fr) ha ho
    simp only [execOp, ho] at this
    exact on_sound m ht (s := fun v => (match v with
      | .pointer none | .nilIface | .nilFunc => runtimePanic .nilDeref
      | .func (.method name) first captured =>
        match (first[0]? : Option Value) with
        | some .nilIface => runtimePanic .nilDeref
        | some (.iface t w) => do
          if (← nilAhead ((← program).types.size + Made.depth) t w name) != some false then
            unsupported (.noEntry "op/nilCheck.the method's receiver behind this interface value is a nil pointer, or cannot be seen to be none, and the arguments act or may panic (ledger 612)")
          pure (.value (.func (.method name) first captured))
        | _ => pure (.value (.func (.method name) first captured))
      | x => pure (.value x) : Sem Next)) fun a ha => this a ha
  case h_11 => exact on_sound m ht (s := fun v => (do pure (.value (← (do eqGuard _ _ _ _ v (fr.eval _); Go.binOp _ _ v (fr.eval _)))))) fun a ha => on_sound m ht (s := fun u => (do pure (.value (← (do eqGuard _ _ _ _ (fr.eval _) u; Go.binOp _ _ (fr.eval _) u))))) fun b hb => bin_sound m ha hb
  case h_12 => exact on_sound m ht (s := fun v => (do pure (.value (← Op.unary _ v)))) fun a ha => un_sound m ha
  case h_13 => exact on_sound m ht (s := fun v => (do pure (.value (← Go.convert _ _ v)))) fun a ha => conv_sound m ha
  case h_14 => exact on_sound m ht (s := fun v => (do pure (.value (← Instr.makeInterface _ v)))) fun a ha => ifc_sound m ha
  case h_15 => exact func_sound m ht
  case h_16 => exact map_sound m ht
  case h_17 => exact on_sound m ht (s := fun v => (do pure (.value (← Instr.makeSlice _ v (fr.eval _))))) fun a ha => on_sound m ht (s := fun u => (do pure (.value (← Instr.makeSlice _ (fr.eval _) u)))) fun b hb => make_sound m ha hb
  case h_18 => exact on_sound m ht (s := fun v => (do pure (.value (← Instr.sliceAt _ v _ _ _)))) fun a ha => slice_sound (x := .ni) m ht ha
  case h_19 => exact on_sound m ht (s := fun v => (do pure (.value (← Instr.fieldAt _ v _)))) fun a ha => fieldAt_sound m ha
  case h_20 => exact on_sound m ht (s := fun v => (do pure (.value (← Instr.field _ v _)))) fun a ha => field_sound m ha
  case h_21 => exact on_sound m ht (s := fun v => (do pure (.value (← Instr.indexAt _ v (fr.eval _))))) fun a ha => onInt_sound m ht (s := fun u => (do pure (.value (← Instr.indexAt _ (fr.eval _) u)))) fun k n he => by rw [he]; exact indexAt_sound m ha
  case h_22 => exact on_sound m ht (s := fun v => (do pure (.value (← Instr.index _ v (fr.eval _))))) fun a ha => onInt_sound m ht (s := fun u => (do pure (.value (← Instr.index _ (fr.eval _) u)))) fun k n he => by rw [he]; exact index_sound m ha
  case h_23 => exact on_sound m ht (s := fun v => (do pure (.value (← Instr.lookup _ v (fr.eval _) _)))) fun a ha => on_sound m ht (s := fun u => (do pure (.value (← Instr.lookup _ (fr.eval _) u _)))) fun b hb => Snd.ofR m fun r hr => lookup_sound m ha hb hr
  case h_24 => exact on_sound m ht (s := fun v => (do Instr.mapUpdate _ v (fr.eval _) (fr.eval _); pure .skip)) fun a ha => on_sound m ht (s := fun u => (do Instr.mapUpdate _ (fr.eval _) u (fr.eval _); pure .skip)) fun b hb => on_sound m ht (s := fun u => (do Instr.mapUpdate _ (fr.eval _) (fr.eval _) u; pure .skip)) fun c hc => ofS_sound fun h' hh => mapUpdate_sound m ha hb hc hh
  case h_25 => exact on_sound m ht (s := fun v => (do Instr.mapUpdate _ v (fr.eval _) (fr.eval _); pure .skip)) fun a ha => on_sound m ht (s := fun u => (do Instr.mapUpdate _ (fr.eval _) u (fr.eval _); pure .skip)) fun b hb => on_sound m ht (s := fun u => (do Instr.mapUpdate _ (fr.eval _) (fr.eval _) u; pure .skip)) fun c hc => ofS_sound fun h' hh => mapUpdate_sound m ha hb hc hh
  case h_26 => exact on_sound m ht (s := fun v => (do pure (.value (← Instr.mapEntry _ v (fr.eval _))))) fun a ha => on_sound m ht (s := fun u => (do pure (.value (← Instr.mapEntry _ (fr.eval _) u)))) fun b hb => ofH_sound fun r h' hr => mapEntry_sound m ha hb hr
  case h_27 => exact on_sound m ht (s := fun v => (do Instr.entryStore _ v (fr.eval _) (fr.eval _); pure .skip)) fun a ha => on_sound m ht (s := fun u => (do Instr.entryStore _ (fr.eval _) u (fr.eval _); pure .skip)) fun b hb => on_sound m ht (s := fun u => (do Instr.entryStore _ (fr.eval _) (fr.eval _) u; pure .skip)) fun c hc => ofS_sound fun h' hh => entryStore_sound m ha hb hc hh
  case h_28 => exact on_sound m ht (s := fun v => (do pure (.value (← Instr.range _ v)))) fun a ha => range_sound m ha
  case h_29 => exact on_sound m ht (s := fun v => (do pure (.value (← Instr.next v true _)))) fun a ha => next_sound m ha
  case h_30 => exact on_sound m ht (s := fun v => (do pure (.value (← Instr.entry v)))) fun a ha => entry_sound m ha
  case h_31 => exact on_sound m ht (s := fun v => (do pure (.value (← Instr.typeAssert v _ _ _)))) fun a ha => assert_sound m ha
  case h_32 => exact on_sound m ht (s := fun v => (do pure (.value (← Instr.extract v _)))) fun a ha => extract_sound m ha
  case h_33 => exact call_sound m ht
  case h_34 => exact defer_sound m ht
  case h_35 => exact on_sound m ht (s := fun v => (do pure (.value (← Instr.panic v)))) fun a ha => panic_sound m ha
  case h_36 => trivial
end
end Go.U
/-
  U, part 15: the orders that a region may draw.
-/
set_option linter.unusedVariables false
set_option linter.unusedSimpArgs false
namespace Go.U
open Go Go.RowKit

/-- What is left of an order: nothing is ahead of what it is behind. -/
structure Valid (os : List Oper) (R : List Nat) : Prop where
  nd : R.Nodup
  lt : ∀ i ∈ R, i < os.length
  dn : ∀ i o, os[i]? = some o → i ∉ R → ∀ e ∈ anyOn o, e ∉ R
  pw : ∀ R1 i R2, R = R1 ++ i :: R2 → ∀ o, os[i]? = some o → ∀ e ∈ anyOn o, e ∉ i :: R2
theorem Valid.tail {os : List Oper} {i : Nat} {R : List Nat} (h : Valid os (i :: R)) : Valid os R := by
  refine ⟨(List.nodup_cons.1 h.nd).2, fun j hj => h.lt j (List.mem_cons_of_mem _ hj), fun j o ho hj e he => ?_, fun R1 j R2 hR o ho e he => ?_⟩
  · by_cases hji : j = i
    · subst hji
      exact fun h' => h.pw [] j R rfl o ho e he (List.mem_cons_of_mem _ h')
    · exact fun h' => h.dn j o ho (fun hx => (List.mem_cons.1 hx).elim hji hj) e he (List.mem_cons_of_mem _ h')
  · exact h.pw (i :: R1) j R2 (by rw [hR]; rfl) o ho e he
theorem mem_anyOn {o : Oper} {j : Nat} : j ∈ anyOn o ↔ ∃ e ∈ o.after, Region.binds .any e = true ∧ e.on = j := by
  unfold anyOn
  simp only [List.mem_map, List.mem_filter, Array.mem_toList_iff]
  constructor
  · rintro ⟨e, ⟨h1, h2⟩, h3⟩; exact ⟨e, h1, h2, h3⟩
  · rintro ⟨e, h1, h2, h3⟩; exact ⟨e, ⟨h1, h2⟩, h3⟩
theorem lin_go (ops : Array Oper) : ∀ (fuel t : Nat) (listed : Array Bool),
    (Region.linearise.go .any ops fuel t listed []).Nodup ∧
    (∀ i ∈ Region.linearise.go .any ops fuel t listed [], i < ops.size ∧ listed.getD i true = false) ∧
    (∀ R1 i R2, Region.linearise.go .any ops fuel t listed [] = R1 ++ i :: R2 → ∀ o, ops[i]? = some o → ∀ e ∈ anyOn o, e ∉ i :: R2)
  | 0, t, listed => by simp [Region.linearise.go]
  | fuel + 1, t, listed => by
    have hgo : Region.linearise.go .any ops (fuel + 1) t listed [] = (match (Region.ready .any ops listed)[t % (Region.ready .any ops listed).length]? with
      | some i => i :: Region.linearise.go .any ops fuel (t / (Region.ready .any ops listed).length) (listed.setIfInBounds i true) []
      | none => []) := by
      simp only [Region.linearise.go]
      change (match (Region.ready .any ops listed)[t % (Region.ready .any ops listed).length]? with
        | some i => Region.linearise.go .any ops fuel (t / (Region.ready .any ops listed).length) (listed.setIfInBounds i true) [i]
        | none => [].reverse) = _
      cases (Region.ready .any ops listed)[t % (Region.ready .any ops listed).length]? with
      | none => rfl
      | some i => simp only; rw [linearise_go_acc]; rfl
    rw [hgo]
    cases hi : (Region.ready .any ops listed)[t % (Region.ready .any ops listed).length]? with
    | none => simp
    | some i =>
      simp only
      obtain ⟨h0, o, ho, hall⟩ := mem_ready.1 (List.mem_of_getElem? hi)
      have hlt : i < ops.size := (Array.getElem?_eq_some_iff.1 ho).1
      obtain ⟨a1, a2, a3⟩ := lin_go ops fuel (t / (Region.ready .any ops listed).length) (listed.setIfInBounds i true)
      have hni : i ∉ Region.linearise.go .any ops fuel (t / (Region.ready .any ops listed).length) (listed.setIfInBounds i true) [] := fun hm => by
        have h1 := (a2 i hm).2
        have hsz : i < listed.size := by
          rcases Nat.lt_or_ge i listed.size with h' | h'
          · exact h'
          · simp [Array.getElem?_eq_none h'] at h0
        simp [hsz] at h1
      refine ⟨List.nodup_cons.2 ⟨hni, a1⟩, fun j hj => ?_, fun R1 j R2 hR o' ho' e he => ?_⟩
      · rcases List.mem_cons.1 hj with rfl | hj
        · exact ⟨hlt, h0⟩
        · obtain ⟨b1, b2⟩ := a2 j hj
          have hne : i ≠ j := fun h => hni (h ▸ hj)
          rw [getD_set_ne true hne] at b2
          exact ⟨b1, b2⟩
      · cases R1 with
        | nil =>
          simp only [List.nil_append, List.cons.injEq] at hR
          obtain ⟨rfl, rfl⟩ := hR
          rw [ho] at ho'; cases ho'
          obtain ⟨ed, g1, g2, g3⟩ := mem_anyOn.1 he
          have hl := hall ed g1 g2
          rw [g3] at hl
          intro hm
          rcases List.mem_cons.1 hm with rfl | hm
          · have : listed.getD e true = true := by
              have hsz : e < listed.size := by
                rcases Nat.lt_or_ge e listed.size with h' | h'
                · exact h'
                · simp [Array.getElem?_eq_none h'] at hl
              simpa [hsz] using hl
            rw [h0] at this; cases this
          · have h1 := (a2 e hm).2
            have h2 := getD_set_true (i := i) hl
            have hsz : e < (listed.setIfInBounds i true).size := by
              rcases Nat.lt_or_ge e (listed.setIfInBounds i true).size with h' | h'
              · exact h'
              · rw [Array.getD_eq_getD_getElem?, Array.getElem?_eq_none h'] at h2; cases h2
            rw [Array.getD_eq_getD_getElem?, Array.getElem?_eq_getElem hsz] at h1 h2
            simp only [Option.getD_some] at h1 h2
            rw [h1] at h2; cases h2
        | cons x R1 =>
          simp only [List.cons_append, List.cons.injEq] at hR
          exact a3 R1 j R2 hR.2 o' ho' e he
def unl (n : Nat) (listed : Array Bool) : Nat := ((List.range n).filter fun i => !listed.getD i true).length
theorem unl_set {n : Nat} {listed : Array Bool} {i : Nat} (hi : i < n) (h0 : listed.getD i true = false) : unl n (listed.setIfInBounds i true) + 1 ≤ unl n listed := by
  unfold unl
  have hmem : i ∈ (List.range n).filter fun j => !listed.getD j true := by
    rw [List.mem_filter, h0]; exact ⟨List.mem_range.2 hi, rfl⟩
  have hnd : ((List.range n).filter fun j => !listed.getD j true).Nodup := List.nodup_range.filter _
  have hsub : ((List.range n).filter fun j => !(listed.setIfInBounds i true).getD j true) = ((List.range n).filter fun j => !listed.getD j true).erase i := by
    rw [hnd.erase_eq_filter, List.filter_filter]
    apply List.filter_congr
    intro j hj
    by_cases hij : j = i
    · subst hij
      have hsz : j < listed.size := by
        rcases Nat.lt_or_ge j listed.size with h' | h'
        · exact h'
        · simp [Array.getElem?_eq_none h'] at h0
      simp [hsz]
    · rw [getD_set_ne true (Ne.symm hij)]
      simp [hij]
  rw [hsub, List.length_erase_of_mem hmem]
  have := List.length_pos_of_mem hmem
  omega
theorem lin_all (ops : Array Oper) (hed : ∀ i o, ops[i]? = some o → ∀ e ∈ anyOn o, e < i) : ∀ (fuel t : Nat) (listed : Array Bool), listed.size = ops.size → unl ops.size listed ≤ fuel →
    ∀ i, i < ops.size → listed.getD i true = true ∨ i ∈ Region.linearise.go .any ops fuel t listed []
  | 0, t, listed, hsz, hu, i, hi => by
    left
    cases hl : listed.getD i true with
    | true => rfl
    | false =>
      have : i ∈ (List.range ops.size).filter fun j => !listed.getD j true := by simp only [List.mem_filter, List.mem_range, hl]; exact ⟨hi, rfl⟩
      have := List.length_pos_of_mem this
      unfold unl at hu
      omega
  | fuel + 1, t, listed, hsz, hu, i, hi => by
    have hgo : Region.linearise.go .any ops (fuel + 1) t listed [] = (match (Region.ready .any ops listed)[t % (Region.ready .any ops listed).length]? with
      | some i => i :: Region.linearise.go .any ops fuel (t / (Region.ready .any ops listed).length) (listed.setIfInBounds i true) []
      | none => []) := by
      simp only [Region.linearise.go]
      change (match (Region.ready .any ops listed)[t % (Region.ready .any ops listed).length]? with
        | some i => Region.linearise.go .any ops fuel (t / (Region.ready .any ops listed).length) (listed.setIfInBounds i true) [i]
        | none => [].reverse) = _
      cases (Region.ready .any ops listed)[t % (Region.ready .any ops listed).length]? with
      | none => rfl
      | some i => simp only; rw [linearise_go_acc]; rfl
    rw [hgo]
    cases hj : (Region.ready .any ops listed)[t % (Region.ready .any ops listed).length]? with
    | none =>
      left
      have hnil : Region.ready .any ops listed = [] := by
        cases hr : Region.ready .any ops listed with
        | nil => rfl
        | cons x xs =>
          rw [hr] at hj
          have hlt : t % (x :: xs).length < (x :: xs).length := Nat.mod_lt _ (by simp)
          rw [List.getElem?_eq_getElem hlt] at hj
          cases hj
      -- the least one that is not listed would be ready
      have key : ∀ k, k < ops.size → listed.getD k true = true := by
        intro k
        induction k using Nat.strongRecOn with
        | _ k ih =>
          intro hk
          cases hl : listed.getD k true with
          | true => rfl
          | false =>
            have hr : k ∈ Region.ready .any ops listed := mem_ready.2 ⟨hl, ops[k], by simp [hk], fun e he hb => by
              have h1 := hed k ops[k] (by simp [hk]) e.on (mem_anyOn.2 ⟨e, he, hb, rfl⟩)
              have h2 := ih e.on h1 (by omega)
              have h3 : e.on < listed.size := by omega
              simpa [h3] using h2⟩
            rw [hnil] at hr; cases hr
      exact key i hi
    | some j =>
      simp only
      obtain ⟨h0, o, ho, hall⟩ := mem_ready.1 (List.mem_of_getElem? hj)
      have hlt : j < ops.size := (Array.getElem?_eq_some_iff.1 ho).1
      have hu' := unl_set hlt h0
      rcases lin_all ops hed fuel (t / (Region.ready .any ops listed).length) (listed.setIfInBounds j true) (by simp [hsz]) (by omega) i hi with h | h
      · by_cases hij : j = i
        · subst hij; exact .inr (List.mem_cons_self ..)
        · rw [getD_set_ne true hij] at h; exact .inl h
      · exact .inr (List.mem_cons_of_mem _ h)
theorem edges_of : ∀ {os : List Oper} {k : Nat}, edgesOk os k = true → ∀ i o, os[i]? = some o → ∀ e ∈ anyOn o, e < k + i
  | [], k, _, i, o, ho => by simp at ho
  | a :: os, k, h, i, o, ho => by
    simp only [edgesOk, Bool.and_eq_true, List.all_eq_true] at h
    intro e he
    cases i with
    | zero => simp at ho; subst ho; have := h.1 e he; rw [Nat.blt_eq] at this; exact this
    | succ i => have := edges_of h.2 i o (by simpa using ho) e he; omega
/-- Whatever order is drawn, it is one. -/
theorem sched_valid {ops : Array Oper} (he : edgesOk ops.toList 0 = true) (t : Nat) : Valid ops.toList (Region.schedule true ops t) ∧ ∀ i, i < ops.size → i ∈ Region.schedule true ops t := by
  have hs : Region.schedule true ops t = Region.linearise.go .any ops ops.size t (Array.replicate ops.size false) [] := by
    simp [Region.schedule, Region.linearise]
  rw [hs]
  obtain ⟨a1, a2, a3⟩ := lin_go ops ops.size t (Array.replicate ops.size false)
  have hed : ∀ i o, ops[i]? = some o → ∀ e ∈ anyOn o, e < i := fun i o ho e hm => by
    have := edges_of he i o (by rw [Array.getElem?_toList]; exact ho) e hm
    omega
  have hall : ∀ i, i < ops.size → i ∈ Region.linearise.go .any ops ops.size t (Array.replicate ops.size false) [] := fun i hi => by
    rcases lin_all ops hed ops.size t (Array.replicate ops.size false) (by simp) (by
      unfold unl
      refine Nat.le_trans (List.length_filter_le _ _) ?_
      simp) i hi with h | h
    · rw [Array.getD_eq_getD_getElem?, Array.getElem?_replicate, if_pos hi] at h; cases h
    · exact h
  refine ⟨⟨a1, fun i hi => by simpa using (a2 i hi).1, fun i o ho hn => absurd (hall i ?_) hn, fun R1 i R2 hR o ho e he => a3 R1 i R2 hR o (by rw [← Array.getElem?_toList]; exact ho) e he⟩, hall⟩
  have := (List.getElem?_eq_some_iff.1 ho).1
  simpa using this
end Go.U
/-
  U, part 16 (written by wip/u/mkq.py out of parts 8 to 14): operations that change nothing: the world and the memory are as they were.
-/
set_option linter.unusedVariables false
set_option linter.unusedSimpArgs false
namespace Go.U
open Go Go.RowKit

/-- An operation that yields a value and changes nothing. -/
def Qv (C : Cx) (ρ : Nat → Int) (ψ : Psi) (h : Hp) (w : World) (s : Sem Next) : Res → Prop
  | .val a h1 => ∃ v w' ψ', s.run C.P w = .ok (.value v) w' ∧ ψ.le ψ' ∧ (w' = w ∧ ψ' = ψ ∧ h1 = h) ∧ VR ρ ψ' a v
  | .bad => True
  | _ => False
section
variable {C : Cx} {ρ : Nat → Int} {w0 : World} {K : Nat → Option Obj} {ψ : Psi} {h : Hp} {w : World}
theorem Qv.ofR {s : Sem Value} {x : Option A} (hs : ∀ a, x = some a → ∃ v, s.run C.P w = .ok v w ∧ VR ρ ψ a v) : Qv C ρ ψ h w (do Pure.pure (.value (← s))) (Res.of h x) := by
  cases x with
  | none => trivial
  | some a =>
    obtain ⟨v, h1, h2⟩ := hs a rfl
    exact ⟨v, w, ψ, by simp [h1], Psi.le.refl ψ, ⟨rfl, rfl, rfl⟩, h2⟩
theorem on_sound_q (m : Mem C ρ w0 K ψ h w) {fr : Frame} {tm : T A} (ht : TR ρ ψ tm fr.tmps) {x : Operand} {f : A → Res} {s : Value → Sem Next} (hs : ∀ a, VR ρ ψ a (fr.eval x) → Qv C ρ ψ h w (s (fr.eval x)) (f a)) :
    Qv C ρ ψ h w (s (fr.eval x)) (on (opdOf C.N tm x) f) := by
  cases hx : opdOf C.N tm x with
  | none => trivial
  | some a => exact hs a (opd_rel m ht hx)
theorem move_sound_q (m : Mem C ρ w0 K ψ h w) {fr : Frame} {tm : T A} (ht : TR ρ ψ tm fr.tmps) {x : Operand} : Qv C ρ ψ h w (pure (.value (fr.eval x))) (Res.of h (opdOf C.N tm x)) := by
  cases hx : opdOf C.N tm x with
  | none => trivial
  | some a => exact ⟨_, w, ψ, rfl, Psi.le.refl ψ, ⟨rfl, rfl, rfl⟩, opd_rel m ht hx⟩
theorem pick_sound_q (m : Mem C ρ w0 K ψ h w) {fr : Frame} {tm : T A} (ht : TR ρ ψ tm fr.tmps) {a b : Operand} {c : A} {v : Value} (hc : VR ρ ψ c v) :
    Qv C ρ ψ h w (do pure (.value (if ← asBool v then fr.eval a else fr.eval b))) (xPick C tm h a b c) := by
  unfold xPick
  split
  · have e : v = .bool true := hc
    subst e
    have := move_sound_q m ht (x := a)
    cases hx : opdOf C.N tm a with
    | none => trivial
    | some r => exact ⟨_, w, ψ, by simp [asBool], Psi.le.refl ψ, ⟨rfl, rfl, rfl⟩, opd_rel m ht hx⟩
  · have e : v = .bool false := hc
    subst e
    cases hx : opdOf C.N tm b with
    | none => trivial
    | some r => exact ⟨_, w, ψ, by simp [asBool], Psi.le.refl ψ, ⟨rfl, rfl, rfl⟩, opd_rel m ht hx⟩
  · trivial
theorem load_sound_q (m : Mem C ρ w0 K ψ h w) {t : TypeId} {a : A} {v : Value} (hv : VR ρ ψ a v) : Qv C ρ ψ h w (do pure (.value (← Instr.loadAt t v))) (xLoad C h t a) := by
  unfold xLoad
  split
  · rename_i l
    obtain ⟨i, o⟩ := l
    obtain ⟨B, hB, rfl⟩ := hv
    refine Qv.ofR fun x hx => ?_
    obtain ⟨v, h1, h2⟩ := loadAt_sound m hx hB
    exact ⟨v, by simp [Instr.loadAt, Instr.sureAddr, h1], h2⟩
  · trivial
theorem extract_sound_q (m : Mem C ρ w0 K ψ h w) {i : Nat} {a : A} {v : Value} (hv : VR ρ ψ a v) : Qv C ρ ψ h w (do pure (.value (← Instr.extract v i))) (xExtract h i a) := by
  unfold xExtract
  split
  · obtain ⟨us, rfl, h2⟩ := hv
    refine Qv.ofR fun x hx => ?_
    rw [nth_eq] at hx
    obtain ⟨u, h3, h4⟩ := h2.get hx
    exact ⟨u, by simp [Instr.extract, h3], h4⟩
  · trivial
theorem ifc_sound_q (m : Mem C ρ w0 K ψ h w) {t : TypeId} {a : A} {v : Value} (hv : VR ρ ψ a v) : Qv C ρ ψ h w (do pure (.value (← Instr.makeInterface t v))) (xIfc C h t a) := by
  unfold xIfc
  split
  · trivial
  · trivial
  · rename_i d hne hu
    refine ⟨.iface t v, w, ψ, ?_, Psi.le.refl ψ, ⟨rfl, rfl, rfl⟩, ⟨v, rfl, hv⟩⟩
    have hu' := und_ok m.ok hu
    cases d <;> first | (exact (hne _ rfl).elim) | simp [Instr.makeInterface, run_underlying hu']
theorem func_sound_q (m : Mem C ρ w0 K ψ h w) {fr : Frame} {tm : T A} (ht : TR ρ ψ tm fr.tmps) {fn : Fn} {a b : Array Operand} : Qv C ρ ψ h w (do pure (.value (← Instr.makeFunc fn (a.map fr.eval) (b.map fr.eval)))) (xFunc C tm h fn a b) := by
  unfold xFunc
  split
  · rename_i as bs ha hb
    cases hfn : notYield fn with
    | false => trivial
    | true =>
      have h1 := opds_rel m ht ha
      have h2 := opds_rel m ht hb
      refine ⟨.func fn (a.map fr.eval) (b.map fr.eval), w, ψ, by simp [Instr.makeFunc], Psi.le.refl ψ, ⟨rfl, rfl, rfl⟩, ⟨fn, _, _, ?_, by rw [arr_map, arr_map], h1, h2⟩⟩
      cases fn <;> first | rfl | simp [notYield] at hfn
  · trivial
theorem nil_sound_q (m : Mem C ρ w0 K ψ h w) {fr : Frame} {x : Operand} {a : A} (hv : VR ρ ψ a (fr.eval x)) {o : Oper} (ho : o.op = .nilCheck x) : Qv C ρ ψ h w (execOp fr.eval o) (xNil h a) := by
  unfold xNil
  split
  · obtain ⟨B, hB, e⟩ := hv
    exact ⟨_, w, ψ, by simp [execOp, ho, e], Psi.le.refl ψ, ⟨rfl, rfl, rfl⟩, ⟨B, hB, rfl⟩⟩
  · obtain ⟨fn, us, vs, h1, e, h2⟩ := hv
    have h1' : fn = .func _ := h1
    subst h1'
    exact ⟨_, w, ψ, by simp [execOp, ho, e], Psi.le.refl ψ, ⟨rfl, rfl, rfl⟩, ⟨_, us, vs, h1, rfl, h2⟩⟩
  · obtain ⟨fn, us, vs, h1, e, h2⟩ := hv
    obtain ⟨B, hB, h1'⟩ := h1
    subst h1'
    exact ⟨_, w, ψ, by simp [execOp, ho, e], Psi.le.refl ψ, ⟨rfl, rfl, rfl⟩, ⟨_, us, vs, ⟨B, hB, rfl⟩, rfl, h2⟩⟩
  · obtain ⟨u, e, h2⟩ := hv
    exact ⟨_, w, ψ, by simp [execOp, ho, e], Psi.le.refl ψ, ⟨rfl, rfl, rfl⟩, ⟨u, rfl, h2⟩⟩
  · trivial
theorem eq_sound_q (m : Mem C ρ w0 K ψ h w) {t : TypeId} {x y : Operand} {a b : A} {va vb : Value} (ha : VR ρ ψ a va) (hb : VR ρ ψ b vb) (hk : kOf a = none) (hs : a.isS = false) {neg : Bool} {op : BinOp} (hop : op = if neg then .neq else .eql) :
    Qv C ρ ψ h w (do pure (.value (← (do eqGuard op t x y va vb; Go.binOp op t va vb)))) (xEq C h neg t (isConst x) (isConst y) a b) := by
  unfold xEq
  cases hok : eqOk C t (isConst x) (isConst y) a b with
  | false => trivial
  | true =>
    rw [cond_true]
    have hg := eqGuard_run (C := C) (w := w) (op := op) (x := x) (y := y) (t := t) ha hb (.inr hok)
    obtain ⟨e1, e2⟩ := binOp_eq (t := t) (b := b) ha hk hs (vb := vb)
    cases he : eqIn C keyDepth t a b with
    | none => trivial
    | some r =>
      have hr : (Op.equal t va vb).run C.P w = .ok r w := by
        have := eqIn_sound (ψ := ψ) (w := w) m.ok keyDepth t a b r va vb ha hb he (Op.maxDepth - keyDepth)
        exact this
      refine ⟨.bool (bif neg then !r else r), w, ψ, ?_, Psi.le.refl ψ, ⟨rfl, rfl, rfl⟩, rfl⟩
      cases neg with
      | false =>
        simp only [Bool.false_eq_true, if_false] at hop
        subst hop
        simp [hg, e1, hr]
      | true =>
        simp only [if_true] at hop
        subst hop
        simp [hg, e2, hr]
theorem bin_sound_q (m : Mem C ρ w0 K ψ h w) {op : BinOp} {t : TypeId} {x y : Operand} {a b : A} {va vb : Value} (ha : VR ρ ψ a va) (hb : VR ρ ψ b vb) :
    Qv C ρ ψ h w (do pure (.value (← (do eqGuard op t x y va vb; Go.binOp op t va vb)))) (xBin C h op t (isConst x) (isConst y) a b) := by
  have nog : ∀ {k n}, va = .int k n → (eqGuard op t x y va vb).run C.P w = .ok () w := by
    rintro k n rfl
    cases op <;> simp [eqGuard]
  have nogs : ∀ {s}, va = .string s → (eqGuard op t x y va vb).run C.P w = .ok () w := by
    rintro s rfl
    cases op <;> simp [eqGuard]
  have ints : (∃ k n, va = .int k n) → Qv C ρ ψ h w (do pure (.value (← (do eqGuard op t x y va vb; Go.binOp op t va vb)))) (xInt C h op a b) := by
    rintro ⟨k, n, e⟩
    have hg := nog e
    have sh : (op = .shl ∨ op = .shr) → Qv C ρ ψ h w (do pure (.value (← (do eqGuard op t x y va vb; Go.binOp op t va vb)))) (Res.of h (shift C op a b)) := fun hop => by
      refine Qv.ofR fun r hr => ?_
      obtain ⟨v, h1, h2⟩ := shift_sound (P := C.P) (w := w) (t := t) m.ok hop ha hb hr
      exact ⟨v, by simp [hg, h1], h2⟩
    have ib : Qv C ρ ψ h w (do pure (.value (← (do eqGuard op t x y va vb; Go.binOp op t va vb)))) (Res.of h (intBin C op a b)) := by
      refine Qv.ofR fun r hr => ?_
      obtain ⟨v, h1, h2⟩ := intBin_sound (P := C.P) (w := w) (t := t) m.ok ha hb hr
      exact ⟨v, by simp [hg, h1], h2⟩
    unfold xInt
    split
    · exact sh (.inl rfl)
    · exact sh (.inr rfl)
    · exact ib
  have rest : kOf a = none → a.isS = false → Qv C ρ ψ h w (do pure (.value (← (do eqGuard op t x y va vb; Go.binOp op t va vb)))) (xCmp C h op t (isConst x) (isConst y) a b) := fun hk hs => by
    unfold xCmp
    split
    · exact eq_sound_q m ha hb hk hs rfl
    · exact eq_sound_q m ha hb hk hs rfl
    · trivial
  unfold xBin
  cases a with
  | i k n => exact ints ⟨_, _, ha⟩
  | y k e => exact ints ⟨_, _, ha⟩
  | s l =>
    cases b with
    | s l' =>
      have ea : va = .string (bstr l) := ha
      have eb : vb = .string (bstr l') := hb
      subst ea eb
      refine Qv.ofR fun r hr => ?_
      obtain ⟨v, h1, h2⟩ := strBin_sound (P := C.P) (w := w) (t := t) (ρ := ρ) (ψ := ψ) hr
      exact ⟨v, by simp [nogs rfl, h1], h2⟩
    | _ => trivial
  | _ => exact rest rfl rfl
theorem un_sound_q (m : Mem C ρ w0 K ψ h w) {op : UnOp} {a : A} {v : Value} (hv : VR ρ ψ a v) : Qv C ρ ψ h w (do pure (.value (← Op.unary op v))) (xUn C h op a) := by
  unfold xUn
  split
  · split
    · rename_i r
      have e : v = .bool r := hv
      subst e
      exact ⟨_, w, ψ, by simp [Op.unary], Psi.le.refl ψ, ⟨rfl, rfl, rfl⟩, rfl⟩
    · trivial
  · split
    · rename_i k n
      have e : v = .int k n := hv
      subst e
      exact ⟨_, w, ψ, by simp [Op.unary, Op.intArith], Psi.le.refl ψ, ⟨rfl, rfl, rfl⟩, rfl⟩
    · trivial
  · split
    · rename_i k hk
      refine Qv.ofR fun r hr => ?_
      have hx : VR ρ ψ (.i k (if k.signed then -1 else k.max)) (.int k (if k.signed then -1 else k.max)) := rfl
      obtain ⟨u, h1, h2⟩ := intBin_sound (P := C.P) (w := w) (t := 0) m.ok hx hv hr
      refine ⟨u, ?_, h2⟩
      have : ∃ n, v = .int k n := by
        cases a <;> simp [kOf] at hk
        · subst hk; exact ⟨_, hv⟩
        · subst hk; exact ⟨_, hv⟩
      obtain ⟨n, rfl⟩ := this
      simpa [Op.unary, Go.binOp] using h1
    · trivial
  · trivial
theorem fieldAt_sound_q (m : Mem C ρ w0 K ψ h w) {t f : Nat} {a : A} {v : Value} (hv : VR ρ ψ a v) : Qv C ρ ψ h w (do pure (.value (← Instr.fieldAt t v f))) (xFieldAt C h t f a) := by
  unfold xFieldAt
  split
  · rename_i i o
    obtain ⟨B, hB, rfl⟩ := hv
    split
    · rename_i fd hf
      obtain ⟨fs, hu, hfs⟩ := fieldOf_ok m.ok hf
      split
      · rename_i n hn
        refine ⟨.pointer (some ⟨B.b, B.base + (o + fd.offset), none⟩), w, ψ, ?_, Psi.le.refl ψ, ⟨rfl, rfl, rfl⟩, ⟨B, hB, rfl⟩⟩
        have ha : (⟨B.b, B.base + o, none⟩ : Addr).add fd.offset = ⟨B.b, B.base + (o + fd.offset), none⟩ := by rw [add_eq, Nat.add_assoc]
        simp [Instr.fieldAt, run_underlying hu, hfs, Instr.sureAddr, fieldPlace, szOf_run m.ok hn, ha]
      · trivial
    · trivial
  · trivial
theorem field_sound_q (m : Mem C ρ w0 K ψ h w) {t f : Nat} {a : A} {v : Value} (hv : VR ρ ψ a v) : Qv C ρ ψ h w (do pure (.value (← Instr.field t v f))) (xField C h t f a) := by
  unfold xField
  split
  · obtain ⟨us, rfl, h2, h3⟩ := hv
    split
    · rename_i fd hf
      obtain ⟨fs, hu, hfs⟩ := fieldOf_ok m.ok hf
      refine Qv.ofR fun r hr => ?_
      obtain ⟨u, k1, k2⟩ := part_sound (w := w) m.ok h2 h3 hr
      exact ⟨u, by simp [Instr.field, run_underlying hu, hfs, asAgg, k1], k2⟩
    · trivial
  · trivial
theorem onInt_sound_q (m : Mem C ρ w0 K ψ h w) {fr : Frame} {tm : T A} (ht : TR ρ ψ tm fr.tmps) {x : Operand} {f : Int → Res} {s : Value → Sem Next} (hs : ∀ k n, fr.eval x = .int k n → Qv C ρ ψ h w (s (fr.eval x)) (f n)) :
    Qv C ρ ψ h w (s (fr.eval x)) (onInt (opdOf C.N tm x) f) := by
  unfold onInt
  split
  · rename_i a hx
    split
    · rename_i n hn
      obtain ⟨k, hk⟩ := known_of (opd_rel m ht hx) hn
      exact hs k n hk
    · trivial
  · trivial
theorem addr_sound_q (m : Mem C ρ w0 K ψ h w) {r o len : Nat} {e : TypeId} {j : Int} {B : Blk} (hB : ψ r = some B) {s : Sem Value} (hs : ∀ n, szOf C e = some n → 0 ≤ j → j < len → s.run C.P w = .ok (.pointer (some ((⟨B.b, B.base + o, none⟩ : Addr).add (j.toNat * n)))) w) :
    Qv C ρ ψ h w (do pure (.value (← s))) (addrIn C h r o len e j) := by
  unfold addrIn
  split
  · rename_i n hn
    cases hc : (decide (0 ≤ j) && decide (j < len)) with
    | false => trivial
    | true =>
      simp only [Bool.and_eq_true, decide_eq_true_eq] at hc
      have := hs n hn hc.1 hc.2
      refine ⟨.pointer (some ⟨B.b, B.base + (o + j.toNat * n), none⟩), w, ψ, ?_, Psi.le.refl ψ, ⟨rfl, rfl, rfl⟩, ⟨B, hB, rfl⟩⟩
      rw [add_eq, Nat.add_assoc] at this
      simp [this]
  · trivial
theorem addrY_sound_q (m : Mem C ρ w0 K ψ h w) {r o c y q : Nat} {e : TypeId} {j : Int} {B : Blk} (hB : ψ r = some B) (hq : ρ y = ((q : Nat) : Int)) {s : Sem Value} (hs : ∀ n, szOf C e = some n → 0 ≤ j → j < ((c + q : Nat) : Int) → s.run C.P w = .ok (.pointer (some ((⟨B.b, B.base + o, none⟩ : Addr).add (j.toNat * n)))) w) :
    Qv C ρ ψ h w (do pure (.value (← s))) (addrY C h r o c y e j) := by
  unfold addrY
  split
  · rename_i n hn
    cases hc : (decide (0 ≤ j) && (decide (j < c) || belowY C y (j.toNat - c))) with
    | false => trivial
    | true =>
      simp only [Bool.and_eq_true, Bool.or_eq_true, decide_eq_true_eq] at hc
      have hlt : j < ((c + q : Nat) : Int) := by
        rcases hc.2 with h1 | h1
        · omega
        · have := belowY_ok m.ok hq h1
          omega
      have := hs n hn hc.1 hlt
      refine ⟨.pointer (some ⟨B.b, B.base + (o + j.toNat * n), none⟩), w, ψ, ?_, Psi.le.refl ψ, ⟨rfl, rfl, rfl⟩, ⟨B, hB, rfl⟩⟩
      rw [add_eq, Nat.add_assoc] at this
      simp [this]
  · trivial
theorem indexAt_sound_q (m : Mem C ρ w0 K ψ h w) {t : TypeId} {a : A} {v : Value} (hv : VR ρ ψ a v) {k : IntKind} {j : Int} : Qv C ρ ψ h w (do pure (.value (← Instr.indexAt t v (.int k j)))) (xIndexAt C h t a j) := by
  unfold xIndexAt
  split
  · rename_i len e hu
    split
    · rename_i r o
      obtain ⟨B, hB, rfl⟩ := hv
      refine addr_sound_q m hB fun n hn h0 h1 => ?_
      simp [Instr.indexAt, asIntOf, run_underlying (und_ok m.ok hu), Instr.sureAddr, h0, h1, szOf_run m.ok hn]
    · trivial
  · rename_i e hu
    split
    · rename_i r o es len _ _
      obtain ⟨B, c, hB, rfl, _⟩ := hv
      refine addr_sound_q m hB fun n hn h0 h1 => ?_
      simp [Instr.indexAt, asIntOf, run_underlying (und_ok m.ok hu), h0, h1, szOf_run m.ok hn]
    · rename_i r o es c y
      obtain ⟨B, q, cp, hB, hq, _, rfl, _⟩ := hv
      refine addrY_sound_q m hB hq fun n hn h0 h1 => ?_
      have h2 : j < (c : Int) + (q : Int) := by omega
      have h3 : ¬ ((c : Int) + (q : Int) ≤ j) := by omega
      simp [Instr.indexAt, asIntOf, run_underlying (und_ok m.ok hu), h0, h2, h3, szOf_run m.ok hn]
    · trivial
  · trivial
theorem index_sound_q (m : Mem C ρ w0 K ψ h w) {t : TypeId} {a : A} {v : Value} (hv : VR ρ ψ a v) {k : IntKind} {j : Int} : Qv C ρ ψ h w (do pure (.value (← Instr.index t v (.int k j)))) (xIndex C h t a j) := by
  unfold xIndex
  split
  · rename_i len e hu
    split
    · obtain ⟨us, rfl, h2, h3⟩ := hv
      unfold partIn
      split
      · rename_i n hn
        cases hc : (decide (0 ≤ j) && decide (j < len)) with
        | false => trivial
        | true =>
          simp only [Bool.and_eq_true, decide_eq_true_eq] at hc
          refine Qv.ofR fun r hr => ?_
          obtain ⟨u, k1, k2⟩ := part_sound (w := w) m.ok h2 h3 hr
          exact ⟨u, by simp [Instr.index, asIntOf, run_underlying (und_ok m.ok hu), hc.1, hc.2, szOf_run m.ok hn, k1], k2⟩
      · trivial
    · trivial
  · rename_i hu
    split
    · rename_i l
      have e : v = .string (bstr l) := hv
      subst e
      unfold byteIn
      cases hc : decide (0 ≤ j) with
      | false => trivial
      | true =>
        rw [cond_true]
        have h0 : 0 ≤ j := by simpa using hc
        split
        · rename_i b hb
          rw [nth_eq] at hb
          cases hlt : Nat.blt b 256 with
          | false => trivial
          | true =>
            have hb2 : b < 256 := by simpa [Nat.blt_eq] using hlt
            refine ⟨.int .u8 b, w, ψ, ?_, Psi.le.refl ψ, ⟨rfl, rfl, rfl⟩, rfl⟩
            have hg : (bstr l)[j.toNat]? = some (UInt8.ofNat b) := by
              obtain ⟨hl, hbv⟩ := List.getElem?_eq_some_iff.1 hb
              have hsz : j.toNat < (bstr l).size := by simp [bstr, ByteArray.size]; exact hl
              rw [getElem?_pos (bstr l) j.toNat hsz]
              have : (bstr l)[j.toNat] = UInt8.ofNat l[j.toNat] := by
                show (bstr l).data[j.toNat] = _
                simp [bstr]
              rw [this, hbv]
            simp [Instr.index, asIntOf, run_underlying (und_ok m.ok hu), h0, hg]
            omega
        · trivial
    · trivial
  · trivial
theorem assert_sound_q (m : Mem C ρ w0 K ψ h w) {xt t : TypeId} {ok : Bool} {a : A} {v : Value} (hv : VR ρ ψ a v) : Qv C ρ ψ h w (do pure (.value (← Instr.typeAssert v xt t ok))) (Res.of h (asserts C a t ok)) := by
  refine Qv.ofR fun r hr => ?_
  unfold asserts at hr
  split at hr
  · rename_i want hu
    have hu' := und_ok m.ok hu
    split at hr
    · have e : v = .nilIface := hv
      subst e
      refine aFails_sound m hr fun hok z hz => ?_
      simp [Instr.typeAssert, run_underlying hu', hok, hz]
    · rename_i d u
      obtain ⟨x, rfl, hx⟩ := hv
      split at hr
      · rename_i i hi
        have hi' := inf_ok m.ok hi
        split at hr
        · rename_i hm
          refine ⟨_, ?_, aHolds_sound (v := .iface d x) (show VR ρ ψ (.ifc d u) (.iface d x) from ⟨x, rfl, hx⟩) hr⟩
          simp [Instr.typeAssert, run_underlying hu', typeInfo, hi', hm]
        · rename_i q hm
          refine aFails_sound m hr fun hok z hz => ?_
          simp [Instr.typeAssert, run_underlying hu', typeInfo, hi', hm, hok, hz]
      · cases hr
    · cases hr
  · rename_i d hne hu
    have hu' := und_ok m.ok hu
    split at hr
    · have e : v = .nilIface := hv
      subst e
      refine aFails_sound m hr fun hok z hz => ?_
      cases d <;> first | exact absurd hu (hne _) | (exact (hne _ rfl).elim) | simp [Instr.typeAssert, run_underlying hu', hok, hz]
    · rename_i d' u
      obtain ⟨x, rfl, hx⟩ := hv
      cases hb : Nat.beq d' t with
      | true =>
        rw [hb, cond_true] at hr
        have e := Nat.eq_of_beq_eq_true hb
        refine ⟨_, ?_, aHolds_sound (v := x) hx hr⟩
        cases d <;> first | (exact (hne _ rfl).elim) | simp [Instr.typeAssert, run_underlying hu', e]
      | false =>
        rw [hb, cond_false] at hr
        have e := Nat.ne_of_beq_eq_false hb
        refine aFails_sound m hr fun hok z hz => ?_
        cases d <;> first | (exact (hne _ rfl).elim) | simp [Instr.typeAssert, run_underlying hu', hok, hz, e]
    · cases hr
  · cases hr
theorem build_sound_q (m : Mem C ρ w0 K ψ h w) {fr : Frame} {tm : T A} (ht : TR ρ ψ tm fr.tmps) {t : TypeId} {ps : Array (Nat × Operand)} :
    Qv C ρ ψ h w (do pure (.value (← Instr.build t (ps.map fun (i, x) => (i, fr.eval x))))) (Res.of h (((xBuild C t ps.toList).f tm).bind mkAg)) := by
  refine Qv.ofR fun a ha => ?_
  obtain ⟨l, hl, ha⟩ := Option.bind_eq_some_iff.1 ha
  unfold mkAg at ha
  cases ho : l.all A.one with
  | false => rw [ho] at ha; cases ha
  | true =>
    rw [ho, cond_true] at ha; cases ha
    have hmap : (ps.map fun (i, x) => (i, fr.eval x)).toList = ps.toList.map fun p => (p.1, fr.eval p.2) := by simp
    unfold xBuild at hl
    split at hl
    · rename_i z fs hz hu
      obtain ⟨vz, z1, z2⟩ := zeroOf_ok (ψ := ψ) (w := w) m.ok hz
      obtain ⟨uz, c1, c2⟩ := z2.cells
      cases hf : fldsOk C fs.toList with
      | false => rw [hf] at hl; cases hl
      | true =>
        rw [hf, cond_true] at hl
        obtain ⟨ds, d1, d2⟩ := built_sound m ht c2 hl
        have hplace : (fun i : Nat => ((fs.toList.map fun f => (f.offset, (szOf C f.type).getD 0)).toArray)[i]?) = placeS C fs := by
          funext i
          simp only [List.getElem?_toArray, List.getElem?_map, placeS, nth_eq]
          cases hg : fs.toList[i]? with
          | none => rfl
          | some f =>
            obtain ⟨n, hn⟩ := fldsOk_all hf f (List.mem_of_getElem? hg)
            simp [hn]
        have hmm : (fs.mapM fun f => (do pure (f.offset, ← sizeOf f.type) : Sem (Nat × Nat))).run C.P w = .ok (fs.toList.map fun f => (f.offset, (szOf C f.type).getD 0)).toArray w := by
          rw [Array.mapM_eq_mapM_toList]
          simp only [Sem.run_map, places_run m.ok hf, Result.andThen_ok]
        refine ⟨.agg ds.toArray, ?_, VR.agg d2 ho⟩
        simp only [Instr.build, Sem.run_bind, z1, Result.andThen_ok, run_underlying (und_ok m.ok hu), hmm, c1, hmap]
        rw [hplace, d1]
        rfl
    · rename_i z n e hz hu
      obtain ⟨vz, z1, z2⟩ := zeroOf_ok (ψ := ψ) (w := w) m.ok hz
      obtain ⟨uz, c1, c2⟩ := z2.cells
      split at hl
      · rename_i sz hsz
        obtain ⟨ds, d1, d2⟩ := built_sound m ht c2 hl
        refine ⟨.agg ds.toArray, ?_, VR.agg d2 ho⟩
        simp only [Instr.build, Sem.run_bind, z1, Result.andThen_ok, run_underlying (und_ok m.ok hu), szOf_run m.ok hsz, c1, hmap]
        rw [show (fun i => some (i * sz, sz)) = placeA sz from rfl, d1]
        rfl
      · cases hl
    · cases hl
theorem sliceY_snd_q (m : Mem C ρ w0 K ψ h w) {fr : Frame} {tm : T A} (ht : TR ρ ψ tm fr.tmps) {t : TypeId} {i o es c j : Nat} {v : Value} (hv : VR ρ ψ (.yl i o es c j) v) {lo hi mx : Option Operand} :
    Qv C ρ ψ h w (do pure (.value (← Instr.sliceAt t v (lo.map fr.eval) (hi.map fr.eval) (mx.map fr.eval)))) (xSliceY C tm h t lo hi mx i o es c j) := by
  unfold xSliceY
  split
  · rename_i e hu
    split
    · rename_i vlo vhi vmx h1 h2 h3
      refine Qv.ofR fun r hr => ?_
      exact sliceY_sound m hu hv (optA_rel m ht h1) (optA_rel m ht h2) (optA_rel m ht h3) hr
    · trivial
  · trivial
theorem slice_sound_q (m : Mem C ρ w0 K ψ h w) {fr : Frame} {tm : T A} (ht : TR ρ ψ tm fr.tmps) {t : TypeId} {x a : A} {v : Value} (hv : VR ρ ψ a v) {lo hi mx : Option Operand} :
    Qv C ρ ψ h w (do pure (.value (← Instr.sliceAt t v (lo.map fr.eval) (hi.map fr.eval) (mx.map fr.eval)))) (xSlice C tm h t lo hi mx a) := by
  unfold xSlice
  split
  · exact sliceY_snd_q m ht hv
  rename_i hny
  clear hny
  unfold xSlice0
  split
  · rename_i vlo vhi vmx h1 h2 h3
    have g1 := optOp_rel m ht h1
    have g2 := optOp_rel m ht h2
    have g3 := optOp_rel m ht h3
    refine Qv.ofR fun r hr => ?_
    unfold sliceOp at hr
    split at hr
    · rename_i hu
      split at hr
      · rename_i l
        have e : v = .string (bstr l) := hv
        subst e
        unfold sliceStr at hr
        split at hr
        · cases hr
        · obtain ⟨b, hb, rfl⟩ := Option.map_eq_some_iff.1 hr
          have hmn : mx.map fr.eval = none := by
            cases hm : mx.map fr.eval with
            | none => rfl
            | some q => rw [hm] at g3; cases g3
          have hsz : (bstr l).size = l.length := by simp [bstr, ByteArray.size]
          have := bounds_run (C := C) (w := w) (isS := false) g1 g2 (show OV ρ none none from trivial) hb
          refine ⟨.string (bstr ((l.take b.2.1).drop b.1)), ?_, rfl⟩
          rw [← str_slice]
          simp [Instr.sliceAt, Instr.slice, run_underlying (und_ok m.ok hu), hmn, hsz, this]
      · cases hr
    · rename_i e hu
      split at hr
      · exact sliceSl_sound m hu hv g1 g2 g3 hr
      · cases hr
    · rename_i n e hu
      obtain ⟨ad, q, sz, rfl, hsz, hb, hv2⟩ := array_sound m hv hr
      have := bounds_run (C := C) (w := w) (isS := false) g1 g2 g3 hb
      refine ⟨_, ?_, hv2⟩
      simp [Instr.sliceAt, run_underlying (und_ok m.ok hu), Instr.sureAddr, this, szOf_run m.ok hsz]
    · rename_i ar hu
      split at hr
      · rename_i n e hu2
        obtain ⟨ad, q, sz, rfl, hsz, hb, hv2⟩ := array_sound m hv hr
        have := bounds_run (C := C) (w := w) (isS := false) g1 g2 g3 hb
        refine ⟨_, ?_, hv2⟩
        simp [Instr.sliceAt, Instr.slice, run_underlying (und_ok m.ok hu), run_underlying (und_ok m.ok hu2), asAddr, this, szOf_run m.ok hsz]
      · cases hr
    · cases hr
  · trivial
theorem len_sound_q (m : Mem C ρ w0 K ψ h w) {t ty : TypeId} {ats : Array TypeId} {x : A} {v : Value} {vs : List Value} (h0 : ats[0]? = some t) (hv : VR ρ ψ x v) : Qv C ρ ψ h w (do pure (.value (← Builtin.len_ ats ty (v :: vs).toArray))) (bLen C h t x) := by
  unfold bLen
  split
  · rename_i hu
    split
    · rename_i l
      have e : v = .string (bstr l) := hv
      subst e
      have hs : (bstr l).size = l.length := by simp [bstr, ByteArray.size]
      exact ⟨.int .i64 l.length, w, ψ, by simp [Builtin.len_, h0, run_underlying (und_ok m.ok hu), goInt, hs], Psi.le.refl ψ, ⟨rfl, rfl, rfl⟩, rfl⟩
    · trivial
  · rename_i n _ hu
    exact ⟨.int .i64 n, w, ψ, by cases v <;> simp [Builtin.len_, h0, run_underlying (und_ok m.ok hu), goInt], Psi.le.refl ψ, ⟨rfl, rfl, rfl⟩, rfl⟩
  · rename_i _ hu
    split
    · rename_i b n _ _
      cases b with
      | none =>
        obtain ⟨rfl, rfl⟩ := hv
        exact ⟨.int .i64 0, w, ψ, by simp [Builtin.len_, h0, run_underlying (und_ok m.ok hu), goInt], Psi.le.refl ψ, ⟨rfl, rfl, rfl⟩, rfl⟩
      | some q =>
        obtain ⟨i, o, es⟩ := q
        obtain ⟨B, c, hB, rfl, _⟩ := hv
        exact ⟨.int .i64 n, w, ψ, by simp [Builtin.len_, h0, run_underlying (und_ok m.ok hu), goInt], Psi.le.refl ψ, ⟨rfl, rfl, rfl⟩, rfl⟩
    · obtain ⟨p, c, rfl⟩ := hv
      exact ⟨.int .i64 0, w, ψ, by simp [Builtin.len_, h0, run_underlying (und_ok m.ok hu), goInt], Psi.le.refl ψ, ⟨rfl, rfl, rfl⟩, rfl⟩
    · rename_i i o es c j
      obtain ⟨B, q, k, hB, hq, hlt, rfl, _⟩ := hv
      exact ⟨.int .i64 ((lenE c j).ev ρ), w, ψ, by simp [Builtin.len_, h0, run_underlying (und_ok m.ok hu), goInt, lenE_ev hq hlt], Psi.le.refl ψ, ⟨rfl, rfl, rfl⟩, mkY_rel m.ok⟩
    · trivial
  · rename_i _ _ hu
    split
    · rename_i es he
      unfold entries at he
      split at he
      · cases he
        have e : v = .map none := hv
        subst e
        exact ⟨.int .i64 0, w, ψ, by simp [Builtin.len_, h0, run_underlying (und_ok m.ok hu), goInt], Psi.le.refl ψ, ⟨rfl, rfl, rfl⟩, rfl⟩
      · rename_i r
        split at he
        · rename_i es' c hr
          cases he
          obtain ⟨B, l, h1, h2, h3⟩ := m.mapObj hr
          obtain ⟨B', h4, rfl⟩ := hv
          rw [h1] at h4; cases h4
          exact ⟨.int .i64 es.length, w, ψ, by simp [Builtin.len_, h0, run_underlying (und_ok m.ok hu), goInt, run_get h2 (by simp), h3.len], Psi.le.refl ψ, ⟨rfl, rfl, rfl⟩, rfl⟩
        · cases he
      · cases he
    · trivial
  · trivial
theorem cap_sound_q (m : Mem C ρ w0 K ψ h w) {t ty : TypeId} {ats : Array TypeId} {x : A} {v : Value} {vs : List Value} (h0 : ats[0]? = some t) (hv : VR ρ ψ x v) : Qv C ρ ψ h w (do pure (.value (← Builtin.cap_ ats ty (v :: vs).toArray))) (bCap C h t x) := by
  unfold bCap
  split
  · rename_i n _ hu
    exact ⟨.int .i64 n, w, ψ, by cases v <;> simp [Builtin.cap_, h0, run_underlying (und_ok m.ok hu), goInt], Psi.le.refl ψ, ⟨rfl, rfl, rfl⟩, rfl⟩
  · rename_i _ hu
    split
    · obtain ⟨_, rfl⟩ := hv
      exact ⟨.int .i64 0, w, ψ, by simp [Builtin.cap_, h0, run_underlying (und_ok m.ok hu), goInt], Psi.le.refl ψ, ⟨rfl, rfl, rfl⟩, rfl⟩
    · rename_i q l n
      obtain ⟨i, o, es⟩ := q
      obtain ⟨B, c, hB, rfl, _, _, _, g⟩ := hv
      obtain rfl := g rfl
      exact ⟨.int .i64 c, w, ψ, by simp [Builtin.cap_, h0, run_underlying (und_ok m.ok hu), goInt], Psi.le.refl ψ, ⟨rfl, rfl, rfl⟩, rfl⟩
    · trivial
  · trivial
theorem isRowT_not {d e : TypeId} (hr : isRowT C d = false) : und C d ≠ some (.slice e) := by
  intro hu
  unfold isRowT at hr
  rw [hu] at hr
  cases hr
theorem isRowT_notU {d : TypeId} (hr : isRowT C d = false) : und C d ≠ some .unsafePointer := by
  intro hu
  unfold isRowT at hr
  rw [hu] at hr
  cases hr
theorem isRowT_notP {d e : TypeId} (hr : isRowT C d = false) : und C d ≠ some (.pointer e) := by
  intro hu
  unfold isRowT at hr
  rw [hu] at hr
  cases hr
theorem conv_q (m : Mem C ρ w0 K ψ h w) {s d : TypeId} {x : A} {v : Value} (hr : isRowT C d = false) (hv : VR ρ ψ x v) : Qv C ρ ψ h w (do pure (.value (← Go.convert s d v))) (xConv C h s d x) := by
  unfold xConv
  split
  · rename_i k ds hd hs
    have hd' := und_ok m.ok hd
    have hs' := und_ok m.ok hs
    unfold convInt
    split
    · rename_i k' n
      have e : v = .int k' n := hv
      subst e
      exact ⟨.int k (k.wrap n), w, ψ, by simp [convert, run_underlying hd', run_underlying hs', Conv.intToInt], Psi.le.refl ψ, ⟨rfl, rfl, rfl⟩, rfl⟩
    · rename_i k' e
      have e' : v = .int k' (e.ev ρ) := hv
      subst e'
      exact ⟨.int k (k.wrap (e.ev ρ)), w, ψ, by simp [convert, run_underlying hd', run_underlying hs', Conv.intToInt], Psi.le.refl ψ, ⟨rfl, rfl, rfl⟩, mkY_rel (e := .wrap k e) m.ok⟩
    · trivial
  · rename_i ds hd hs
    have := conv_sound m (s := s) (d := d) hv
    unfold xConv at this
    rw [hd, hs] at this
    simp only at this
    have hst : ∀ l, convStr C h s x = .val (.s l) h → ∃ v', (Go.convert s d v).run C.P w = .ok v' w ∧ VR ρ ψ (.s l) v' := by
      intro l hl
      unfold convStr at hl
      split at hl
      · cases hl
        have e : v = .string (bstr l) := hv
        subst e
        exact ⟨.string (bstr l), by simp [convert, run_underlying (und_ok m.ok hd), run_underlying (und_ok m.ok hs)], rfl⟩
      · rename_i b len cap ex
        split at hl
        · rename_i e hse
          split at hl
          · rename_i he
            split at hl
            · rename_i cs hcs
              split at hl
              · rename_i l' hl'
                cases hl
                cases b with
                | none =>
                  obtain ⟨rfl, rfl⟩ := hv
                  cases hcs; cases hl'
                  exact ⟨.string .empty, by simp [run_convert_bytes_string w s d e none 0 0 (und_ok m.ok hse) (und_ok m.ok he) (und_ok m.ok hd), Conv.bytesToString], rfl⟩
                | some q =>
                  obtain ⟨i, o, es'⟩ := q
                  obtain ⟨us, u1, u2, u3, u4, u5⟩ := src_sound m hv hcs rfl
                  obtain ⟨B, c, hB, rfl, g⟩ := hv
                  have := bytesIn_rel hl' u1
                  subst this
                  have hf := u5 w len rfl (Nat.le_refl _)
                  rw [List.take_of_length_le (by omega)] at hf
                  simp only [Builtin.firstCells, Nat.mul_one] at hf
                  have hr := run_bytesToString (P := C.P) w _ len c (l.map Int.ofNat) hf
                  rw [push_bytes] at hr
                  refine ⟨.string (bstr l), ?_, rfl⟩
                  rw [run_convert_bytes_string w s d e _ len c (und_ok m.ok hse) (und_ok m.ok he) (und_ok m.ok hd), hr]
                  congr 2
                  apply ByteArray.ext
                  simp [bstr]
              · cases hl
            · cases hl
          · cases hl
        · cases hl
      · cases hl
    have hcase : (∃ l, convStr C h s x = .val (.s l) h) ∨ convStr C h s x = .bad := by
      unfold convStr
      repeat' split
      all_goals first | exact .inl ⟨_, rfl⟩ | exact .inr rfl
    rcases hcase with ⟨l, hl⟩ | hl
    · rw [hl]
      obtain ⟨v', h1, h2⟩ := hst l hl
      exact ⟨v', w, ψ, by simp [h1], Psi.le.refl ψ, ⟨rfl, rfl, rfl⟩, h2⟩
    · rw [hl]; trivial
  · rename_i e hd hs
    exact absurd hd (isRowT_not hr)
  · rename_i t hd hs
    exact absurd hd (isRowT_notU hr)
  · rename_i u hd hs
    exact absurd hd (isRowT_notP hr)
  · trivial
theorem call_q (m : Mem C ρ w0 K ψ h w) {fr : Frame} {tm : T A} (ht : TR ρ ψ tm fr.tmps) {c : Call} {ty : TypeId} {b : Builtin} (hc : c.callee = .builtin b) (hb : (clBuiltin b).isLight = true) : Qv C ρ ψ h w (do let d ← resolve fr.eval c ty; Go.invoke d.target d.args) (xCall C tm h c) := by
  unfold xCall
  split
  · trivial
  · rename_i args ha
    have hu := opds_rel m ht ha
    have hmap : c.args.map fr.eval = (c.args.toList.map fr.eval).toArray := arr_map _ _
    rw [hc]
    simp only [resolve, hc, hmap, pure_bind, Go.invoke]
    unfold U.builtin
    cases b <;> simp [clBuiltin, Cl.isLight] at hb
    · simp only
      split
      · rename_i t r x q he
        obtain ⟨u, vs, e, h1, h2⟩ := hu
        rw [e]
        exact cap_sound_q m (get0 he) h1
      · trivial
    · simp only
      split
      · rename_i t r x q he
        obtain ⟨u, vs, e, h1, h2⟩ := hu
        rw [e]
        exact len_sound_q m (get0 he) h1
      · trivial
/-- What the evaluator says of an operation that changes nothing is what the machine does. -/
theorem light_sound (m : Mem C ρ w0 K ψ h w) {fr : Frame} {tm : T A} (ht : TR ρ ψ tm fr.tmps) (o : Oper) (hl : (clOf C o.op).isLight = true) : Qv C ρ ψ h w (execOp fr.eval o) ((exOp C o.op).f tm h) := by
  unfold exOp
  split <;> rename_i ho
  all_goals first
    | (exfalso; rw [ho] at hl; cases hl; done)
    | skip
  all_goals try simp only [execOp, ho]
  case h_1 => exact move_sound_q m ht
  case h_3 => exact on_sound_q m ht (s := fun v => (do pure (.value (if ← asBool v then _ else _)))) fun a ha => pick_sound_q m ht ha
  case h_6 => exact build_sound_q m ht
  case h_8 => exact on_sound_q m ht (s := fun v => (do pure (.value (← Instr.loadAt _ v)))) fun a ha => load_sound_q m ha
  case h_10 =>
    have := fun a ha => nil_sound_q (a := a) m (fr := fr) ha ho
    simp only [execOp, ho] at this
    exact on_sound_q m ht (s := fun v => (match v with
      | .pointer none | .nilIface | .nilFunc => runtimePanic .nilDeref
      | .func (.method name) first captured =>
        match (first[0]? : Option Value) with
        | some .nilIface => runtimePanic .nilDeref
        | some (.iface t w) => do
          if (← nilAhead ((← program).types.size + Made.depth) t w name) != some false then
            unsupported (.noEntry "op/nilCheck.the method's receiver behind this interface value is a nil pointer, or cannot be seen to be none, and the arguments act or may panic (ledger 612)")
          pure (.value (.func (.method name) first captured))
        | _ => pure (.value (.func (.method name) first captured))
      | x => pure (.value x) : Sem Next)) fun a ha => this a ha
  case h_11 => exact on_sound_q m ht (s := fun v => (do pure (.value (← (do eqGuard _ _ _ _ v (fr.eval _); Go.binOp _ _ v (fr.eval _)))))) fun a ha => on_sound_q m ht (s := fun u => (do pure (.value (← (do eqGuard _ _ _ _ (fr.eval _) u; Go.binOp _ _ (fr.eval _) u))))) fun b hb => bin_sound_q m ha hb
  case h_12 => exact on_sound_q m ht (s := fun v => (do pure (.value (← Op.unary _ v)))) fun a ha => un_sound_q m ha
  case h_13 =>
    rename_i s d x
    have hr : isRowT C d = false := by
      cases hb : isRowT C d with
      | false => rfl
      | true => rw [ho] at hl; simp only [clOf, hb, cond_true] at hl; cases hl
    exact on_sound_q m ht (s := fun v => (do pure (.value (← Go.convert _ _ v)))) fun a ha => conv_q m hr ha
  case h_14 => exact on_sound_q m ht (s := fun v => (do pure (.value (← Instr.makeInterface _ v)))) fun a ha => ifc_sound_q m ha
  case h_15 => exact func_sound_q m ht
  case h_18 => exact on_sound_q m ht (s := fun v => (do pure (.value (← Instr.sliceAt _ v _ _ _)))) fun a ha => slice_sound_q (x := .ni) m ht ha
  case h_19 => exact on_sound_q m ht (s := fun v => (do pure (.value (← Instr.fieldAt _ v _)))) fun a ha => fieldAt_sound_q m ha
  case h_20 => exact on_sound_q m ht (s := fun v => (do pure (.value (← Instr.field _ v _)))) fun a ha => field_sound_q m ha
  case h_21 => exact on_sound_q m ht (s := fun v => (do pure (.value (← Instr.indexAt _ v (fr.eval _))))) fun a ha => onInt_sound_q m ht (s := fun u => (do pure (.value (← Instr.indexAt _ (fr.eval _) u)))) fun k n he => by rw [he]; exact indexAt_sound_q m ha
  case h_22 => exact on_sound_q m ht (s := fun v => (do pure (.value (← Instr.index _ v (fr.eval _))))) fun a ha => onInt_sound_q m ht (s := fun u => (do pure (.value (← Instr.index _ (fr.eval _) u)))) fun k n he => by rw [he]; exact index_sound_q m ha
  case h_23 => exact on_sound_q m ht (s := fun v => (do pure (.value (← Instr.lookup _ v (fr.eval _) _)))) fun a ha => on_sound_q m ht (s := fun u => (do pure (.value (← Instr.lookup _ (fr.eval _) u _)))) fun b hb => Qv.ofR fun r hr => lookup_sound m ha hb hr
  case h_31 => exact on_sound_q m ht (s := fun v => (do pure (.value (← Instr.typeAssert v _ _ _)))) fun a ha => assert_sound_q m ha
  case h_32 => exact on_sound_q m ht (s := fun v => (do pure (.value (← Instr.extract v _)))) fun a ha => extract_sound_q m ha
  case h_33 =>
    rename_i c
    cases hc : c.callee with
    | builtin b =>
      refine call_q m ht hc ?_
      rw [ho] at hl
      simp only [clOf, hc] at hl
      exact hl
    | _ => exfalso; rw [ho] at hl; simp only [clOf, hc] at hl; cases hl
  case h_36 => trivial
/-! what the memory has no part in -/
def Hind (f : Hp → Res) : Prop := ∀ h a h', f h = .val a h' → ∀ h2, f h2 = .val a h2
theorem Hind.of {x : Option A} : Hind fun h => Res.of h x := by
  intro h a h' hv h2
  cases x with
  | none => cases hv
  | some b => cases hv; rfl
theorem Hind.bad : Hind fun _ => .bad := fun _ _ _ hv => by cases hv
theorem Hind.val {a : A} : Hind fun h => .val a h := fun _ _ _ hv _ => by cases hv; rfl
theorem Hind.on {x : Option A} {g : Hp → A → Res} (hg : ∀ a, Hind fun h => g h a) : Hind fun h => U.on x (g h) := by
  cases x with
  | none => exact Hind.bad
  | some a => exact hg a
theorem Hind.onInt {x : Option A} {g : Hp → Int → Res} (hg : ∀ a, Hind fun h => g h a) : Hind fun h => U.onInt x (g h) := by
  unfold U.onInt
  cases x with
  | none => exact Hind.bad
  | some a =>
    simp only
    cases a.known with
    | none => exact Hind.bad
    | some n => exact hg n
theorem Hind.eq {neg : Bool} {t : TypeId} {cx cy : Bool} {a b : A} : Hind fun h => xEq C h neg t cx cy a b := by
  unfold xEq
  cases eqOk C t cx cy a b with
  | false => exact Hind.bad
  | true =>
    simp only [cond_true]
    unfold eqVal
    cases eqIn C keyDepth t a b with
    | none => exact Hind.bad
    | some r => exact Hind.val
theorem Hind.int {op : BinOp} {a b : A} : Hind fun h => xInt C h op a b := by
  unfold xInt
  cases op <;> exact Hind.of
theorem Hind.cmp {op : BinOp} {t : TypeId} {cx cy : Bool} {a b : A} : Hind fun h => xCmp C h op t cx cy a b := by
  unfold xCmp
  cases op <;> first | exact Hind.eq | exact Hind.bad
theorem Hind.bin {op : BinOp} {t : TypeId} {cx cy : Bool} {a b : A} : Hind fun h => xBin C h op t cx cy a b := by
  unfold xBin
  cases a <;> first | exact Hind.int | exact Hind.cmp | skip
  cases b <;> first | exact Hind.of | exact Hind.bad
theorem Hind.bif {c : Bool} {f g : Hp → Res} (hf : Hind f) (hg : Hind g) : Hind fun h => _root_.cond c (f h) (g h) := by
  cases c
  · exact hg
  · exact hf
theorem pure_any (o : Op) (tm : T A) (hp : (clOf C o).isPure = true) : Hind fun h => (exOp C o).f tm h := by
  cases o <;> simp only [exOp]
  all_goals first
    | (exfalso; cases hp; done)
    | exact Hind.of
    | skip
  case pick => exact Hind.on fun a => by unfold xPick; split <;> first | exact Hind.of | exact Hind.bad
  case nilCheck => exact Hind.on fun a => by unfold xNil; split <;> first | exact Hind.val | exact Hind.bad
  case binOp => exact Hind.on fun a => Hind.on fun b => Hind.bin
  case unOp =>
    refine Hind.on fun a => ?_
    unfold xUn
    split
    · split <;> first | exact Hind.val | exact Hind.bad
    · split <;> first | exact Hind.val | exact Hind.bad
    · split <;> first | exact Hind.of | exact Hind.bad
    · exact Hind.bad
  case makeInterface =>
    refine Hind.on fun a => ?_
    unfold xIfc
    split <;> first | exact Hind.bad | exact Hind.val
  case makeFunc fn a b =>
    unfold xFunc
    split
    · exact Hind.bif Hind.val Hind.bad
    · exact Hind.bad
  case fieldAddr =>
    refine Hind.on fun a => ?_
    unfold xFieldAt
    split
    · split
      · split <;> first | exact Hind.val | exact Hind.bad
      · exact Hind.bad
    · exact Hind.bad
  case field =>
    refine Hind.on fun a => ?_
    unfold xField
    split
    · split <;> first | exact Hind.of | exact Hind.bad
    · exact Hind.bad
  case indexAddr =>
    refine Hind.on fun a => Hind.onInt fun j => ?_
    unfold xIndexAt addrIn addrY
    repeat' split
    all_goals first | exact Hind.bif Hind.val Hind.bad | exact Hind.bad
  case index =>
    refine Hind.on fun a => Hind.onInt fun j => ?_
    unfold xIndex partIn byteIn
    split
    · split
      · split
        · exact Hind.bif Hind.of Hind.bad
        · exact Hind.bad
      · exact Hind.bad
    · split
      · refine Hind.bif ?_ Hind.bad
        split
        · exact Hind.bif Hind.val Hind.bad
        · exact Hind.bad
      · exact Hind.bad
    · exact Hind.bad
  case typeAssert => exact Hind.on fun a => Hind.of
  case extract =>
    refine Hind.on fun a => ?_
    unfold xExtract
    split <;> first | exact Hind.of | exact Hind.bad
  case call c =>
    exfalso
    simp only [clOf] at hp
    cases hc : c.callee with
    | builtin b => rw [hc] at hp; cases b <;> cases hp
    | _ => rw [hc] at hp; cases hp
  case convert s d x =>
    exfalso
    simp only [clOf] at hp
    cases hb : isRowT C d with
    | true => rw [hb] at hp; cases hp
    | false => rw [hb] at hp; cases hp
end
end Go.U
