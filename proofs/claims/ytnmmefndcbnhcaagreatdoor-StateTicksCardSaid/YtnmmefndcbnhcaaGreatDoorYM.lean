import Derived.Test.YtnmmefndcbnhcaaGreatDoorTL
import Derived.Test.YtnmmefndcbnhcaaGreatDoorRows
import Derived.Lib.LaidTab
import Derived.Stop.LaidErr
/-
  The law at every number: from the memory that the row's list tells to the answer.
-/
set_option linter.unusedVariables false
set_option linter.unusedSimpArgs false
set_option maxRecDepth 1000000
namespace Go.U
open Go Go.RowKit Go.Proofs

/-! what the row's list gives -/
theorem laid_mem {P : Program} {W : World} : ∀ {l : List (String × DataW Unit)} {ps : List MemPlace}, DataW.LaidVars P W l ps → ∀ x ∈ l, ∃ g t cs fuel p, P.globalNamed x.1 = some g ∧ (P.globals[g]?).map (·.type) = some t ∧ W.var? P x.1 = some cs ∧ DataW.trod (fun _ => ()) P W 0 (fun _ => true) false fuel t cs.toList = some (x.2, p)
  | [], _, _, x, hx => by cases hx
  | (n, d) :: r, ps, ⟨g, t, cs, fuel, p, q, h1, h2, h3, h4, h5, _⟩, x, hx => by
    rcases List.mem_cons.1 hx with rfl | hx
    · exact ⟨g, t, cs, fuel, p, h1, h2, h3, h4⟩
    · exact laid_mem h5 x hx
theorem var_heap {P : Program} {W : World} {n : String} {g : Nat} {cs : Array Value} (hg : P.globalNamed n = some g) (h : W.var? P n = some cs) : ∃ t fr, W.heap[g]? = some (.cells cs t fr) := by
  unfold World.var? at h
  rw [hg] at h
  simp only [Option.bind_some] at h
  split at h
  · rename_i c t fr hc
    cases h
    exact ⟨t, fr, hc⟩
  · cases h
/-- A variable's block: its cells, its type. -/
theorem glob_at {W : World} (hS : W.ShapedOpen Tryz.prog) {g : Nat} {t : TypeId} (hg : g < Tryz.prog.globals.size) (hz : ((((begin Tryz.prog (fun _ _ => 0) default).world.heap[g]?).bind Obj.row?).map (·.2)) = some t) {n : String} (hn : Tryz.prog.globalNamed n = some g) {cs : Array Value} (hv : W.var? Tryz.prog n = some cs) :
    ∃ fr, W.heap[g]? = some (.cells cs t fr) := by
  obtain ⟨⟨z, t'⟩, h1, h2⟩ := Option.map_eq_some_iff.1 hz
  cases h2
  obtain ⟨cs', k1, _⟩ := hS.1 g z _ hg h1
  obtain ⟨t2, fr, k2⟩ := var_heap hn hv
  rw [k1] at k2
  cases k2
  exact ⟨_, k1⟩
theorem tab_at {W : World} {ps : List MemPlace} {l : List (String × DataW Unit)} (hl : DataW.LaidVars Tryz.prog W l ps) {n : String} {k : IntKind} {zs : List Int} (hx : (n, Lib.tabData k zs) ∈ l) {g : Nat} {t e : TypeId} {c : Nat}
    (hg : Tryz.prog.globalNamed n = some g) (hty : (Tryz.prog.globals[g]?).map (·.type) = some t) (ht : Tryz.prog.underlying t = some (.array c e)) (he : Tryz.prog.underlying e = some (.int k)) (hce : Tryz.prog.cellsOf e = 1) (hct : Tryz.prog.cellsOf t = c) :
    W.var? Tryz.prog n = some (zs.map fun z => Value.int k z).toArray := by
  obtain ⟨g', t', cs, fuel, p, h1, h2, h3, h4⟩ := laid_mem hl _ hx
  obtain rfl := Option.some.inj (hg.symm.trans h1)
  obtain rfl := Option.some.inj (hty.symm.trans h2)
  rw [h3, ← Lib.cells_of_tab ht he hce hct h4]
/-- What the law's memory stands for. -/
structure Laid (W : World) (ab ao : Nat) : Prop where
  sz : 12 < W.heap.size
  hab : ab < W.heap.size
  o0 : ∃ fr, W.heap[0]? = some (.cells #[.iface 292 (.agg #[.pointer (some ⟨12, 117, none⟩)])] 187 fr)
  o1 : ∃ arr fr, W.heap[1]? = some (.cells arr 595 fr) ∧ VRs (fun _ => 0) (fun _ => none) (match gl1.2 with | .cells _ _ l => l | _ => []) arr.toList
  o4 : ∃ fr, W.heap[4]? = some (.cells #[.iface 679 (.pointer (some ⟨ab, ao, none⟩))] 117 fr)
  o10 : ∃ arr fr, W.heap[10]? = some (.cells arr 687 fr) ∧ VRs (fun _ => 0) (fun _ => none) (match gl10.2 with | .cells _ _ l => l | _ => []) arr.toList
noncomputable def szW (W : World) (i : Nat) : Nat := match W.heap[i]? with
  | some (.cells cs _ _) => cs.size
  | _ => 0
noncomputable def psi0 (W : World) (ab ao : Nat) : Psi := fun i =>
  if i < 13 then some ⟨i, 0, szW W i⟩ else if i = 14 then some ⟨ab, ao, 0⟩ else if i < 17 then some ⟨0, 0, 0⟩ else none
theorem ints_VRs (ρ : Nat → Int) (ψ : Psi) (k : IntKind) : ∀ (zs : List Nat), VRs ρ ψ (zs.map fun z => A.i k (Int.ofNat z)) (zs.map fun z => Value.int k (Int.ofNat z))
  | [] => VRs.nil
  | z :: zs => VRs.cons rfl (ints_VRs ρ ψ k zs)
/-- A list of numbers: whatever the numbers that are not known. -/
def plainInts : List A → Bool
  | [] => true
  | .i _ _ :: l => plainInts l
  | _ => false
theorem vrs_any {ρ ρ' : Nat → Int} {ψ : Psi} : ∀ {l : List A} {us : List Value}, plainInts l = true → VRs ρ ψ l us → VRs ρ' ψ l us
  | [], _, _, h => h
  | .i k n :: l, _, hp, ⟨u, us, h1, h2, h3⟩ => ⟨u, us, h1, h2, vrs_any hp h3⟩
theorem gl_OR {ρ : Nat → Int} {ψ : Psi} {B : Blk} {e : TypeId} {l : List A} {arr : Array Value} {fr : Nat × Nat} (hb : B.base = 0) (hs : B.sz = arr.size) (h : VRs ρ ψ l arr.toList) (h1 : l.all A.one = true) : OR ρ ψ B (CO.kao (.cells e false l)) (.cells arr e fr) := by
  have hlen : arr.size = l.length := by have := h.len; simpa using this
  refine ⟨arr, fr, rfl, hs.symm, fun q => (by cases q), (by rw [hb, hs, hlen]; omega), fun j a hj => ?_⟩
  rcases T.get_ofList hj with ⟨_, s2⟩ | ⟨_, s2⟩
  · obtain ⟨v, v1, v2⟩ := h.get s2
    have hj' := (List.getElem?_eq_some_iff.1 s2).1
    refine ⟨(List.all_eq_true.1 h1) a (List.mem_of_getElem? s2), ⟨v, ?_, v2⟩, hj'⟩
    rw [hb, Nat.zero_add]
    simpa using v1
  · rw [T.get_e] at s2; cases s2
theorem Laid.mem {W : World} {ab ao : Nat} (L : Laid W ab ao) {fa : Kn} {nat : T Nat'} {ρ : Nat → Int} (hf : fa.Ok ρ) :
    Mem (cx fa 17 nat) ρ W (fun b => W.heap[b]?) (psi0 W ab ao) h0 W := by
  have p13 : ∀ i, i < 13 → psi0 W ab ao i = some ⟨i, 0, szW W i⟩ := fun i hi => if_pos hi
  have p14 : psi0 W ab ao 14 = some ⟨ab, ao, 0⟩ := rfl
  have pN : ∀ i, 17 ≤ i → psi0 W ab ao i = none := fun i hi => by unfold psi0; rw [if_neg (by omega), if_neg (by omega), if_neg (by omega)]
  have hb : ∀ i B, psi0 W ab ao i = some B → B.b < W.heap.size := fun i B hi => by
    unfold psi0 at hi
    split at hi
    · cases hi; have := L.sz; simp only; omega
    · split at hi
      · cases hi; exact L.hab
      · split at hi
        · cases hi; have := L.sz; simp only; omega
        · cases hi
  have hgl : ∀ i o, h0.get i = some o → (i = 0 ∧ o = gl0.2.kao) ∨ (i = 1 ∧ o = gl1.2.kao) ∨ (i = 4 ∧ o = gl4.2.kao) ∨ (i = 10 ∧ o = gl10.2.kao) := fun i o hi => by
    rcases putGs_get hi with ⟨p, hp, h1, h2⟩ | hi
    · simp only [List.mem_cons, List.not_mem_nil, or_false] at hp
      rcases hp with rfl | rfl | rfl | rfl
      · exact .inl ⟨h1.symm, h2⟩
      · exact .inr (.inl ⟨h1.symm, h2⟩)
      · exact .inr (.inr (.inl ⟨h1.symm, h2⟩))
      · exact .inr (.inr (.inr ⟨h1.symm, h2⟩))
    · rw [T.get_e] at hi; cases hi
  have hlt : ∀ i o, h0.get i = some o → i < 17 := fun i o hi => by rcases hgl i o hi with ⟨rfl, _⟩ | ⟨rfl, _⟩ | ⟨rfl, _⟩ | ⟨rfl, _⟩ <;> omega
  exact {
    ok := cx_ok hf
    os := rfl
    tape := rfl
    output := rfl
    keep := fun _ _ h => h
    g := Nat.le_refl _
    obj := fun i o hi => by
      rcases hgl i o hi with ⟨rfl, rfl⟩ | ⟨rfl, rfl⟩ | ⟨rfl, rfl⟩ | ⟨rfl, rfl⟩
      · obtain ⟨fr, h1⟩ := L.o0
        refine ⟨_, _, p13 0 (by decide), h1, gl_OR rfl (by simp [szW, h1]) (VRs.cons ⟨_, rfl, [_], rfl, VRs.cons ⟨_, p13 12 (by decide), rfl⟩ VRs.nil, rfl⟩ VRs.nil) rfl⟩
      · obtain ⟨arr, fr, h1, h2⟩ := L.o1
        exact ⟨_, _, p13 1 (by decide), h1, gl_OR rfl (by simp [szW, h1]) (belows_VR (n := 0) (ψ := fun _ => none) (fun i hi => absurd hi (Nat.not_lt_zero i)) _ _ (by kernel_rfl) (vrs_any (by kernel_rfl) h2)) (by kernel_rfl)⟩
      · obtain ⟨fr, h1⟩ := L.o4
        refine ⟨_, _, p13 4 (by decide), h1, gl_OR rfl (by simp [szW, h1]) (VRs.cons ⟨_, rfl, ⟨_, p14, rfl⟩⟩ VRs.nil) rfl⟩
      · obtain ⟨arr, fr, h1, h2⟩ := L.o10
        exact ⟨_, _, p13 10 (by decide), h1, gl_OR rfl (by simp [szW, h1]) (belows_VR (n := 0) (ψ := fun _ => none) (fun i hi => absurd hi (Nat.not_lt_zero i)) _ _ (by kernel_rfl) (vrs_any (by kernel_rfl) h2)) (by kernel_rfl)⟩
    own := fun i B o hi hg _ => by have := hlt i o hg; have hi : 17 ≤ i := hi; omega
    low := fun i hi => by
      have hi : i < 17 := hi
      have : ∃ B, psi0 W ab ao i = some B := by
        unfold psi0
        split
        · exact ⟨_, rfl⟩
        · split
          · exact ⟨_, rfl⟩
          · exact ⟨_, rfl⟩
      obtain ⟨B, hB⟩ := this
      have := hb i B hB
      exact ⟨B, W.heap[B.b], hB, by simp [this], this⟩
    sz0 := Nat.le_refl _
    glob := fun i hi => ⟨_, p13 i hi, rfl, rfl⟩
    inj := fun i j B B' o o' _ hi _ hg _ _ _ => by have := hlt i o hg; have hi : 17 ≤ i := hi; omega
    fresh := fun i hi => pN i hi
    lt := hb
    keys := fun i o hi => hlt i o hi
    ext := fun i e ro n t B hi _ he => by
      have he : e = 264 := he
      subst he
      rcases hgl i _ hi with ⟨_, h⟩ | ⟨_, h⟩ | ⟨_, h⟩ | ⟨_, h⟩ <;> cases h }
end Go.U
