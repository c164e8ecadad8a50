import Derived.Test.YtnmmefndcbnhcaaGreatDoorYW
/-
  The law's call at every number, out of the row's own conditions.
-/
set_option linter.unusedVariables false
set_option linter.unusedSimpArgs false
set_option maxRecDepth 1000000
namespace Go.U
open Go Go.RowKit Go.Proofs Go.Proofs.YtnmmefndcbnhcaaGreatDoor

noncomputable def numsOf : List A → List Nat
  | .i _ n :: l => n.toNat :: numsOf l
  | _ => []
noncomputable def glL (g : Nat × CO) : List A := match g.2 with | .cells _ _ l => l | _ => []
theorem rt_is : (Tryz.prog.cutTypes.find? (·.1 == "internal/reflectlite.rtype")).map (·.2) = some 292 := by kernel_rfl
theorem oneRow : ((List.range 714).filter fun t => Tryz.prog.rowNamed t [101, 114, 114, 111, 114]) = [117] := by kernel_rfl
theorem size_is : Tryz.prog.types.size = 714 := by kernel_rfl
theorem handle_is : typeHandle Tryz.prog 117 = .pointer (some ⟨12, 117, none⟩) := by kernel_rfl
theorem star : "*" ++ "errors.errorString" = "*errors.errorString" := by decide
theorem row679 (u : TypeId) (h : Tryz.prog.typeName? 3 u = some "*errors.errorString") : u = 679 :=
  typeName_ptr_named (nm := "errors.errorString") (by rw [star]; kernel_rfl) (by kernel_rfl) (by decide) u (by rw [star]; exact h)
theorem laid_list : (Rows.stateTicksRow.laid.filter fun x => x.2.handleName?.isNone) = [("unicode/utf8.first", Rows.laid_unicode_utf8_first), ("unicode/utf8.acceptRanges", Rows.laid_unicode_utf8_acceptRanges), ("strconv.ErrSyntax", Rows.laid_strconv_ErrSyntax), ("strconv.ErrRange", Rows.laid_strconv_ErrRange), ("internal/strconv.uint64pow10", Rows.laid_internal_strconv_uint64pow10), ("math/bits.deBruijn32tab", Rows.laid_math_bits_deBruijn32tab), ("math/bits.deBruijn64tab", Lib.tabData .u8 ((numsOf (glL gl10)).map Int.ofNat)), ("strings.asciiSpace", Lib.tabData .u8 ((numsOf (glL gl1)).map Int.ofNat)), ("unicode.White_Space", Rows.laid_unicode_White_Space)] := by kernel_rfl
theorem hand_list : (Rows.stateTicksRow.laid.filter fun x => x.2.handleName?.isSome) = [("errors.errorType", Rows.laid_errors_errorType)] := by kernel_rfl
theorem nums1 : glL gl1 = (numsOf (glL gl1)).map fun z => A.i .u8 (Int.ofNat z) := by kernel_rfl
theorem nums10 : glL gl10 = (numsOf (glL gl10)).map fun z => A.i .u8 (Int.ofNat z) := by kernel_rfl
theorem gsz : Tryz.prog.globals.size = 12 := by kernel_rfl
theorem hsz : (Nat.blt 12 (begin Tryz.prog (fun _ _ => 0) default).world.heap.size) = true := by kernel_rfl
theorem tab_VRs {g : Nat × CO} (h : glL g = (numsOf (glL g)).map fun z => A.i .u8 (Int.ofNat z)) : VRs (fun _ => 0) (fun _ => none) (glL g) ((((numsOf (glL g)).map Int.ofNat).map fun z => Value.int .u8 z).toArray).toList := by
  have := ints_VRs (fun _ => 0) (fun _ => none) .u8 (numsOf (glL g))
  rw [← h] at this
  rw [List.map_map]
  exact this
theorem laid_of {W : World} (hL : laidMetH Tryz.prog Rows.stateTicksRow.laid W) (hS : W.ShapedOpen Tryz.prog) : ∃ ab ao, Laid W ab ao := by
  unfold laidMetH at hL
  rw [hand_list, laid_list] at hL
  obtain ⟨hm, hh⟩ := hL
  have hm' := hm
  obtain ⟨ps, hl, _, _⟩ := hm
  have h12 : 12 < W.heap.size := by
    obtain ⟨o, o0, k1, _⟩ := hS.2 12 (by rw [gsz]; omega) (by have := hsz; rw [Nat.blt_eq] at this; exact this)
    exact get_lt k1
  obtain ⟨name, u, ty, e1, e2, e3, e4, e5⟩ := hh _ (List.mem_singleton.2 rfl)
  have en : name = [101, 114, 114, 111, 114] := (Option.some.inj e1).symm
  subst en
  obtain rfl := Option.some.inj (rt_is.symm.trans e2)
  have hty : ty ∈ (List.range 714).filter fun t => Tryz.prog.rowNamed t [101, 114, 114, 111, 114] := List.mem_filter.2 ⟨List.mem_range.2 (by rw [← size_is]; exact e3), e4⟩
  rw [oneRow] at hty
  obtain rfl := List.mem_singleton.1 hty
  rw [handle_is] at e5
  obtain ⟨a, s, v4, c4, _⟩ := laid_sentinel (hm'.tail.tail) (g := 4) (ti := 117) (tp := 679) (te := 681) (ts := 9) (by kernel_rfl) (by kernel_rfl) Tryz.underlying117 row679 Tryz.underlying679 Tryz.underlying681 rfl rfl Tryz.underlying9 (by kernel_rfl) (by kernel_rfl)
  have ha : a.block < W.heap.size ∧ a.spot = none := by
    unfold World.cell? at c4
    split at c4
    · rename_i c t fr hc
      split at c4
      · cases c4
      · rename_i hs
        exact ⟨get_lt hc, by simpa using hs⟩
    · cases c4
  obtain ⟨ab, ao, sp⟩ := a
  obtain rfl : sp = none := ha.2
  have v1 := tab_at hl (n := "strings.asciiSpace") (k := .u8) (zs := (numsOf (glL gl1)).map Int.ofNat) (by simp) (g := 1) (t := 595) (e := 5) (c := 256) (by kernel_rfl) (by kernel_rfl) Tryz.underlying595 Tryz.underlying5 (by kernel_rfl) (by kernel_rfl)
  have v10 := tab_at hl (n := "math/bits.deBruijn64tab") (k := .u8) (zs := (numsOf (glL gl10)).map Int.ofNat) (by simp) (g := 10) (t := 687) (e := 5) (c := 64) (by kernel_rfl) (by kernel_rfl) Tryz.underlying687 Tryz.underlying5 (by kernel_rfl) (by kernel_rfl)
  obtain ⟨f0, g0⟩ := glob_at hS (g := 0) (t := 187) (by rw [gsz]; decide) (by kernel_rfl) (n := "errors.errorType") (by kernel_rfl) e5
  obtain ⟨f1, g1⟩ := glob_at hS (g := 1) (t := 595) (by rw [gsz]; decide) (by kernel_rfl) (n := "strings.asciiSpace") (by kernel_rfl) v1
  obtain ⟨f4, g4⟩ := glob_at hS (g := 4) (t := 117) (by rw [gsz]; decide) (by kernel_rfl) (n := "strconv.ErrSyntax") (by kernel_rfl) v4
  obtain ⟨f10, g10⟩ := glob_at hS (g := 10) (t := 687) (by rw [gsz]; decide) (by kernel_rfl) (n := "math/bits.deBruijn64tab") (by kernel_rfl) v10
  exact ⟨ab, ao, h12, ha.1, ⟨f0, g0⟩, ⟨_, f1, g1, tab_VRs nums1⟩, ⟨f4, g4⟩, ⟨_, f10, g10, tab_VRs nums10⟩⟩
theorem kept_all {W W' : World} {may : MemPlace → Prop} (h1 : W'.os = W.os) (h2 : W'.output = W.output) (h3 : ∀ (b : Nat) (o : Obj), W.heap[b]? = some o → W'.heap[b]? = some o) : W.keptBut W' may := by
  refine ⟨h1, h2, fun i hi => ?_⟩
  have ho : W.heap[i]? = some W.heap[i] := by simp [hi]
  rw [h3 i _ ho, ho]
  cases W.heap[i] <;> simp
theorem isTrue_some {x : Option (A × Hp)} (h : isTrue x = true) : ∃ h', x = some (.b true, h') := by
  unfold isTrue at h
  split at h
  · exact ⟨_, rfl⟩
  · cases h
/-- The law, at no numbers. -/
theorem law_nil {W : World} {ab ao : Nat} (L : Laid W ab ao) : Calls Tryz.prog 4 #[.slice none 0 0] W fun e w' => e = .returned (.bool true) ∧ w'.os = W.os ∧ w'.output = W.output ∧ ∀ (b : Nat) (o : Obj), W.heap[b]? = some o → w'.heap[b]? = some o := by
  obtain ⟨h', hx⟩ := isTrue_some m_nil
  have m := L.mem (fa := kn0) (nat := ntM 17) (ρ := fun _ => 0) (kn0_ok _)
  obtain ⟨_, hcalls⟩ := call_run (C := cx kn0 17 (ntM 17)) (NatOk.of (stM kn0 17 (Nat.le_refl _) _) W) mix_ok m (f := 4) (args := [.sl none 0 0 true]) (us := [.slice none 0 0]) (VRs.cons ⟨rfl, rfl⟩ VRs.nil) hx
  refine Calls.to hcalls fun e w' ⟨v, ψ', e1, _, m', hv⟩ => ⟨?_, m'.os, m'.output, m'.keep⟩
  rw [e1, show v = .bool true from hv]
theorem law_empty {W : World} {ab ao : Nat} (L : Laid W ab ao) (p : Addr) (c : Nat) : Calls Tryz.prog 4 #[.slice (some p) 0 c] W fun e w' => e = .returned (.bool true) ∧ w'.os = W.os ∧ w'.output = W.output ∧ ∀ (b : Nat) (o : Obj), W.heap[b]? = some o → w'.heap[b]? = some o := by
  obtain ⟨h', hx⟩ := isTrue_some m_empty
  have m := L.mem (fa := kn0) (nat := ntM 17) (ρ := fun _ => 0) (kn0_ok _)
  obtain ⟨_, hcalls⟩ := call_run (C := cx kn0 17 (ntM 17)) (NatOk.of (stM kn0 17 (Nat.le_refl _) _) W) mix_ok m (f := 4) (args := [.se]) (us := [.slice (some p) 0 c]) (VRs.cons ⟨p, c, rfl⟩ VRs.nil) hx
  refine Calls.to hcalls fun e w' ⟨v, ψ', e1, _, m', hv⟩ => ⟨?_, m'.os, m'.output, m'.keep⟩
  rw [e1, show v = .bool true from hv]
theorem cell_arr {W : World} {b k : Nat} {v : Value} (h : W.cell? ⟨b, k, none⟩ = some v) : ∃ arr e fr, W.heap[b]? = some (.cells arr e fr) ∧ arr[k]? = some v := by
  unfold World.cell? at h
  split at h
  · rename_i c t fr hc
    exact ⟨c, t, fr, hc, by simpa using h⟩
  · cases h
/-- The memory, with the numbers. -/
theorem mem18 {W : World} {ab ao : Nat} (L : Laid W ab ao) {k : Kn} {nat : T Nat'} {ρ : Nat → Int} (hk : k.Ok ρ) {b off cap n : Nat} {zs : Nat → Nat} (hp : 0 < n) (hnc : n ≤ cap) (hcap : cap < 9223372036854775808) (hc : ∀ j, j < cap → ∃ v, W.cell? ⟨b, off + j, none⟩ = some v) (hv : ∀ j, j < n → W.cell? ⟨b, off + j, none⟩ = some (.int .u32 ((zs j : Nat) : Int)))
    (h0 : ρ 0 = ((n : Nat) : Int)) (h1 : ∀ j, j < n → ρ (0 + 1 + j) = ((zs j : Nat) : Int)) : ∃ ψ, Mem (cx k 18 nat) ρ W (fun b => W.heap[b]?) ψ h18 W ∧ VR ρ ψ (.yl 17 0 1 0 0) (.slice (some ⟨b, off, none⟩) n cap) := by
  have m := L.mem (fa := kn0) (nat := nat) (ρ := ρ) (kn0_ok _)
  obtain ⟨v0, e0⟩ := hc 0 (by omega)
  obtain ⟨arr, e, fr, ha, _⟩ := cell_arr e0
  have hin : ∀ j v, W.cell? ⟨b, off + j, none⟩ = some v → arr[off + j]? = some v := fun j v hj => by
    obtain ⟨arr', e', fr', ha', hj'⟩ := cell_arr hj
    rw [ha] at ha'; cases ha'
    exact hj'
  have hsz : off + cap ≤ arr.size := by
    obtain ⟨v, hv⟩ := hc (cap - 1) (by omega)
    have := (Array.getElem?_eq_some_iff.1 (hin _ _ hv)).1
    omega
  have mm := m.more (C' := cx k 18 nat) rfl rfl (cx_ok hk) rfl rfl (B := ⟨b, off, arr.size⟩) (o := .yb 67 true 0 .e .u32 0) ha ⟨arr, e, fr, n, rfl, rfl, fun hx => (by cases hx), by simp only; omega, h0, fun j a hj => (by rw [T.get_e] at hj; cases hj), fun q hq => by
    rw [h1 q hq]
    exact hin q _ (hv q hq)⟩ (fun e ro n t hx => by cases hx)
  exact ⟨_, mm, ⟨_, n, cap, Psi.with_at _ _ _, h0, by omega, by rw [Nat.zero_add]; rfl, by omega, by simp only; omega⟩⟩
/-- The law, at numbers. -/
theorem law_some {W : World} {ab ao : Nat} (L : Laid W ab ao) {b off cap : Nat} {l : List Nat} (hp : 0 < l.length) (hnc : l.length ≤ cap) (hcap : cap < 9223372036854775808) (hc : ∀ j, j < cap → ∃ v, W.cell? ⟨b, off + j, none⟩ = some v) (hv : ∀ j, j < l.length → W.cell? ⟨b, off + j, none⟩ = some (.int .u32 ((l.getD j 0 : Nat) : Int))) (he : ∀ x ∈ l, x < 4294967296) :
    Calls Tryz.prog 4 #[.slice (some ⟨b, off, none⟩) l.length cap] W fun e w' => e = .returned (.bool true) ∧ w'.os = W.os ∧ w'.output = W.output ∧ ∀ (b : Nat) (o : Obj), W.heap[b]? = some o → w'.heap[b]? = some o := by
  by_cases hl : l.length ≤ 100
  · obtain ⟨ψ, m, hv⟩ := mem18 (nat := ntK) (ρ := rhoT l) L (kB_ok hl) hp hnc hcap hc hv rho0 (fun j hj => by rw [Nat.zero_add]; exact rho1 (by omega))
    exact path_call (C := cB) m (VRs.cons hv VRs.nil) fr_is fun cs m0 hs => loop_ends hl he hs
  · have hk : kG.Ok (fun v => if v = 0 then ((l.length : Nat) : Int) else ((l.getD (v - 1) 0 : Nat) : Int)) := by
      refine ⟨fun x hx => ?_, fun x hx => (by cases hx), fun x hx => (by cases hx)⟩
      simp only [kG, List.mem_cons, List.not_mem_nil, or_false] at hx
      subst hx
      simp only [icmp, SE.ev, if_true, Option.some.injEq, decide_eq_true_eq]
      show ((l.length : Nat) : Int) > ((100 : Nat) : Int)
      omega
    obtain ⟨ψ, m, hv⟩ := mem18 (nat := ntK) L hk hp hnc hcap hc hv rfl (fun j hj => by rw [if_neg (by omega), show 0 + 1 + j - 1 = j by omega])
    obtain ⟨h', hx⟩ := isTrue_some m_many
    obtain ⟨_, hcalls⟩ := call_run (C := cx kG 18 ntK) (NatOk.of (stM kG 18 (by decide) _) W) mix_ok m (f := 4) (VRs.cons hv VRs.nil) hx
    refine Calls.to hcalls fun e w' ⟨v, ψ', e1, _, m', hv⟩ => ⟨?_, m'.os, m'.output, m'.keep⟩
    rw [e1, show v = .bool true from hv]
end Go.U
namespace Go.Proofs.YtnmmefndcbnhcaaGreatDoor
open Go Go.U Go.Proofs Go.ChangeShapes Go.WideShapes Go.ChangeAt Go.RowKit
theorem cell_kept {W W' : World} (h : ∀ (b : Nat) (o : Obj), W.heap[b]? = some o → W'.heap[b]? = some o) {a : Addr} {v : Value} (hc : W.cell? a = some v) : W'.cell? a = some v := by
  unfold World.cell? at hc ⊢
  split at hc
  · rename_i c t fr hb
    rw [h _ _ hb]; exact hc
  · cases hc
theorem cell_lt {W : World} {a : Addr} {v : Value} (hc : W.cell? a = some v) : a.block < W.heap.size := by
  unfold World.cell? at hc
  split at hc
  · rename_i c t fr hb
    exact get_lt hb
  · cases hc
theorem own : ownKnob Tryz.prog.godebug = none := by kernel_rfl
theorem lifted (os : Os) (started : os.Started) (H : Type) (enc : TypeId × Value → H) (F : Stop.Interp) :
    ReturnsInHanded {} Tryz.checked os 4 .any ((OpenSpec.ofChange Rows.stateTicksSpec).preRow enc Tryz.prog Tryz.f4 Rows.stateTicksRow.domain false Rows.stateTicksRow.laid) (((OpenSpec.ofChange Rows.stateTicksSpec).at F).post enc Tryz.prog Tryz.f4 false true false false) := by
  refine returnsInHanded_of_row (C := Tryz.checked) (s := OpenSpec.ofChange Rows.stateTicksSpec) own started (by kernel_rfl) Tryz.func4 (witn os enc) ?_
  intro W base args ds gs before hval0 hW _ _ _ hL hS _
  have hval : ∀ (j : Nat) t v, Tryz.f4.params[j]? = some t → args[j]? = some v → Value.okWide Tryz.prog W .any base t v := hval0
  have hW' := hW
  obtain ⟨p, q, hA0, hV, rfl, hfz, hnd⟩ := hW
  have hA : DataW.TrodAll enc Tryz.prog W 0 (fun _ => true) true Tryz.f4.params.toList args.toList ds p := hA0
  rw [Tryz.params4] at hA hval
  obtain ⟨v0, d0, rfl, rfl, t0⟩ := trodAll_one hA
  obtain ⟨rfl, rfl⟩ := trodVars_none hV
  obtain ⟨a0, len, cap, rfl⟩ := okWide_slice Tryz.underlying60 (hval 0 60 _ rfl rfl)
  obtain ⟨fuel, t0⟩ := t0
  obtain ⟨ab, ao, L⟩ := laid_of hL hS
  have hc67 : Tryz.prog.cellsOf 67 = 1 := by kernel_rfl
  rcases open_ints Tryz.underlying60 Tryz.underlying67 hc67 t0 with ⟨hcs, hx⟩ | ⟨ad, len', cap', zs, hcs, hb, hle, hm, hz, hx, hcell, hwf⟩
  · simp [Value.cells] at hcs
    obtain ⟨rfl, rfl, rfl⟩ := hcs
    obtain ⟨rfl, rfl⟩ := Prod.mk.inj hx
    refine (law_nil L).mono fun e W' ⟨he, h1, h2, h3⟩ => ?_
    subst he
    exact ⟨_, rfl, _, _, _, [], [], [], hW', trodAll_mk1 (shut_bool Tryz.underlying4 _), trodAll_mk1 ⟨1, (show DataW.trod enc Tryz.prog W' 0 (fun b => decide (b < W.heap.size)) true 1 60 [.slice none 0 0] = some (.nil, []) by simp [DataW.trod, Tryz.underlying60])⟩, rfl, kept_all h1 h2 h3, fun h => by cases h⟩
  · simp [Value.cells] at hcs
    obtain ⟨rfl, rfl, rfl⟩ := hcs
    obtain ⟨rfl, rfl⟩ := Prod.mk.inj hx
    have hz' : zs.length = cap := by simpa using hz
    have hlt : maxLen < 9223372036854775808 := by decide
    have fin : ∀ W' : World, W'.os = W.os → W'.output = W.output → (∀ (b : Nat) (o : Obj), W.heap[b]? = some o → W'.heap[b]? = some o) → ∃ v, Ending.returned (Value.bool true) = Ending.returned v ∧ ((OpenSpec.ofChange Rows.stateTicksSpec).at F).post enc Tryz.prog Tryz.f4 false true false false W #[.slice (some ad) len cap] v W' := fun W' h1 h2 h3 => by
      have hcell' : ∀ i, i < zs.length → W'.cell? (ad.add i) = some (.int .u32 (zs.getD i 0)) := fun i hi => cell_kept h3 (hcell i hi)
      have hsp : zs.length = (if decide (ad.block < W.heap.size) then cap else len) := by
        by_cases h0 : 0 < zs.length
        · have := cell_lt (hcell 0 h0)
          rw [block_add] at this
          rw [if_pos (by simpa using this)]; exact hz'
        · have hc0 : cap = 0 := by omega
          have hl0 : len = 0 := by omega
          have hz0 : zs.length = 0 := by omega
          rw [hz0, hc0, hl0]
          split <;> rfl
      exact ⟨_, rfl, _, _, _, [], _, [], hW', trodAll_mk1 (shut_bool Tryz.underlying4 _), trodAll_mk1 ⟨2, shut_ints 0 Tryz.underlying60 Tryz.underlying67 hc67 (Nat.zero_le _) hle hm hsp hcell' hwf⟩, rfl, kept_all h1 h2 h3, fun h => by cases h⟩
    by_cases h0 : len = 0
    · subst h0
      exact (law_empty L ad cap).mono fun e W' ⟨he, h1, h2, h3⟩ => by subst he; exact fin W' h1 h2 h3
    · obtain ⟨b, off, rfl, hat⟩ := ints_at hcell (by omega)
      have hnum : ∀ n ∈ zs, ∃ m : Nat, n = ((m : Nat) : Int) ∧ m < 4294967296 := fun n hn => by
        have h := hwf n hn
        simp [Lit.wf, IntKind.min, IntKind.max, IntKind.signed, IntKind.bits] at h
        exact ⟨n.toNat, by omega, by omega⟩
      have hll : ((zs.take len).map Int.toNat).length = len := by simp; omega
      have hget : ∀ j, j < len → zs.getD j 0 = ((((zs.take len).map Int.toNat).getD j 0 : Nat) : Int) := fun j hj => by
        have hjz : j < zs.length := by omega
        obtain ⟨m, h1, _⟩ := hnum zs[j] (List.getElem_mem hjz)
        simp only [List.getD_eq_getElem?_getD, List.getElem?_map, List.getElem?_take_of_lt hj, List.getElem?_eq_getElem hjz, Option.map_some, Option.getD_some]
        rw [h1]; simp
      have := law_some L (l := (zs.take len).map Int.toNat) (b := b) (off := off) (cap := cap) (by omega) (by omega) (by omega) (fun j hj => ⟨_, hat j (by omega)⟩) (fun j hj => by rw [hat j (by omega), hget j (by omega)]) (fun x hx => by
        obtain ⟨n, hn, rfl⟩ := List.mem_map.1 hx
        obtain ⟨m, rfl, hm⟩ := hnum n (List.mem_of_mem_take hn)
        simpa using hm)
      rw [hll] at this
      exact this.mono fun e W' ⟨he, h1, h2, h3⟩ => by subst he; exact fin W' h1 h2 h3
end Go.Proofs.YtnmmefndcbnhcaaGreatDoor
