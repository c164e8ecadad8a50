import Derived.Test.YtgaboagpnnoabaaGreatDoorYW
/-
  The law's call at every number, out of the row's own conditions.
-/
set_option linter.unusedVariables false
set_option linter.unusedSimpArgs false
set_option maxRecDepth 1000000
namespace Go.U
open Go Go.RowKit Go.Proofs Go.Proofs.YtgaboagpnnoabaaGreatDoor

noncomputable def numsOf : List A → List Nat
  | .i _ n :: l => n.toNat :: numsOf l
  | _ => []
noncomputable def glL (g : Nat × CO) : List A := match g.2 with | .cells _ _ l => l | _ => []
theorem rt_is : (Tryz.prog.cutTypes.find? (·.1 == "internal/reflectlite.rtype")).map (·.2) = some 231 := by kernel_rfl
theorem oneRow : ((List.range 599).filter fun t => Tryz.prog.rowNamed t [101, 114, 114, 111, 114]) = [90] := by kernel_rfl
theorem size_is : Tryz.prog.types.size = 599 := by kernel_rfl
theorem handle_is : typeHandle Tryz.prog 90 = .pointer (some ⟨12, 90, none⟩) := by kernel_rfl
theorem star : "*" ++ "errors.errorString" = "*errors.errorString" := by decide
theorem row564 (u : TypeId) (h : Tryz.prog.typeName? 3 u = some "*errors.errorString") : u = 564 :=
  typeName_ptr_named (nm := "errors.errorString") (by rw [star]; kernel_rfl) (by kernel_rfl) (by decide) u (by rw [star]; exact h)
theorem laid_list : (Rows.sourceSelectsRow.laid.filter fun x => x.2.handleName?.isNone) = [("unicode/utf8.first", Rows.laid_unicode_utf8_first), ("unicode/utf8.acceptRanges", Rows.laid_unicode_utf8_acceptRanges), ("strconv.ErrSyntax", Rows.laid_strconv_ErrSyntax), ("strconv.ErrRange", Rows.laid_strconv_ErrRange), ("internal/strconv.uint64pow10", Rows.laid_internal_strconv_uint64pow10), ("math/bits.deBruijn32tab", Rows.laid_math_bits_deBruijn32tab), ("math/bits.deBruijn64tab", Lib.tabData .u8 ((numsOf (glL gl10)).map Int.ofNat)), ("strings.asciiSpace", Lib.tabData .u8 ((numsOf (glL gl1)).map Int.ofNat)), ("unicode.White_Space", Rows.laid_unicode_White_Space)] := by kernel_rfl
theorem hand_list : (Rows.sourceSelectsRow.laid.filter fun x => x.2.handleName?.isSome) = [("errors.errorType", Rows.laid_errors_errorType)] := by kernel_rfl
theorem nums1 : glL gl1 = (numsOf (glL gl1)).map fun z => A.i .u8 (Int.ofNat z) := by kernel_rfl
theorem nums10 : glL gl10 = (numsOf (glL gl10)).map fun z => A.i .u8 (Int.ofNat z) := by kernel_rfl
theorem gsz : Tryz.prog.globals.size = 12 := by kernel_rfl
theorem hsz : (Nat.blt 12 (begin Tryz.prog (fun _ _ => 0) default).world.heap.size) = true := by kernel_rfl
theorem tab_VRs {g : Nat × CO} (h : glL g = (numsOf (glL g)).map fun z => A.i .u8 (Int.ofNat z)) : VRs (fun _ => 0) (fun _ => none) (glL g) ((((numsOf (glL g)).map Int.ofNat).map fun z => Value.int .u8 z).toArray).toList := by
  have := ints_VRs (fun _ => 0) (fun _ => none) .u8 (numsOf (glL g))
  rw [← h] at this
  rw [List.map_map]
  exact this
theorem laid_of {W : World} (hL : laidMetH Tryz.prog Rows.sourceSelectsRow.laid W) (hS : W.ShapedOpen Tryz.prog) : ∃ ab ao, Laid W ab ao := by
  unfold laidMetH at hL
  rw [hand_list, laid_list] at hL
  obtain ⟨hm, hh⟩ := hL
  have hm' := hm
  obtain ⟨ps, hl, _, _⟩ := hm
  have h12 : 12 < W.heap.size := by
    obtain ⟨o, o0, k1, _⟩ := hS.2 12 (by rw [gsz]; omega) (by have := hsz; rw [Nat.blt_eq] at this; exact this)
    exact get_lt k1
  obtain ⟨name, u, ty, e1, e2, e3, e4, e5⟩ := hh _ (List.mem_singleton.2 rfl)
  have en : name = [101, 114, 114, 111, 114] := (Option.some.inj e1).symm
  subst en
  obtain rfl := Option.some.inj (rt_is.symm.trans e2)
  have hty : ty ∈ (List.range 599).filter fun t => Tryz.prog.rowNamed t [101, 114, 114, 111, 114] := List.mem_filter.2 ⟨List.mem_range.2 (by rw [← size_is]; exact e3), e4⟩
  rw [oneRow] at hty
  obtain rfl := List.mem_singleton.1 hty
  rw [handle_is] at e5
  obtain ⟨a, s, v4, c4, _⟩ := laid_sentinel (hm'.tail.tail) (g := 4) (ti := 90) (tp := 564) (te := 566) (ts := 9) (by kernel_rfl) (by kernel_rfl) Tryz.underlying90 row564 Tryz.underlying564 Tryz.underlying566 rfl rfl Tryz.underlying9 (by kernel_rfl) (by kernel_rfl)
  have ha : a.block < W.heap.size ∧ a.spot = none := by
    unfold World.cell? at c4
    split at c4
    · rename_i c t fr hc
      split at c4
      · cases c4
      · rename_i hs
        exact ⟨get_lt hc, by simpa using hs⟩
    · cases c4
  obtain ⟨ab, ao, sp⟩ := a
  obtain rfl : sp = none := ha.2
  have v1 := tab_at hl (n := "strings.asciiSpace") (k := .u8) (zs := (numsOf (glL gl1)).map Int.ofNat) (by simp) (g := 1) (t := 489) (e := 5) (c := 256) (by kernel_rfl) (by kernel_rfl) Tryz.underlying489 Tryz.underlying5 (by kernel_rfl) (by kernel_rfl)
  have v10 := tab_at hl (n := "math/bits.deBruijn64tab") (k := .u8) (zs := (numsOf (glL gl10)).map Int.ofNat) (by simp) (g := 10) (t := 572) (e := 5) (c := 64) (by kernel_rfl) (by kernel_rfl) Tryz.underlying572 Tryz.underlying5 (by kernel_rfl) (by kernel_rfl)
  obtain ⟨f0, g0⟩ := glob_at hS (g := 0) (t := 140) (by rw [gsz]; decide) (by kernel_rfl) (n := "errors.errorType") (by kernel_rfl) e5
  obtain ⟨f1, g1⟩ := glob_at hS (g := 1) (t := 489) (by rw [gsz]; decide) (by kernel_rfl) (n := "strings.asciiSpace") (by kernel_rfl) v1
  obtain ⟨f4, g4⟩ := glob_at hS (g := 4) (t := 90) (by rw [gsz]; decide) (by kernel_rfl) (n := "strconv.ErrSyntax") (by kernel_rfl) v4
  obtain ⟨f10, g10⟩ := glob_at hS (g := 10) (t := 572) (by rw [gsz]; decide) (by kernel_rfl) (n := "math/bits.deBruijn64tab") (by kernel_rfl) v10
  exact ⟨ab, ao, h12, ha.1, ⟨f0, g0⟩, ⟨_, f1, g1, tab_VRs nums1⟩, ⟨f4, g4⟩, ⟨_, f10, g10, tab_VRs nums10⟩⟩
theorem kept_all {W W' : World} {may : MemPlace → Prop} (h1 : W'.os = W.os) (h2 : W'.output = W.output) (h3 : ∀ (b : Nat) (o : Obj), W.heap[b]? = some o → W'.heap[b]? = some o) : W.keptBut W' may := by
  refine ⟨h1, h2, fun i hi => ?_⟩
  have ho : W.heap[i]? = some W.heap[i] := by simp [hi]
  rw [h3 i _ ho, ho]
  cases W.heap[i] <;> simp
/-- The law, at a number. -/
theorem law {W : World} {ab ao : Nat} (L : Laid W ab ao) {n : Nat} (hn : n < 256) (may : MemPlace → Prop) : Calls Tryz.prog 3 #[.int .u8 (Int.ofNat n)] W fun e w' => e = .returned (.bool true) ∧ W.keptBut w' may := by
  obtain ⟨fa, k, h', hf, hc⟩ := every hn
  have m := L.mem (fa := fa) (nat := ntM 17) (ρ := fun _ => Int.ofNat n) hf
  obtain ⟨_, hcalls⟩ := call_run (C := cx fa 17 (ntM 17)) (NatOk.of (stM fa 17 (Nat.le_refl _) _) W) mix_ok m (f := 3) (args := [.y .u8 (.var 0)]) (us := [.int .u8 (Int.ofNat n)]) (VRs.cons rfl VRs.nil) hc
  refine Calls.to hcalls fun e w' ⟨v, ψ', e1, _, m', hv⟩ => ⟨?_, kept_all m'.os m'.output m'.keep⟩
  rw [e1, show v = .bool true from hv]
end Go.U
namespace Go.Proofs.YtgaboagpnnoabaaGreatDoor
open Go Go.U Go.Proofs Go.ChangeShapes Go.WideShapes Go.ChangeAt Go.RowKit
theorem own : ownKnob Tryz.prog.godebug = none := by kernel_rfl
theorem lifted (os : Os) (started : os.Started) (H : Type) (enc : TypeId × Value → H) (F : Stop.Interp) :
    ReturnsInHanded {} Tryz.checked os 3 .any ((OpenSpec.ofChange Rows.sourceSelectsSpec).preRow enc Tryz.prog Tryz.f3 Rows.sourceSelectsRow.domain false Rows.sourceSelectsRow.laid) (((OpenSpec.ofChange Rows.sourceSelectsSpec).at F).post enc Tryz.prog Tryz.f3 false true false false) := by
  refine returnsInHanded_of_row (C := Tryz.checked) (s := OpenSpec.ofChange Rows.sourceSelectsSpec) own started (by kernel_rfl) Tryz.func3 (witn os enc) ?_
  intro W base args ds gs before hval0 hW _ _ _ hL hS _
  have hval : ∀ (j : Nat) t v, Tryz.f3.params[j]? = some t → args[j]? = some v → Value.okWide Tryz.prog W .any base t v := hval0
  have hW' := hW
  obtain ⟨p, q, hA0, hV, rfl, hfz, hnd⟩ := hW
  have hA : DataW.TrodAll enc Tryz.prog W 0 (fun _ => true) true Tryz.f3.params.toList args.toList ds p := hA0
  rw [Tryz.params3] at hA hval
  obtain ⟨v0, d0, rfl, rfl, t0⟩ := trodAll_one hA
  obtain ⟨rfl, rfl⟩ := trodVars_none hV
  obtain ⟨n, rfl, rfl, rfl, hwn⟩ := open_int Tryz.underlying5 (hval 0 5 v0 rfl rfl) t0
  have hn : ∃ m : Nat, n = Int.ofNat m ∧ m < 256 := by
    have h := hwn
    simp [Lit.wf, IntKind.min, IntKind.max, IntKind.signed, IntKind.bits] at h
    exact ⟨n.toNat, by simp; omega, by omega⟩
  obtain ⟨m, rfl, hm⟩ := hn
  obtain ⟨ab, ao, L⟩ := laid_of hL hS
  refine (law L hm (fun p => p ∈ (([] ++ []) : List MemPlace) ∧ (p ∈ ([] : List MemPlace) ∨ p ∈ ([] : List MemPlace) ∨ p ∈ ([] : List MemPlace)))).mono fun e W' ⟨he, hk⟩ => ?_
  subst he
  exact ⟨_, rfl, _, _, _, [], [], [], hW', trodAll_mk1 (shut_bool Tryz.underlying4 _), trodAll_mk1 (shut_int Tryz.underlying5 hwn), rfl, hk, fun h => by cases h⟩
end Go.Proofs.YtgaboagpnnoabaaGreatDoor
