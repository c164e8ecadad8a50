import Derived.Test.YtjdkhijaffbmaaaGreatDoorYW
/-
  The law's call at every number, out of the row's own conditions.
-/
set_option linter.unusedVariables false
set_option linter.unusedSimpArgs false
set_option maxRecDepth 1000000
namespace Go.U
open Go Go.RowKit Go.Proofs Go.Proofs.YtjdkhijaffbmaaaGreatDoor

noncomputable def numsOf : List A → List Nat
  | .i _ n :: l => n.toNat :: numsOf l
  | _ => []
noncomputable def glL (g : Nat × CO) : List A := match g.2 with | .cells _ _ l => l | _ => []
theorem rt_is : (Tryz.prog.cutTypes.find? (·.1 == "internal/reflectlite.rtype")).map (·.2) = some 260 := by kernel_rfl
theorem oneRow : ((List.range 636).filter fun t => Tryz.prog.rowNamed t [101, 114, 114, 111, 114]) = [102] := by kernel_rfl
theorem size_is : Tryz.prog.types.size = 636 := by kernel_rfl
theorem handle_is : typeHandle Tryz.prog 102 = .pointer (some ⟨12, 102, none⟩) := by kernel_rfl
theorem star : "*" ++ "errors.errorString" = "*errors.errorString" := by decide
theorem row603 (u : TypeId) (h : Tryz.prog.typeName? 3 u = some "*errors.errorString") : u = 603 :=
  typeName_ptr_named (nm := "errors.errorString") (by rw [star]; kernel_rfl) (by kernel_rfl) (by decide) u (by rw [star]; exact h)
theorem laid_list : (Rows.sourceChoosesRow.laid.filter fun x => x.2.handleName?.isNone) = [("unicode/utf8.first", Rows.laid_unicode_utf8_first), ("unicode/utf8.acceptRanges", Rows.laid_unicode_utf8_acceptRanges), ("strconv.ErrSyntax", Rows.laid_strconv_ErrSyntax), ("strconv.ErrRange", Rows.laid_strconv_ErrRange), ("internal/strconv.uint64pow10", Rows.laid_internal_strconv_uint64pow10), ("math/bits.deBruijn32tab", Rows.laid_math_bits_deBruijn32tab), ("math/bits.deBruijn64tab", Lib.tabData .u8 ((numsOf (glL gl7)).map Int.ofNat)), ("strings.asciiSpace", Lib.tabData .u8 ((numsOf (glL gl1)).map Int.ofNat)), ("unicode.White_Space", Rows.laid_unicode_White_Space)] := by kernel_rfl
theorem hand_list : (Rows.sourceChoosesRow.laid.filter fun x => x.2.handleName?.isSome) = [("errors.errorType", Rows.laid_errors_errorType)] := by kernel_rfl
theorem nums1 : glL gl1 = (numsOf (glL gl1)).map fun z => A.i .u8 (Int.ofNat z) := by kernel_rfl
theorem nums10 : glL gl7 = (numsOf (glL gl7)).map fun z => A.i .u8 (Int.ofNat z) := by kernel_rfl
theorem gsz : Tryz.prog.globals.size = 12 := by kernel_rfl
theorem hsz : (Nat.blt 12 (begin Tryz.prog (fun _ _ => 0) default).world.heap.size) = true := by kernel_rfl
theorem tab_VRs {g : Nat × CO} (h : glL g = (numsOf (glL g)).map fun z => A.i .u8 (Int.ofNat z)) : VRs (fun _ => 0) (fun _ => none) (glL g) ((((numsOf (glL g)).map Int.ofNat).map fun z => Value.int .u8 z).toArray).toList := by
  have := ints_VRs (fun _ => 0) (fun _ => none) .u8 (numsOf (glL g))
  rw [← h] at this
  rw [List.map_map]
  exact this
theorem laid_of {W : World} (hL : laidMetH Tryz.prog Rows.sourceChoosesRow.laid W) (hS : W.ShapedOpen Tryz.prog) : ∃ ab ao, Laid W ab ao := by
  unfold laidMetH at hL
  rw [hand_list, laid_list] at hL
  obtain ⟨hm, hh⟩ := hL
  have hm' := hm
  obtain ⟨ps, hl, _, _⟩ := hm
  have h12 : 12 < W.heap.size := by
    obtain ⟨o, o0, k1, _⟩ := hS.2 12 (by rw [gsz]; omega) (by have := hsz; rw [Nat.blt_eq] at this; exact this)
    exact get_lt k1
  obtain ⟨name, u, ty, e1, e2, e3, e4, e5⟩ := hh _ (List.mem_singleton.2 rfl)
  have en : name = [101, 114, 114, 111, 114] := (Option.some.inj e1).symm
  subst en
  obtain rfl := Option.some.inj (rt_is.symm.trans e2)
  have hty : ty ∈ (List.range 636).filter fun t => Tryz.prog.rowNamed t [101, 114, 114, 111, 114] := List.mem_filter.2 ⟨List.mem_range.2 (by rw [← size_is]; exact e3), e4⟩
  rw [oneRow] at hty
  obtain rfl := List.mem_singleton.1 hty
  rw [handle_is] at e5
  obtain ⟨a, s, v4, c4, _⟩ := laid_sentinel (hm'.tail.tail) (g := 4) (ti := 102) (tp := 603) (te := 605) (ts := 9) (by kernel_rfl) (by kernel_rfl) Tryz.underlying102 row603 Tryz.underlying603 Tryz.underlying605 rfl rfl Tryz.underlying9 (by kernel_rfl) (by kernel_rfl)
  have ha : a.block < W.heap.size ∧ a.spot = none := by
    unfold World.cell? at c4
    split at c4
    · rename_i c t fr hc
      split at c4
      · cases c4
      · rename_i hs
        exact ⟨get_lt hc, by simpa using hs⟩
    · cases c4
  obtain ⟨ab, ao, sp⟩ := a
  obtain rfl : sp = none := ha.2
  have v1 := tab_at hl (n := "strings.asciiSpace") (k := .u8) (zs := (numsOf (glL gl1)).map Int.ofNat) (by simp) (g := 1) (t := 537) (e := 5) (c := 256) (by kernel_rfl) (by kernel_rfl) Tryz.underlying537 Tryz.underlying5 (by kernel_rfl) (by kernel_rfl)
  have v10 := tab_at hl (n := "math/bits.deBruijn64tab") (k := .u8) (zs := (numsOf (glL gl7)).map Int.ofNat) (by simp) (g := 7) (t := 598) (e := 5) (c := 64) (by kernel_rfl) (by kernel_rfl) Tryz.underlying598 Tryz.underlying5 (by kernel_rfl) (by kernel_rfl)
  obtain ⟨f0, g0⟩ := glob_at hS (g := 0) (t := 164) (by rw [gsz]; decide) (by kernel_rfl) (n := "errors.errorType") (by kernel_rfl) e5
  obtain ⟨f1, g1⟩ := glob_at hS (g := 1) (t := 537) (by rw [gsz]; decide) (by kernel_rfl) (n := "strings.asciiSpace") (by kernel_rfl) v1
  obtain ⟨f4, g4⟩ := glob_at hS (g := 4) (t := 102) (by rw [gsz]; decide) (by kernel_rfl) (n := "strconv.ErrSyntax") (by kernel_rfl) v4
  obtain ⟨f10, g10⟩ := glob_at hS (g := 7) (t := 598) (by rw [gsz]; decide) (by kernel_rfl) (n := "math/bits.deBruijn64tab") (by kernel_rfl) v10
  exact ⟨ab, ao, h12, ha.1, ⟨f0, g0⟩, ⟨_, f1, g1, tab_VRs nums1⟩, ⟨f4, g4⟩, ⟨_, f10, g10, tab_VRs nums10⟩⟩
theorem kept_all {W W' : World} {may : MemPlace → Prop} (h1 : W'.os = W.os) (h2 : W'.output = W.output) (h3 : ∀ (b : Nat) (o : Obj), W.heap[b]? = some o → W'.heap[b]? = some o) : W.keptBut W' may := by
  refine ⟨h1, h2, fun i hi => ?_⟩
  have ho : W.heap[i]? = some W.heap[i] := by simp [hi]
  rw [h3 i _ ho, ho]
  cases W.heap[i] <;> simp
/-- The law, at two numbers. -/
theorem law {W : World} {ab ao : Nat} (L : Laid W ab ao) {a b : Nat} (ha : a < 256) (hb : b < 256) : Calls Tryz.prog 3 #[.int .u8 (Int.ofNat a), .int .u8 (Int.ofNat b)] W fun e w' => e = .returned (.bool true) ∧ ∀ may : MemPlace → Prop, W.keptBut w' may := by
  obtain ⟨k, n, nt, h', hk, hs, hx⟩ := every ha hb
  have m := L.mem (fa := k) (nat := nt) (ρ := rho2 a b) hk
  obtain ⟨_, hcalls⟩ := call_run (C := cx k 17 nt) (NatOk.of hs W) mix_ok m (f := 3) (args := [.y .u8 (.var 0), .y .u8 (.var 1)]) (us := [.int .u8 (Int.ofNat a), .int .u8 (Int.ofNat b)]) (VRs.cons rfl (VRs.cons rfl VRs.nil)) hx
  refine Calls.to hcalls fun e w' ⟨v, ψ', e1, _, m', hv⟩ => ⟨?_, fun may => kept_all m'.os m'.output m'.keep⟩
  rw [e1, show v = .bool true from hv]
end Go.U
namespace Go.Proofs.YtjdkhijaffbmaaaGreatDoor
open Go Go.U Go.Proofs Go.ChangeShapes Go.WideShapes Go.ChangeAt Go.RowKit
theorem own : ownKnob Tryz.prog.godebug = none := by kernel_rfl
theorem lifted (os : Os) (started : os.Started) (H : Type) (enc : TypeId × Value → H) (F : Stop.Interp) :
    ReturnsInHanded {} Tryz.checked os 3 .any ((OpenSpec.ofChange Rows.sourceChoosesSpec).preRow enc Tryz.prog Tryz.f3 Rows.sourceChoosesRow.domain false Rows.sourceChoosesRow.laid) (((OpenSpec.ofChange Rows.sourceChoosesSpec).at F).post enc Tryz.prog Tryz.f3 false true false false) := by
  refine returnsInHanded_of_row (C := Tryz.checked) (s := OpenSpec.ofChange Rows.sourceChoosesSpec) own started (by kernel_rfl) Tryz.func3 (witn os enc) ?_
  intro W base args ds gs before hval0 hW _ _ _ hL hS _
  have hval : ∀ (j : Nat) t v, Tryz.f3.params[j]? = some t → args[j]? = some v → Value.okWide Tryz.prog W .any base t v := hval0
  have hW' := hW
  obtain ⟨p, q, hA0, hV, rfl, hfz, hnd⟩ := hW
  have hA : DataW.TrodAll enc Tryz.prog W 0 (fun _ => true) true Tryz.f3.params.toList args.toList ds p := hA0
  rw [Tryz.params3] at hA hval
  obtain ⟨v0, v1, d0, d1, p0, p1, rfl, rfl, rfl, t0, t1⟩ := trodAll_two hA
  obtain ⟨rfl, rfl⟩ := trodVars_none hV
  obtain ⟨x, rfl, rfl, rfl, hwx⟩ := open_int Tryz.underlying5 (hval 0 5 v0 rfl rfl) t0
  obtain ⟨y, rfl, rfl, rfl, hwy⟩ := open_int Tryz.underlying5 (hval 1 5 v1 rfl rfl) t1
  have hn : ∀ n : Int, (Lit.int IntKind.u8 n).wf = true → ∃ m : Nat, n = Int.ofNat m ∧ m < 256 := fun n h => by
    simp [Lit.wf, IntKind.min, IntKind.max, IntKind.signed, IntKind.bits] at h
    exact ⟨n.toNat, by simp; omega, by omega⟩
  obtain ⟨a, rfl, ha⟩ := hn x hwx
  obtain ⟨b, rfl, hb⟩ := hn y hwy
  obtain ⟨ab, ao, L⟩ := laid_of hL hS
  refine (law L ha hb).mono fun e W' ⟨he, hk⟩ => ?_
  subst he
  exact ⟨_, rfl, _, _, _, [], [], [], hW', trodAll_mk1 (shut_bool Tryz.underlying4 _), trodAll_mk2 (shut_int Tryz.underlying5 hwx) (shut_int Tryz.underlying5 hwy), rfl, hk _, fun h => by cases h⟩
end Go.Proofs.YtjdkhijaffbmaaaGreatDoor
