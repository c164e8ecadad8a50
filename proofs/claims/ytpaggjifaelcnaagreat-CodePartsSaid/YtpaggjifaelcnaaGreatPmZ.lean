import Derived.Test.YtpaggjifaelcnaaGreatPmI
import Derived.Test.YtpaggjifaelcnaaGreatPmG3
import Derived.Test.YtpaggjifaelcnaaGreatPLZ
import Derived.Test.YtpaggjifaelcnaaGreatRows
import Derived.WalkKit
import Derived.ProofKit
import Derived.ShutString
import Derived.ChangeOld
import Derived.SizedLaws
/-
  'pointsman/pointsmanlaw12.CodeParts': whatever comes in, it answers true; each argument reads behind the call as it read before.
-/
set_option linter.unusedVariables false
set_option linter.unusedSimpArgs false
namespace Go.Proofs.YtpaggjifaelcnaaGreat
open Go Go.Pm Go.ChangeShapes Go.WideShapes Go.ChangeAt Go.RowKit
theorem pm_own : ownKnob Tryz.prog.godebug = none := by kernel_rfl
theorem pm_laidOut : laidOutB Tryz.prog = true := by kernel_rfl
set_option maxRecDepth 100000 in
theorem pm_lifted (os : Os) (started : os.Started) (H : Type) (enc : TypeId × Value → H) :
    ReturnsInHanded {} Tryz.checked os 3 .any (Rows.codePartsSpec.pre6 enc Tryz.prog Tryz.f3 Rows.codePartsRow.domain false) (Rows.codePartsSpec.post enc Tryz.prog Tryz.f3 false true false false) := by
  refine returnsInHanded_of_change_sized (C := Tryz.checked) pm_own started (by kernel_rfl) Tryz.func3
    (ChangeSpec.witness6 (enc := enc) (C := Tryz.checked) false ⟨#[], #[.agg #[.slice none 0 0, .slice none 0 0, .slice none 0 0, .slice none 0 0, .slice none 0 0, .slice none 0 0, .slice none 0 0, .slice none 0 0, .slice none 0 0], .int .u8 0], []⟩ 12 (by kernel_rfl) (by kernel_rfl) (by kernel_rfl) (by kernel_rfl)) ?_
  intro W base args ds gs before hval0 hW hcnd hsz _
  have hval : ∀ (j : Nat) t v, Tryz.f3.params[j]? = some t → args[j]? = some v → Value.okWide Tryz.prog W .any base t v := hval0
  have hW' := hW
  obtain ⟨p, q, hA0, hV, rfl, hfz, hnd⟩ := hW
  have hA : DataW.TrodAll enc Tryz.prog W 0 (fun _ => true) true Tryz.f3.params.toList args.toList ds p := hA0
  rw [Tryz.params3] at hA hval
  have hz0 : Wts (DataW.weightsEach Tryz.prog (Tryz.f3.params.toList ++ Rows.codePartsSpec.plain.varTypes Tryz.prog) (ds ++ gs)) := wts_of hsz
  obtain ⟨rfl, rfl⟩ := trodVars_none hV
  rw [Tryz.params3] at hz0
  obtain ⟨v0, vs0, d0, ds0, p0, q0, hargs, rfl, rfl, h0, r0⟩ := trodAll_cons hA
  obtain ⟨v1, vs1, d1, ds1, p1, q1, rfl, rfl, rfl, h1, r1⟩ := trodAll_cons r0
  obtain ⟨rfl, rfl, rfl⟩ := trodAll_nil r1
  obtain rfl : args = #[v0, v1] := by cases args; simp_all
  have lt0 : ∀ x ∈ p0, x.block < W.heap.size := by obtain ⟨m, hm⟩ := h0; exact DataW.trod_lt m _ _ _ hm
  have lt1 : ∀ x ∈ p1, x.block < W.heap.size := by obtain ⟨m, hm⟩ := h1; exact DataW.trod_lt m _ _ _ hm
  obtain ⟨z0, w0⟩ := wts_each hz0
  obtain ⟨z1, w1⟩ := wts_each w0
  obtain ⟨x0, k0, b0⟩ := rd_arg rd30 (by kernel_rfl) (hval 0 30 v0 rfl rfl) h0 z0
  obtain ⟨x1, k1, b1⟩ := rd_arg rd5 (by kernel_rfl) (hval 1 5 v1 rfl rfl) h1 z1
  have hl : Go.Pt.pointsmanlaw12_CodeParts x0 x1 = some true := Go.Pt.lawZ x0 x1 b0 b1
  refine (calls_bool (ok3 x0 x1 _ hl) (vs := [v0, v1]) (w := W) ⟨k0, k1, trivial⟩).mono fun e W' ⟨he, bel⟩ => ?_
  subst he
  exact ⟨_, rfl, _, _, _, [], _, [], hW', trodAll_mk1 (shut_bool Tryz.underlying4 _), (trodAll_cons_mk (Below.trod pm_laidOut (by kernel_rfl) (of_decide_eq_true (by kernel_rfl)) h0 bel lt0) (trodAll_cons_mk (Below.trod pm_laidOut (by kernel_rfl) (of_decide_eq_true (by kernel_rfl)) h1 bel lt1) trodAll_mk0)), rfl, bel.frame _, fun h => by cases h⟩
theorem pm_over : Rows.codePartsRow.holds Tryz.pinned (OpenSpec.ofChange Rows.codePartsSpec) :=
  OpenClaim.holds_of_wide 3 Tryz.f3 rfl rfl rfl rfl rfl rfl rfl ⟨rfl, rfl, rfl, rfl, rfl⟩ rfl rfl rfl rfl rfl (by kernel_rfl) Tryz.func3 (by kernel_rfl)
    (of_decide_eq_true (by kernel_rfl)) (by unfold Func.isWrapper; first | (rw [if_pos (by decide +kernel)]; kernel_rfl) | (rw [if_neg (by decide +kernel)]; exact ⟨rfl, rfl⟩))
    (fun os started H enc _ => pm_lifted os started H enc)
/-- The statement. -/
theorem codeParts_holds : Rows.CodePartsSaid := pm_over
#print axioms codeParts_holds
end Go.Proofs.YtpaggjifaelcnaaGreat
