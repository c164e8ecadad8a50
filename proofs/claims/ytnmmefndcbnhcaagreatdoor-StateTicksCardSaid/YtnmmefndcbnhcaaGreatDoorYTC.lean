import Derived.Test.YtnmmefndcbnhcaaGreatDoorYT0
/-
  The tie: one run of the variables that the program lays.
-/
namespace Go.Proofs.YtnmmefndcbnhcaaGreatDoor
open Go Go.U
theorem h2' : ∀ os tape, (DataW.laidRun Tryz.prog (varsWorld Tryz.prog 400 (varsId Tryz.prog) os tape).memory 8 ((laidL.filter fun x => x.2.handleName?.isNone).map (·.1))).map (fun x => ndT (x.2.map keyOfPlace) .e && laidRowsB Tryz.prog (varsWorld Tryz.prog 400 (varsId Tryz.prog) os tape).memory x.2) = some true := fun _ _ => by kernel_rfl
theorem h2 (os : Os) (tape : Tape) : (DataW.laidRun Tryz.prog (varsWorld Tryz.prog 400 (varsId Tryz.prog) os tape).memory 8 ((laidL.filter fun x => x.2.handleName?.isNone).map (·.1))).map (fun x => decide x.2.Nodup && laidRowsB Tryz.prog (varsWorld Tryz.prog 400 (varsId Tryz.prog) os tape).memory x.2) = some true := by
  obtain ⟨x, hx, hy⟩ := Option.map_eq_some_iff.1 (h2' os tape)
  refine Option.map_eq_some_iff.2 ⟨x, hx, ?_⟩
  simp only [Bool.and_eq_true] at hy ⊢
  exact ⟨decide_eq_true (nodup_key hy.1), hy.2⟩
end Go.Proofs.YtnmmefndcbnhcaaGreatDoor
