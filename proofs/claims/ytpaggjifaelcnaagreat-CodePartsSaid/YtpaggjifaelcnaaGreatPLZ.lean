import Derived.Test.YtpaggjifaelcnaaGreatPL18
import Derived.Test.YtpaggjifaelcnaaGreatPmI
/-
  CodeParts: from the bounds of what came in to the law.
-/
set_option linter.unusedVariables false
namespace Go.Pt
open Go Go.Pm Go.Proofs.YtpaggjifaelcnaaGreat

theorem fits_of {b : Nat} {α : Type} {Q : α → Prop} {xs : List α} (h : bdSl b Q xs) : Fits b xs := h.1
theorem fitsC_of {xs : List aIns} (h : bdSl 104 q_aIns xs) : FitsC xs := ⟨h.1, fun x hx => (h.2 x hx).2.2.2.2.2.2.1.1⟩
theorem bm_of {s : ByteArray} (h : bdStr s) : (s.size : Int) ≤ maxM := by simp only [bdStr] at h; simp only [maxM]; omega
theorem in_of {c : aCode} (h : q_aCode c) : In c where
  slots := h.1.1
  heads := h.2.1.1
  head x hx := (h.2.1.2 x hx).1.1
  meta_ := h.2.2.1.1
  states := h.2.2.2.1.1
  state x hx := let q := h.2.2.2.1.2 x hx; ⟨q.1.1, fitsC_of q.2.1, q.2.2.2.1.1⟩
  main := fitsC_of h.2.2.2.2.1
  acts := h.2.2.2.2.2.1.1
  act x hx := let q := h.2.2.2.2.2.1.2 x hx; ⟨bm_of q.1, q.2.1.1, fitsC_of q.2.2.1⟩
  tables := h.2.2.2.2.2.2.1.1
  table x hx := let q := h.2.2.2.2.2.2.1.2 x hx; ⟨bm_of q.1, q.2.1.1, q.2.2.1.1, q.2.2.2.1.1, q.2.2.2.2.2.1.1, fitsC_of q.2.2.2.2.2.2.2.1⟩
  emits := h.2.2.2.2.2.2.2.1.1
  arrays := h.2.2.2.2.2.2.2.2.1.1
  array x hx := let q := h.2.2.2.2.2.2.2.2.1.2 x hx; bm_of q.1
theorem lawZ (c : aCode) (w : Int) (h : q_aCode c) (k : Rng .u8 w) : pointsmanlaw12_CodeParts c w = some true :=
  law (in_of h) (by unfold Rng at k; simp [IntKind.min, IntKind.max, IntKind.signed, IntKind.bits] at k; exact k)
end Go.Pt
