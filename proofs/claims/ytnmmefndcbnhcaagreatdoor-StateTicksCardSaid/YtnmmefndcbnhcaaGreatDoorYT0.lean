import Derived.Test.YtnmmefndcbnhcaaGreatDoorRows
import Derived.Test.YtnmmefndcbnhcaaGreatDoorX4
import Derived.LaidByTextLater
import Derived.SevenTiedAt
/-
  The tie, part 0: a list of places without one twice, found out cheaply.
-/
set_option linter.unusedVariables false
namespace Go.U
open Go Go.Proofs

noncomputable def ndT : List Nat → T Unit → Bool
  | [], _ => true
  | k :: l, t => bif Nat.blt k 549755813888 then (match t.get k with | some _ => false | none => ndT l (t.set k ())) else false
theorem ndT_ok : ∀ {l : List Nat} {t : T Unit}, ndT l t = true → l.Nodup ∧ ∀ k ∈ l, t.get k = none
  | [], _, _ => ⟨List.nodup_nil, fun _ h => by cases h⟩
  | k :: l, t, h => by
    unfold ndT at h
    cases hb : Nat.blt k 549755813888 with
    | false => rw [hb] at h; cases h
    | true =>
      rw [hb, cond_true] at h
      have hk : k + 1 < 2 ^ 40 := by
        have : k < 549755813888 := by simpa [Nat.blt_eq] using hb
        omega
      split at h
      · cases h
      · rename_i hn
        obtain ⟨h1, h2⟩ := ndT_ok h
        have hg : ∀ j, (t.set k ()).get j = if j = k then some () else t.get j := fun j => T.put_get 40 t k j (some ()) hk
        refine ⟨List.nodup_cons.2 ⟨fun hm => ?_, h1⟩, fun j hj => ?_⟩
        · have := h2 k hm
          rw [hg k, if_pos rfl] at this; cases this
        · rcases List.mem_cons.1 hj with rfl | hj
          · exact hn
          · have := h2 j hj
            rw [hg j] at this
            split at this
            · cases this
            · exact this
def keyOfPlace : MemPlace → Nat
  | .cell b off => 2 * (b * 65536 + off)
  | .map b => 2 * b + 1
theorem nodup_key {l : List MemPlace} (h : ndT (l.map keyOfPlace) .e = true) : l.Nodup := List.Pairwise.of_map keyOfPlace (fun _ _ h e => h (congrArg keyOfPlace e)) (ndT_ok h).1
end Go.U
namespace Go.Proofs.YtnmmefndcbnhcaaGreatDoor
open Go
def laidL : List (String × DataW Unit) := [("unicode/utf8.acceptRanges", Rows.laid_unicode_utf8_acceptRanges), ("strconv.ErrSyntax", Rows.laid_strconv_ErrSyntax), ("strconv.ErrRange", Rows.laid_strconv_ErrRange), ("internal/strconv.uint64pow10", Rows.laid_internal_strconv_uint64pow10), ("math/bits.deBruijn32tab", Rows.laid_math_bits_deBruijn32tab), ("math/bits.deBruijn64tab", Rows.laid_math_bits_deBruijn64tab), ("strings.asciiSpace", Rows.laid_strings_asciiSpace), ("unicode.White_Space", Rows.laid_unicode_White_Space), ("errors.errorType", Rows.laid_errors_errorType)]
end Go.Proofs.YtnmmefndcbnhcaaGreatDoor
