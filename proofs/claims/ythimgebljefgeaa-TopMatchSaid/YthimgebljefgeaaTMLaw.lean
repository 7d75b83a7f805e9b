/-
  The law at its opened arguments. Own text.
-/
import Derived.Test.YthimgebljefgeaaTMatch
import Derived.Test.YthimgebljefgeaaCollArg
namespace Go.Proofs.Ythimgebljefgeaa
open Go.ChangeShapes Go.WideShapes Go.ChangeAt Go.RowKit
set_option linter.unusedVariables false
/-- An argument of numbers. -/
def IntsArg (w : World) (v : Value) : Prop := ∃ S, IsSlice w 1 encInt v S
set_option maxRecDepth 100000 in
theorem open_ints {H : Type} {enc : TypeId × Value → H} {w : World} {sp : Nat → Bool} {held : Bool} {r : Reach} {b0 : Nat} {v : Value} {d : DataW H} {ps : List MemPlace} (hval : Value.okWide Try.prog w r b0 23 v) (hd : DataW.Trod enc Try.prog w 0 sp held 23 v d ps) : IntsArg w v := by
  obtain ⟨a0, len, c, rfl⟩ := okWide_slice Try.underlying23 hval
  obtain ⟨fuel, hf⟩ := hd
  obtain ⟨S, oa, cap, h1, h2, h3, h4, h5⟩ := opens_slice0 Try.underlying23 (by rw [cellsInt]; omega) (opens_int Try.underlying3) _ _ _ _ _ _ _ hf
  simp [Value.cells] at h1
  obtain ⟨rfl, rfl, rfl⟩ := h1
  rw [cellsInt] at h5
  exact ⟨S, a0, c, rfl, h4, by omega, h5.flat fun cs x h => h.1⟩
theorem tmatch_law (many : Int) (h0 : -9223372036854775808 ≤ many ∧ many ≤ 9223372036854775807) (kinds : Int) (h1 : -9223372036854775808 ≤ kinds ∧ kinds ≤ 9223372036854775807) (v2 : Value) {w : World} (x2 : FltArg w v2) (v3 : Value) (x3 : IntsArg w v3) : Calls Try.prog 3 #[.int .i64 many, .int .i64 kinds, v2, v3] w (RetTrue w) := by
  obtain ⟨F, oF, cF, rfl, hFm, hFc, hF0, hF⟩ := x2
  obtain ⟨S, hS⟩ := x3
  exact tmatch_any many kinds F oF cF w hF hFm hFc hF0 v3 S hS
end Go.Proofs.Ythimgebljefgeaa
