/-
  The argument []int, opened. Own text.
-/
import Derived.Test.YtimofofaeedcoaaRows
import Derived.Test.YtimofofaeedcoaaOpen
namespace Go.Proofs.Ytimofofaeedcoaa
open Go.ChangeShapes Go.WideShapes Go.ChangeAt Go.RowKit
def IntsArg (w : World) (v : Value) : Prop :=
  ∃ (xs : List Int) (oa : Option Addr) (cap : Nat), v = .slice oa xs.length cap ∧ xs.length ≤ maxLen ∧ Flat w 1 encInt oa xs ∧ ∀ x ∈ xs, i64ok x
theorem cellsInt : Try.prog.cellsOf 3 = 1 := by kernel_rfl
theorem open_intsA {H : Type} {enc : TypeId × Value → H} {w : World} {sp : Nat → Bool} {held : Bool} {r : Reach} {b0 : Nat} {v : Value} {d : DataW H} {ps : List MemPlace}
    (hval : Value.okWide Try.prog w r b0 23 v) (hd : DataW.Trod enc Try.prog w 0 sp held 23 v d ps) : IntsArg w v := by
  obtain ⟨xs, oa, cap, hv, h1, h2, h3⟩ := open_sliceR Try.underlying23 (by rw [cellsInt]; omega) (opens_int Try.underlying3) hval hd
  rw [cellsInt] at h3
  refine ⟨xs, oa, cap, hv, by omega, h3.flat fun cs x hr => hr.1, fun x hx => ?_⟩
  obtain ⟨_, hr⟩ := h3.mem x hx
  exact hr.2
end Go.Proofs.Ytimofofaeedcoaa
