/-
  The argument []api.PaperStep, opened. Own text.
-/
import Derived.Test.YtdgmdohmjdfgdaaRows
import Derived.Test.YtdgmdohmjdfgdaaOpen
namespace Go.Proofs.Ytdgmdohmjdfgdaa
open Go.ChangeShapes Go.WideShapes Go.ChangeAt Go.RowKit
def StepsArg (w : World) (v : Value) : Prop :=
  ∃ (xs : List (Int × Int)) (oa : Option Addr) (cap : Nat), v = .slice oa xs.length cap ∧ xs.length ≤ maxLen ∧ Flat w 2 encInt2 oa xs ∧ ∀ x ∈ xs, i64ok x.1 ∧ i64ok x.2
theorem cellsStep : Try.prog.cellsOf 36 = 2 := by kernel_rfl
theorem cellsInt : Try.prog.cellsOf 3 = 1 := by kernel_rfl
theorem opens_step (w : World) : Opens Try.prog w 36 (fun cs (x : Int × Int) => cs = encInt2 x ∧ i64ok x.1 ∧ i64ok x.2) :=
  opens_int2 Try.underlying36 cellsStep Try.underlying3 Try.underlying3 rfl rfl cellsInt cellsInt
theorem open_steps {H : Type} {enc : TypeId × Value → H} {w : World} {sp : Nat → Bool} {held : Bool} {r : Reach} {b0 : Nat} {v : Value} {d : DataW H} {ps : List MemPlace}
    (hval : Value.okWide Try.prog w r b0 28 v) (hd : DataW.Trod enc Try.prog w 0 sp held 28 v d ps) : StepsArg w v := by
  obtain ⟨xs, oa, cap, hv, h1, h2, h3⟩ := open_sliceR Try.underlying28 (by rw [cellsStep]; omega) (opens_step w) hval hd
  rw [cellsStep] at h3
  refine ⟨xs, oa, cap, hv, by omega, h3.flat fun cs x hr => hr.1, fun x hx => ?_⟩
  obtain ⟨_, hr⟩ := h3.mem x hx
  exact hr.2
end Go.Proofs.Ytdgmdohmjdfgdaa
