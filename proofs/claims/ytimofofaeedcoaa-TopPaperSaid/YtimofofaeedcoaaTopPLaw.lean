/-
  TopPaper over opened arguments. Own text.
-/
import Derived.Test.YtimofofaeedcoaaRows
import Derived.Test.YtimofofaeedcoaaOpen
import Derived.Test.YtimofofaeedcoaaTopP
namespace Go.Proofs.Ytimofofaeedcoaa
open Go.ChangeShapes Go.WideShapes Go.ChangeAt Go.RowKit
theorem cellsStep : Try.prog.cellsOf 28 = 2 := by kernel_rfl
theorem opens_step (w : World) : Opens Try.prog w 28 (fun cs (x : Int × Int) => cs = encInt2 x ∧ i64ok x.1 ∧ i64ok x.2) :=
  opens_int2 Try.underlying28 cellsStep Try.underlying3 Try.underlying3 rfl rfl cellsInt cellsInt
def StepsCap (w : World) (v : Value) : Prop :=
  ∃ (xs : List (Int × Int)) (oa : Option Addr) (cap : Nat), v = .slice oa xs.length cap ∧ xs.length ≤ cap ∧ cap ≤ maxLen ∧ Flat w 2 encInt2 oa xs
theorem open_stepsC {H : Type} {enc : TypeId × Value → H} {w : World} {sp : Nat → Bool} {held : Bool} {r : Reach} {b0 : Nat} {v : Value} {d : DataW H} {ps : List MemPlace}
    (hval : Value.okWide Try.prog w r b0 22 v) (hd : DataW.Trod enc Try.prog w 0 sp held 22 v d ps) : StepsCap w v := by
  obtain ⟨xs, oa, cap, hv, h1, h2, h3⟩ := open_sliceR Try.underlying22 (by rw [cellsStep]; omega) (opens_step w) hval hd
  rw [cellsStep] at h3
  exact ⟨xs, oa, cap, hv, h1, h2, h3.flat fun cs x hr => hr.1⟩
def IntsCap (w : World) (v : Value) : Prop :=
  ∃ (xs : List Int) (oa : Option Addr) (cap : Nat), v = .slice oa xs.length cap ∧ xs.length ≤ cap ∧ cap ≤ maxLen ∧ Flat w 1 encInt oa xs
theorem open_intsC {H : Type} {enc : TypeId × Value → H} {w : World} {sp : Nat → Bool} {held : Bool} {r : Reach} {b0 : Nat} {v : Value} {d : DataW H} {ps : List MemPlace}
    (hval : Value.okWide Try.prog w r b0 23 v) (hd : DataW.Trod enc Try.prog w 0 sp held 23 v d ps) : IntsCap w v := by
  obtain ⟨xs, oa, cap, hv, h1, h2, h3⟩ := open_sliceR Try.underlying23 (by rw [cellsInt]; omega) (opens_int Try.underlying3) hval hd
  rw [cellsInt] at h3
  exact ⟨xs, oa, cap, hv, h1, h2, h3.flat fun cs x hr => hr.1⟩
theorem topPaper_law (v : Value) {w : World} (hv : StepsCap w v) (u : Value) (hu : IntsCap w u) (s : Int) (_ : i64ok s) (p : Int) (_ : i64ok p) :
    Calls Try.prog 3 #[v, u, .int .i64 s, .int .i64 p] w fun e w' => e = .returned (.bool true) ∧ Below w.heap.size w w' := by
  obtain ⟨xs, oa, ca, rfl, a1, a2, a3⟩ := hv
  obtain ⟨ds, od, cd, rfl, h1, h2, h3⟩ := hu
  exact topPaper_any oa xs ca od ds cd s p w a1 a2 a3 h1 h2 h3
end Go.Proofs.Ytimofofaeedcoaa
