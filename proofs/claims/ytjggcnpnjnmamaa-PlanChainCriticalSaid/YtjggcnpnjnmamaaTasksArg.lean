/-
  The argument []api.PlanTask, opened. Own text.
-/
import Derived.Test.YtjggcnpnjnmamaaTimesW
import Derived.Test.YtjggcnpnjnmamaaRowsArg
namespace Go.Proofs.Ytjggcnpnjnmamaa
open Go.ChangeShapes Go.WideShapes Go.ChangeAt Go.RowKit
set_option linter.unusedVariables false
theorem cellsIntT : Try.prog.cellsOf 3 = 1 := by kernel_rfl
theorem cellsIntsT : Try.prog.cellsOf 25 = 1 := by kernel_rfl
theorem cellsTask : Try.prog.cellsOf 49 = 2 := by kernel_rfl
theorem opens_task (w : World) : Opens Try.prog w 49 (fun cs (t : Task) => ∃ oa cap, cs = [.int .i64 t.len, .slice oa t.after.length cap] ∧ t.after.length ≤ maxLen ∧ Flat w 1 encInt oa t.after) := by
  intro H enc sp held fuel cs x h
  obtain ⟨xs, n, _, _, hl, hlen, hf⟩ := DataW.trod_struct Try.underlying49 h
  rw [cellsTask] at hl
  match cs, hl with
  | [a, b], _ =>
    have l2 : xs.length = 2 := hlen
    have e0 := (hf 0 _ rfl).trans (List.getElem?_eq_getElem (by omega))
    have e1 := (hf 1 _ rfl).trans (List.getElem?_eq_getElem (by omega))
    obtain ⟨p0, h0, _, _⟩ := DataW.trod_int Try.underlying3 e0
    obtain ⟨p1, v1, h1, s1, _⟩ := opens_ints Try.underlying25 cellsIntT Try.underlying3 _ _ _ _ _ _ _ e1
    simp [cellsIntT, cellsIntsT] at h0 h1
    subst h0 h1
    obtain ⟨oa, cap, rfl, _, m1, f1⟩ := s1
    exact ⟨⟨p0, p1⟩, oa, cap, rfl, m1, f1⟩
/-- An argument of tasks. -/
def TasksArg (w : World) (v : Value) : Prop := ∃ (l : List Task) (oa : Option Addr) (cap : Nat), v = .slice oa l.length cap ∧ l.length ≤ maxLen ∧ TasksAt w oa l
theorem open_tasks {H : Type} {enc : TypeId × Value → H} {w : World} {sp : Nat → Bool} {held : Bool} {r : Reach} {b0 : Nat} {v : Value} {d : DataW H} {ps : List MemPlace}
    (hval : Value.okWide Try.prog w r b0 41 v) (hd : DataW.Trod enc Try.prog w 0 sp held 41 v d ps) : TasksArg w v := by
  obtain ⟨xs, oa, cap, hv, h1, h2, h3⟩ := open_sliceR Try.underlying41 (by rw [cellsTask]; omega) (opens_task w) hval hd
  rw [cellsTask] at h3
  refine ⟨xs, oa, cap, hv, by omega, fun i hi => ?_⟩
  obtain ⟨b, off, cs, e, _, hc, oa', cap', rfl, m1, f1⟩ := h3 i hi
  refine ⟨b, off, oa', cap', e, ?_, ?_, m1, f1⟩
  · have := hc 0 _ rfl
    simpa using this
  · have := hc 1 _ rfl
    simpa [Nat.add_assoc] using this
end Go.Proofs.Ytjggcnpnjnmamaa
