/-
  The argument []api.GangForm, opened. Own text.
-/
import Derived.Test.YtobmpleddhcloaaRows
import Derived.Test.YtobmpleddhcloaaSur3
namespace Go.Proofs.Ytobmpleddhcloaa
open Go.ChangeShapes Go.WideShapes Go.ChangeAt Go.RowKit
theorem cellsForm : Try.prog.cellsOf 42 = 3 := by kernel_rfl
theorem cellsInts : Try.prog.cellsOf 22 = 1 := by kernel_rfl
theorem opens_ints (w : World) : Opens Try.prog w 22 (fun cs (xs : List Int) => ∃ oa cap, cs = [.slice oa xs.length cap] ∧ xs.length ≤ cap ∧ cap ≤ maxLen ∧ SliceR w (Try.prog.cellsOf 3) (fun cs n => cs = [.int .i64 n] ∧ i64ok n) oa xs) :=
  opens_slice Try.underlying22 (by rw [cellsInt]; omega) (opens_int Try.underlying3)
theorem opens_form (w : World) : Opens Try.prog w 42 (FormR w) := by
  intro H enc sp held fuel cs x h
  obtain ⟨y0, y1, y2, n, _, hl, e0, e1, e2⟩ := Deep.trod_struct3 Try.underlying42 h
  rw [cellsForm] at hl
  match cs, hl with
  | [a, b, c], _ =>
    obtain ⟨js, oj, cj, hj, j1, j2, j3⟩ := opens_ints w _ _ _ _ _ _ _ e0
    obtain ⟨us, ou, cu, hu, u1, u2, u3⟩ := opens_ints w _ _ _ _ _ _ _ e1
    obtain ⟨r, hr, _, wr⟩ := DataW.trod_int Try.underlying3 e2
    simp [cellsInts] at hj hu
    have hr' : [c] = [.int .i64 r] := by simpa [cellsInt] using hr
    simp at hr'
    subst hj hu hr'
    rw [cellsInt] at j3 u3
    refine ⟨⟨js, us, r⟩, oj, cj, ou, cu, rfl, by show js.length ≤ _; omega, by show us.length ≤ _; omega, j3.flat fun cs x hr => hr.1, u3.flat fun cs x hr => hr.1, bounds_i64 wr, fun x hx => ?_, fun x hx => ?_⟩
    · obtain ⟨_, hr⟩ := j3.mem x hx
      exact hr.2
    · obtain ⟨_, hr⟩ := u3.mem x hx
      exact hr.2
def FormsArg (w : World) (v : Value) : Prop :=
  ∃ (fs : List Form) (oa : Option Addr) (cap : Nat), v = .slice oa fs.length cap ∧ fs.length ≤ maxLen ∧ FormsAt w oa fs
theorem open_forms {H : Type} {enc : TypeId × Value → H} {w : World} {sp : Nat → Bool} {held : Bool} {r : Reach} {b0 : Nat} {v : Value} {d : DataW H} {ps : List MemPlace}
    (hval : Value.okWide Try.prog w r b0 37 v) (hd : DataW.Trod enc Try.prog w 0 sp held 37 v d ps) : FormsArg w v := by
  obtain ⟨xs, oa, cap, hv, h1, h2, h3⟩ := open_sliceR Try.underlying37 (by rw [cellsForm]; omega) (opens_form w) hval hd
  rw [cellsForm] at h3
  exact ⟨xs, oa, cap, hv, by omega, h3⟩
theorem surSums_law (v : Value) {w : World} (hv : IntsArg w v) (u : Value) (hu : FormsArg w u) :
    Calls Try.prog 6 #[v, u] w fun e w' => e = .returned (.bool true) ∧ Below w.heap.size w w' := by
  obtain ⟨xs, oa, cap, rfl, hm, hx, _⟩ := hv
  obtain ⟨fs, ob, cb, rfl, hm2, hf⟩ := hu
  exact surSums_any oa ob xs fs cap cb w hm hx hm2 hf
end Go.Proofs.Ytobmpleddhcloaa
