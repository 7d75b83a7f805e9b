/-
  TopForwardInverse over opened arguments. Own text.
-/
import Derived.Test.YtiokmfmcmfbjoaaRows
import Derived.Test.YtiokmfmcmfbjoaaTopF
import Derived.Test.YtiokmfmcmfbjoaaRowsArg
namespace Go.Proofs.Ytiokmfmcmfbjoaa
open Go.ChangeShapes Go.WideShapes Go.ChangeAt Go.RowKit
set_option linter.unusedVariables false
theorem cellsInt : Try.prog.cellsOf 3 = 1 := by kernel_rfl
theorem cellsStr : Try.prog.cellsOf 9 = 1 := by kernel_rfl
theorem cellsPoint : Try.prog.cellsOf 59 = 2 := by kernel_rfl
theorem cellsPoints : Try.prog.cellsOf 45 = 1 := by kernel_rfl
theorem cellsCurve : Try.prog.cellsOf 47 = 1 := by kernel_rfl
theorem cellsCurves : Try.prog.cellsOf 23 = 1 := by kernel_rfl
theorem cellsStrs : Try.prog.cellsOf 22 = 1 := by kernel_rfl
theorem cellsInts : Try.prog.cellsOf 24 = 1 := by kernel_rfl
theorem cellsGrid : Try.prog.cellsOf 26 = 4 := by kernel_rfl
theorem cellsProf : Try.prog.cellsOf 28 = 7 := by kernel_rfl
theorem opens_str (w : World) : Opens Try.prog w 9 (fun cs (s : ByteArray) => cs = encStr s ∧ s.size ≤ maxLen) := by
  intro H enc sp held fuel cs x h
  obtain ⟨s, rfl, _, hs⟩ := DataW.trod_string Try.underlying9 h
  exact ⟨s, rfl, hs⟩
theorem opens_point (w : World) : Opens Try.prog w 59 (fun cs (x : Int × Int) => cs = encInt2 x ∧ i64ok x.1 ∧ i64ok x.2) :=
  opens_int2 Try.underlying59 cellsPoint Try.underlying3 Try.underlying3 rfl rfl cellsInt cellsInt
theorem opens_curve (w : World) : Opens Try.prog w 47 (fun cs (p : List (Int × Int)) => ∃ v, cs = [v] ∧ IsSlice w 2 encInt2 v p) := by
  intro H enc sp held fuel cs x h
  obtain ⟨xs, n, _, rfl, hl, hlen, hf⟩ := DataW.trod_struct Try.underlying47 h
  rw [cellsCurve] at hl
  match cs, hl with
  | [a], _ =>
    have l1 : xs.length = 1 := hlen
    have e0 := (hf 0 _ rfl).trans (List.getElem?_eq_getElem (by omega))
    obtain ⟨p, oa, cap, h1, h2, h3, h4, h5⟩ := opens_slice0 Try.underlying45 (by rw [cellsPoint]; omega) (opens_point w) _ _ _ _ _ _ _ e0
    rw [cellsPoint] at h5
    have h1' : [a] = [Value.slice oa p.length cap] := by simpa [cellsPoints] using h1
    exact ⟨p, _, h1', oa, cap, rfl, h4, by omega, h5.flat fun cs x hr => hr.1⟩
structure GridCells (w : World) (cs : List Value) (inn out size : Int) (ov : Option Addr) (vs : List Int) (cv : Nat) : Prop where
  is : cs = [.int .i64 inn, .int .i64 out, .int .i64 size, .slice ov vs.length cv]
  len : vs.length ≤ cv
  cap : cv ≤ maxLen
  at' : Flat w 1 encInt ov vs
theorem opens_grid (w : World) : Opens Try.prog w 26 (fun cs (y : Int × Int × Int × Option Addr × List Int × Nat) => GridCells w cs y.1 y.2.1 y.2.2.1 y.2.2.2.1 y.2.2.2.2.1 y.2.2.2.2.2) := by
  intro H enc sp held fuel cs x h
  obtain ⟨xs, n, _, rfl, hl, hlen, hf⟩ := DataW.trod_struct Try.underlying26 h
  rw [cellsGrid] at hl
  match cs, hl with
  | [a, b, c, d], _ =>
    have l4 : xs.length = 4 := hlen
    have e0 := (hf 0 _ rfl).trans (List.getElem?_eq_getElem (by omega))
    have e1 := (hf 1 _ rfl).trans (List.getElem?_eq_getElem (by omega))
    have e2 := (hf 2 _ rfl).trans (List.getElem?_eq_getElem (by omega))
    have e3 := (hf 3 _ rfl).trans (List.getElem?_eq_getElem (by omega))
    obtain ⟨p0, h0, _, _⟩ := DataW.trod_int Try.underlying3 e0
    obtain ⟨p1, h1, _, _⟩ := DataW.trod_int Try.underlying3 e1
    obtain ⟨p2, h2, _, _⟩ := DataW.trod_int Try.underlying3 e2
    obtain ⟨vs, oa, cap, k1, k2, k3, k4⟩ := opens_slice Try.underlying24 (by rw [cellsInt]; omega) (opens_int Try.underlying3) _ _ _ _ _ _ _ e3
    rw [cellsInt] at k4
    simp [cellsInt, cellsInts] at h0 h1 h2 k1
    subst h0 h1 h2 k1
    exact ⟨(p0, p1, p2, oa, vs, cap), rfl, k2, k3, k4.flat fun cs x hr => hr.1⟩
def ProfArg (w : World) (v : Value) : Prop := ∃ (P : Prof) (oi : Option Addr) (ci : Nat) (oc : Option Addr) (cc : Nat) (ov : Option Addr) (cv : Nat), v = .agg (profCells P oi ci oc cc ov cv) ∧ ProfAt w P oi ci oc cc ov cv
theorem opens_prof (w : World) : Opens Try.prog w 28 (fun cs (v : Array Value) => cs = v.toList ∧ ProfArg w (.agg v)) := by
  intro H enc sp held fuel cs x h
  obtain ⟨xs, n, _, rfl, hl, hlen, hf⟩ := DataW.trod_struct Try.underlying28 h
  rw [cellsProf] at hl
  match cs, hl with
  | [a, b, c, d, e, f, g], _ =>
    have l4 : xs.length = 4 := hlen
    have e0 := (hf 0 _ rfl).trans (List.getElem?_eq_getElem (by omega))
    have e1 := (hf 1 _ rfl).trans (List.getElem?_eq_getElem (by omega))
    have e2 := (hf 2 _ rfl).trans (List.getElem?_eq_getElem (by omega))
    have e3 := (hf 3 _ rfl).trans (List.getElem?_eq_getElem (by omega))
    obtain ⟨name, h0, z0⟩ := opens_str w _ _ _ _ _ _ _ e0
    obtain ⟨inks, oi, ci, h1, z1, z2, z3⟩ := opens_slice Try.underlying22 (by rw [cellsStr]; omega) (opens_str w) _ _ _ _ _ _ _ e1
    obtain ⟨curves, oc, cc, h2, z4, z5, z6⟩ := opens_slice Try.underlying23 (by rw [cellsCurve]; omega) (opens_curve w) _ _ _ _ _ _ _ e2
    obtain ⟨⟨inn, out, size, ov, vals, cv⟩, gc⟩ := opens_grid w _ _ _ _ _ _ _ e3
    obtain ⟨h3, z7, z8, z9⟩ := gc
    rw [cellsStr] at z3
    rw [cellsCurve] at z6
    simp [cellsStr, cellsStrs, cellsCurves, cellsGrid, encStr] at h0 h1 h2 h3
    obtain ⟨q0, q1, q2, q3⟩ := h3
    subst h0 h1 h2 q0 q1 q2 q3
    refine ⟨#[.string name, .slice oi inks.length ci, .slice oc curves.length cc, .int .i64 inn, .int .i64 out, .int .i64 size, .slice ov vals.length cv], rfl, ⟨name, inks, curves, inn, out, size, vals⟩, oi, ci, oc, cc, ov, cv, rfl, ⟨z0, z1, z2, fun s hs => ?_, z3.flat fun cs x hr => hr.1, by simp only; omega, fun i hi => ?_, z7, z8, z9⟩⟩
    · obtain ⟨cs', hr⟩ := z3.mem s hs
      exact hr.2
    · obtain ⟨b', off', cs', u1, u2, u3, v, rfl, u4⟩ := z6 i hi
      refine ⟨b', off', v, u1, ?_, u4⟩
      have := u3 0 v rfl
      simpa using this
theorem open_prof {H : Type} {enc : TypeId × Value → H} {w : World} {sp : Nat → Bool} {held : Bool} {r : Go.Reach} {b0 : Nat} {v : Value} {d : DataW H} {ps : List MemPlace}
    (hval : Value.okWide Try.prog w r b0 28 v) (hd : DataW.Trod enc Try.prog w 0 sp held 28 v d ps) : ProfArg w v := by
  obtain ⟨cs, rfl, _⟩ := okWide_struct Try.underlying28 hval
  obtain ⟨fuel, hf⟩ := hd
  obtain ⟨u, hu, hp⟩ := opens_prof w _ _ _ _ _ _ _ hf
  have e : cs = u := by
    apply Array.toList_inj.1
    simpa [Value.cells] using hu
  rw [e]
  exact hp
def IntsCap (w : World) (v : Value) : Prop :=
  ∃ (xs : List Int) (oa : Option Addr) (cap : Nat), v = .slice oa xs.length cap ∧ xs.length ≤ cap ∧ cap ≤ maxLen ∧ Flat w 1 encInt oa xs ∧ ∀ x ∈ xs, i64ok x
theorem open_intsC {H : Type} {enc : TypeId × Value → H} {w : World} {sp : Nat → Bool} {held : Bool} {r : Go.Reach} {b0 : Nat} {v : Value} {d : DataW H} {ps : List MemPlace}
    (hval : Value.okWide Try.prog w r b0 24 v) (hd : DataW.Trod enc Try.prog w 0 sp held 24 v d ps) : IntsCap w v := by
  obtain ⟨xs, oa, cap, hv, h1, h2, h3⟩ := open_sliceR Try.underlying24 (by rw [cellsInt]; omega) (opens_int Try.underlying3) hval hd
  rw [cellsInt] at h3
  exact ⟨xs, oa, cap, hv, h1, h2, h3.flat fun cs x hr => hr.1, fun x hx => by obtain ⟨cs, hr⟩ := h3.mem x hx; exact hr.2⟩
theorem topF_law (v : Value) {w : World} (hv : ProfArg w v) (u : Value) (hu : IntsCap w u) (coarse : Bool) :
    Calls Try.prog 3 #[v, u, .bool coarse] w fun e w' => e = .returned (.bool true) ∧ Below w.heap.size w w' := by
  obtain ⟨P, oi, ci, oc, cc, ov, cv, rfl, hp⟩ := hv
  obtain ⟨ts, ot, ct, rfl, h1, h2, h3, h4⟩ := hu
  by_cases h : OkProf P ∧ P.inks.length ≤ ts.length
  · have := h.1.few
    obtain ⟨b, off, rfl, _⟩ := h3.int (i := 0) (by omega)
    exact topF_yes P oi ci oc cc ov cv b off ts ct coarse w hp (by omega) h3 h4 h.1 h.2
  · exact topF_no P oi ci oc cc ov cv ot ts ct coarse w hp (by omega) h
end Go.Proofs.Ytiokmfmcmfbjoaa
