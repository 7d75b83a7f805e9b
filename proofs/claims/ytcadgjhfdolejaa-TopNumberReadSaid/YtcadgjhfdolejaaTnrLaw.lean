/-
  TopNumberRead over opened arguments. Own text.
-/
import Derived.Test.YtcadgjhfdolejaaTnr
namespace Go.Proofs.Ytcadgjhfdolejaa
open Go.ChangeShapes Go.WideShapes Go.ChangeAt Go.RowKit
set_option linter.unusedVariables false
theorem cellsIntT : Try.prog.cellsOf 3 = 1 := by kernel_rfl
theorem cellsIntsT : Try.prog.cellsOf 22 = 1 := by kernel_rfl
theorem cellsViewT : Try.prog.cellsOf 24 = 8 := by kernel_rfl
/-- An argument that is a row of numbers. -/
def IntsCap (w : World) (v : Value) : Prop :=
  ∃ (xs : List Int) (oa : Option Addr) (cap : Nat), v = .slice oa xs.length cap ∧ xs.length ≤ cap ∧ cap ≤ maxLen ∧ Flat w 1 encInt oa xs ∧ ∀ x ∈ xs, i64ok x
theorem open_intsC {H : Type} {enc : TypeId × Value → H} {w : World} {sp : Nat → Bool} {held : Bool} {r : Go.Reach} {b0 : Nat} {v : Value} {d : DataW H} {ps : List MemPlace}
    (hval : Value.okWide Try.prog w r b0 22 v) (hd : DataW.Trod enc Try.prog w 0 sp held 22 v d ps) : IntsCap w v := by
  obtain ⟨xs, oa, cap, hv, h1, h2, h3⟩ := open_sliceR Try.underlying22 (by rw [cellsIntT]; omega) (opens_int Try.underlying3) hval hd
  rw [cellsIntT] at h3
  exact ⟨xs, oa, cap, hv, h1, h2, h3.flat fun cs x hr => hr.1, fun x hx => by obtain ⟨cs, hr⟩ := h3.mem x hx; exact hr.2⟩
/-- An argument that is a view. -/
structure ViewCells (w : World) (cs : Array Value) (a0 a1 a2 a3 a4 a5 a6 : Int) (ns : List Int) (on : Option Addr) (cn : Nat) : Prop where
  is : cs = #[.int .i64 a0, .int .i64 a1, .int .i64 a2, .int .i64 a3, .int .i64 a4, .int .i64 a5, .int .i64 a6, .slice on ns.length cn]
  len : ns.length ≤ cn
  cap : cn ≤ maxLen
  flat : Flat w 1 encInt on ns
  ok : ∀ x ∈ ns, i64ok x
  r : i64ok a0 ∧ i64ok a1 ∧ i64ok a2 ∧ i64ok a3 ∧ i64ok a4 ∧ i64ok a5 ∧ i64ok a6
def ViewArg (w : World) (cs : Array Value) : Prop := ∃ a0 a1 a2 a3 a4 a5 a6 ns on cn, ViewCells w cs a0 a1 a2 a3 a4 a5 a6 ns on cn
theorem opens_view (w : World) : Opens Try.prog w 24 (fun cs (v : Array Value) => cs = v.toList ∧ ViewArg w v) := by
  intro H enc sp held fuel cs x h
  obtain ⟨xs, n, _, rfl, hl, hlen, hf⟩ := DataW.trod_struct Try.underlying24 h
  rw [cellsViewT] at hl
  match cs, hl with
  | [a, b, c, d, e, f, g, h], _ =>
    have l8 : xs.length = 8 := hlen
    have e0 := (hf 0 _ rfl).trans (List.getElem?_eq_getElem (by omega))
    have e1 := (hf 1 _ rfl).trans (List.getElem?_eq_getElem (by omega))
    have e2 := (hf 2 _ rfl).trans (List.getElem?_eq_getElem (by omega))
    have e3 := (hf 3 _ rfl).trans (List.getElem?_eq_getElem (by omega))
    have e4 := (hf 4 _ rfl).trans (List.getElem?_eq_getElem (by omega))
    have e5 := (hf 5 _ rfl).trans (List.getElem?_eq_getElem (by omega))
    have e6 := (hf 6 _ rfl).trans (List.getElem?_eq_getElem (by omega))
    have e7 := (hf 7 _ rfl).trans (List.getElem?_eq_getElem (by omega))
    have hi := opens_int (P := Try.prog) (w := w) Try.underlying3
    obtain ⟨p0, h0, z0⟩ := hi _ _ _ _ _ _ _ e0
    obtain ⟨p1, h1, z1⟩ := hi _ _ _ _ _ _ _ e1
    obtain ⟨p2, h2, z2⟩ := hi _ _ _ _ _ _ _ e2
    obtain ⟨p3, h3, z3⟩ := hi _ _ _ _ _ _ _ e3
    obtain ⟨p4, h4, z4⟩ := hi _ _ _ _ _ _ _ e4
    obtain ⟨p5, h5, z5⟩ := hi _ _ _ _ _ _ _ e5
    obtain ⟨p6, h6, z6⟩ := hi _ _ _ _ _ _ _ e6
    obtain ⟨ns, on, cn, h7, k2, k3, k4⟩ := opens_slice Try.underlying22 (by rw [cellsIntT]; omega) hi _ _ _ _ _ _ _ e7
    rw [cellsIntT] at k4
    simp [cellsIntT, cellsIntsT] at h0 h1 h2 h3 h4 h5 h6 h7
    subst h0 h1 h2 h3 h4 h5 h6 h7
    exact ⟨#[.int .i64 p0, .int .i64 p1, .int .i64 p2, .int .i64 p3, .int .i64 p4, .int .i64 p5, .int .i64 p6, .slice on ns.length cn], rfl, p0, p1, p2, p3, p4, p5, p6, ns, on, cn,
      rfl, k2, k3, k4.flat fun cs x hr => hr.1, fun x hx => by obtain ⟨cs, hr⟩ := k4.mem x hx; exact hr.2, z0, z1, z2, z3, z4, z5, z6⟩
theorem open_view {H : Type} {enc : TypeId × Value → H} {w : World} {sp : Nat → Bool} {held : Bool} {r : Go.Reach} {b0 : Nat} {v : Value} {d : DataW H} {ps : List MemPlace}
    (hval : Value.okWide Try.prog w r b0 24 v) (hd : DataW.Trod enc Try.prog w 0 sp held 24 v d ps) : ∃ cs, v = .agg cs ∧ ViewArg w cs := by
  obtain ⟨cs, rfl, _⟩ := okWide_struct Try.underlying24 hval
  obtain ⟨fuel, hf⟩ := hd
  obtain ⟨u, hu, hp⟩ := opens_view w _ _ _ _ _ _ _ hf
  have e : cs = u := by
    apply Array.toList_inj.1
    simpa [Value.cells] using hu
  rw [e]
  exact ⟨u, rfl, hp⟩
theorem tnr_law (u : Value) {w : World} (hu : IntsCap w u) (sc : Int) (hsc : i64ok sc) (gr : Int) (hgr : i64ok gr) (v : Value) (hv : ∃ cs, v = .agg cs ∧ ViewArg w cs) :
    Calls Try.prog 3 #[u, .int .i64 sc, .int .i64 gr, v] w fun e w' => e = .returned (.bool true) ∧ Below w.heap.size w w' := by
  obtain ⟨ds, od, cd, rfl, d1, d2, d3, d4⟩ := hu
  obtain ⟨cs, rfl, a0, a1, a2, a3, a4, a5, a6, ns, on, cn, rfl, n1, n2, n3, n4, r0, r1, r2, r3, r4, r5, r6⟩ := hv
  exact tnr_any ds od cd sc gr a0 a1 a2 a3 a4 a5 a6 ns on cn w d1 d2 d3 d4 n1 n2 n3 n4 hsc hgr r0 r1 r2 r3 r4 r5 r6
end Go.Proofs.Ytcadgjhfdolejaa
