/-
  TopGang over opened arguments. Own text.
-/
import Derived.Test.YtmfmpmemdplloaaRows
import Derived.Test.YtmfmpmemdplloaaTopG
namespace Go.Proofs.Ytmfmpmemdplloaa
open Go.ChangeShapes Go.WideShapes Go.ChangeAt Go.RowKit
theorem cellsItem : Try.prog.cellsOf 23 = 4 := by kernel_rfl
theorem cellsBool : Try.prog.cellsOf 4 = 1 := by kernel_rfl
theorem opens_item (w : World) : Opens Try.prog w 23 (fun cs (p : Item) => cs = encItem p) := by
  intro H enc sp held fuel cs x h
  obtain ⟨xs, n, _, rfl, hl, hlen, hf⟩ := DataW.trod_struct Try.underlying23 h
  rw [cellsItem] at hl
  match cs, hl with
  | [a, b, c, d], _ =>
    have l4 : xs.length = 4 := hlen
    have e0 := (hf 0 _ rfl).trans (List.getElem?_eq_getElem (by omega))
    have e1 := (hf 1 _ rfl).trans (List.getElem?_eq_getElem (by omega))
    have e2 := (hf 2 _ rfl).trans (List.getElem?_eq_getElem (by omega))
    have e3 := (hf 3 _ rfl).trans (List.getElem?_eq_getElem (by omega))
    obtain ⟨p0, h0, _, _⟩ := DataW.trod_int Try.underlying3 e0
    obtain ⟨p1, h1, _, _⟩ := DataW.trod_int Try.underlying3 e1
    obtain ⟨p2, h2, _, _⟩ := DataW.trod_int Try.underlying3 e2
    obtain ⟨p3, h3, _⟩ := DataW.trod_bool Try.underlying4 e3
    simp [cellsInt, cellsBool] at h0 h1 h2 h3
    subst h0 h1 h2 h3
    exact ⟨⟨p0, p1, p2, p3⟩, rfl⟩
def ItemArg (v : Value) : Prop := ∃ p : Item, v = .agg #[.int .i64 p.w, .int .i64 p.h, .int .i64 p.value, .bool p.turn]
theorem open_item {H : Type} {enc : TypeId × Value → H} {w : World} {sp : Nat → Bool} {held : Bool} {r : Reach} {b0 : Nat} {v : Value} {d : DataW H} {ps : List MemPlace}
    (hval : Value.okWide Try.prog w r b0 23 v) (hd : DataW.Trod enc Try.prog w 0 sp held 23 v d ps) : ItemArg v := by
  obtain ⟨cs, rfl, _⟩ := okWide_struct Try.underlying23 hval
  obtain ⟨fuel, hf⟩ := hd
  obtain ⟨p, hp⟩ := opens_item w _ _ _ _ _ _ _ hf
  have e : cs = #[.int .i64 p.w, .int .i64 p.h, .int .i64 p.value, .bool p.turn] := by
    apply Array.toList_inj.1
    simpa [Value.cells, encItem] using hp
  subst e
  exact ⟨p, rfl⟩
def IntsCap (w : World) (v : Value) : Prop :=
  ∃ (xs : List Int) (oa : Option Addr) (cap : Nat), v = .slice oa xs.length cap ∧ xs.length ≤ cap ∧ cap ≤ maxLen ∧ Flat w 1 encInt oa xs
theorem open_intsC {H : Type} {enc : TypeId × Value → H} {w : World} {sp : Nat → Bool} {held : Bool} {r : Reach} {b0 : Nat} {v : Value} {d : DataW H} {ps : List MemPlace}
    (hval : Value.okWide Try.prog w r b0 24 v) (hd : DataW.Trod enc Try.prog w 0 sp held 24 v d ps) : IntsCap w v := by
  obtain ⟨xs, oa, cap, hv, h1, h2, h3⟩ := open_sliceR Try.underlying24 (by rw [cellsInt]; omega) (opens_int Try.underlying3) hval hd
  rw [cellsInt] at h3
  exact ⟨xs, oa, cap, hv, h1, h2, h3.flat fun cs x hr => hr.1⟩
theorem topGang_law (W : Int) (_ : i64ok W) (H : Int) (_ : i64ok H) (v : Value) (hv : ItemArg v) (u : Value) {w : World} (hu : IntsCap w u) :
    Calls Try.prog 3 #[.int .i64 W, .int .i64 H, v, u] w fun e w' => e = .returned (.bool true) ∧ Below w.heap.size w w' := by
  obtain ⟨p, rfl⟩ := hv
  obtain ⟨xs, oa, cap, rfl, h1, h2, h3⟩ := hu
  exact topGang_any W H p oa xs cap w h1 h2 h3
end Go.Proofs.Ytmfmpmemdplloaa
