/-
  CutBestGrows over opened arguments. Own text.
-/
import Derived.Test.YthalimgejohffaaTreeLaw
import Derived.Test.YthalimgejohffaaGrowLaw
namespace Go.Proofs.Ythalimgejohffaa
open Go.ChangeShapes Go.WideShapes Go.ChangeAt Go.RowKit
def ItemArg (v : Value) : Prop := ∃ p : Item, v = .agg #[.int .i64 p.w, .int .i64 p.h, .int .i64 p.value, .bool p.turn]
theorem open_item {H : Type} {enc : TypeId × Value → H} {w : World} {sp : Nat → Bool} {held : Bool} {r : Reach} {b0 : Nat} {v : Value} {d : DataW H} {ps : List MemPlace}
    (hval : Value.okWide Try.prog w r b0 51 v) (hd : DataW.Trod enc Try.prog w 0 sp held 51 v d ps) : ItemArg v := by
  obtain ⟨cs, rfl, _⟩ := okWide_struct Try.underlying51 hval
  obtain ⟨fuel, hf⟩ := hd
  obtain ⟨p, hp⟩ := opens_item w _ _ _ _ _ _ _ hf
  have e : cs = #[.int .i64 p.w, .int .i64 p.h, .int .i64 p.value, .bool p.turn] := by
    apply Array.toList_inj.1
    simpa [Value.cells, encItem] using hp
  subst e
  exact ⟨p, rfl⟩
theorem grows_law (W : Int) (_ : i64ok W) (H : Int) (_ : i64ok H) (M : Int) (_ : i64ok M) (v : Value) {w : World} (hv : ItemsArg w v) (u : Value) (hu : ItemArg u) :
    Calls Try.prog 9 #[.int .i64 W, .int .i64 H, .int .i64 M, v, u] w fun e w' => e = .returned (.bool true) ∧ Below w.heap.size w w' := by
  obtain ⟨items, oi, ci, rfl, hm, hx⟩ := hv
  obtain ⟨p, rfl⟩ := hu
  exact grows_any W H M oi items ci p w hm hx
end Go.Proofs.Ythalimgejohffaa
