/-
  CutPiecesDisjoint over opened arguments. Own text.
-/
import Derived.Test.YthalimgejohffaaTreeArg
namespace Go.Proofs.Ythalimgejohffaa
open Go.ChangeShapes Go.WideShapes Go.ChangeAt Go.RowKit
def ItemsArg (w : World) (v : Value) : Prop :=
  ∃ (xs : List Item) (oa : Option Addr) (cap : Nat), v = .slice oa xs.length cap ∧ xs.length ≤ maxLen ∧ Flat w 4 encItem oa xs
theorem open_items {H : Type} {enc : TypeId × Value → H} {w : World} {sp : Nat → Bool} {held : Bool} {r : Reach} {b0 : Nat} {v : Value} {d : DataW H} {ps : List MemPlace}
    (hval : Value.okWide Try.prog w r b0 22 v) (hd : DataW.Trod enc Try.prog w 0 sp held 22 v d ps) : ItemsArg w v := by
  obtain ⟨xs, oa, cap, hv, h1, h2, h3⟩ := open_sliceR Try.underlying22 (by rw [cellsItem]; omega) (opens_item w) hval hd
  rw [cellsItem] at h3
  exact ⟨xs, oa, cap, hv, by omega, h3.flat fun cs x hr => hr⟩
def TreeArg (w : World) (v : Value) : Prop :=
  ∃ (t : Tree) (k a i : Int) (oa : Option Addr) (n cap : Nat), v = .agg #[.int .i64 k, .int .i64 a, .int .i64 i, .slice oa n cap] ∧ TreeAt w t [.int .i64 k, .int .i64 a, .int .i64 i, .slice oa n cap]
theorem open_tree {H : Type} {enc : TypeId × Value → H} {w : World} {sp : Nat → Bool} {held : Bool} {r : Reach} {b0 : Nat} {v : Value} {d : DataW H} {ps : List MemPlace}
    (hval : Value.okWide Try.prog w r b0 25 v) (hd : DataW.Trod enc Try.prog w 0 sp held 25 v d ps) : TreeArg w v := by
  obtain ⟨cs, rfl, _⟩ := okWide_struct Try.underlying25 hval
  obtain ⟨fuel, hf⟩ := hd
  obtain ⟨t, ht⟩ := tree_of fuel fuel (Nat.le_refl _) _ _ hf
  obtain ⟨k, a, i, oa, n, cap, hs⟩ := ht.shape
  rw [hs] at ht
  have e : cs = #[.int .i64 k, .int .i64 a, .int .i64 i, .slice oa n cap] := by
    apply Array.toList_inj.1
    simpa [Value.cells] using hs
  subst e
  exact ⟨t, k, a, i, oa, n, cap, rfl, ht⟩
theorem disj_law (W : Int) (_ : i64ok W) (H : Int) (_ : i64ok H) (v : Value) {w : World} (hv : ItemsArg w v) (u : Value) (hu : TreeArg w u) :
    Calls Try.prog 3 #[.int .i64 W, .int .i64 H, v, u] w fun e w' => e = .returned (.bool true) ∧ Below w.heap.size w w' := by
  obtain ⟨items, oi, ci, rfl, hm, hx⟩ := hv
  obtain ⟨t, k, a, i, oa, n, cap, rfl, hT⟩ := hu
  exact disj_any W H oi items ci t k a i oa n cap w hm hx hT cuts_any
end Go.Proofs.Ythalimgejohffaa
