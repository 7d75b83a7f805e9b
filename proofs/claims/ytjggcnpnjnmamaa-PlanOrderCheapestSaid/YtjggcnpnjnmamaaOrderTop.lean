/-
  PlanOrderCheapest over opened arguments. Own text.
-/
import Derived.Test.YtjggcnpnjnmamaaOrderLaw
namespace Go.Proofs.Ytjggcnpnjnmamaa
open Go.ChangeShapes Go.WideShapes Go.ChangeAt Go.RowKit
/-- An argument of ints, with room. -/
def IntsArgC (w : World) (v : Value) : Prop := ∃ (xs : List Int) (oa : Option Addr) (cap : Nat), v = .slice oa xs.length cap ∧ xs.length ≤ maxLen ∧ xs.length ≤ cap ∧ (oa = none → cap = 0) ∧ Flat w 1 encInt oa xs
theorem open_intsC {H : Type} {enc : TypeId × Value → H} {w : World} {sp : Nat → Bool} {held : Bool} {r : Reach} {b0 : Nat} {v : Value} {d : DataW H} {ps : List MemPlace}
    (hval : Value.okWide Try.prog w r b0 25 v) (hd : DataW.Trod enc Try.prog w 0 sp held 25 v d ps) : IntsArgC w v := by
  obtain ⟨a0, len, c, rfl⟩ := okWide_slice Try.underlying25 hval
  obtain ⟨fuel, hf⟩ := hd
  obtain ⟨xs, oa, cap, h1, h2, h3, h4, h5⟩ := opens_intsC Try.underlying25 cellsInt Try.underlying3 _ _ _ _ _ _ _ hf
  simp [Value.cells] at h1
  obtain ⟨rfl, rfl, rfl⟩ := h1
  exact ⟨xs, _, _, rfl, h3, h2, h4, h5⟩
theorem order_law (v : Value) {w : World} (hv : IntsArgC w v) (u : Value) (hu : RowsArgC w u) :
    Calls Try.prog 9 #[v, u] w fun e w' => e = .returned (.bool true) ∧ Below w.heap.size w w' := by
  obtain ⟨first, oa, ca, rfl, hm, hca, h0a, hf⟩ := hv
  obtain ⟨W, ob, cb, rfl, hm2, _, _, hx⟩ := hu
  by_cases hc : washErr (first.take 6) (cut6 W) = 0
  · exact orderLaw_ok oa ob first W ca cb w hm hca h0a hf hm2 hx hc
  · exact orderLaw_bad oa ob first W ca cb w hm hca h0a hf hm2 hx hc
end Go.Proofs.Ytjggcnpnjnmamaa
