/-
  Curves: plain laws. No program in sight. Own text.
-/
import Derived.Test.YtiokmfmcmfbjoaaNear
namespace Go.Proofs.Ytiokmfmcmfbjoaa
open Go.RowKit
set_option linter.unusedVariables false
def px (pts : List (Int × Int)) (i : Nat) : Int := (pts.getD i (0, 0)).1
def py (pts : List (Int × Int)) (i : Nat) : Int := (pts.getD i (0, 0)).2
theorem px_eq {pts : List (Int × Int)} {i : Nat} (h : i < pts.length) : px pts i = pts[i].1 := by unfold px; rw [List.getD_eq_getElem?_getD, List.getElem?_eq_getElem h]; rfl
theorem py_eq {pts : List (Int × Int)} {i : Nat} (h : i < pts.length) : py pts i = pts[i].2 := by unfold py; rw [List.getD_eq_getElem?_getD, List.getElem?_eq_getElem h]; rfl
def PtOk (pts : List (Int × Int)) (i : Nat) : Prop := 0 ≤ px pts i ∧ px pts i ≤ 65280 ∧ 0 ≤ py pts i ∧ py pts i ≤ 65280
def StepUp (pts : List (Int × Int)) (i : Nat) : Prop := px pts i < px pts (i + 1) ∧ py pts i ≤ py pts (i + 1)
structure OkCurve (pts : List (Int × Int)) : Prop where
  two : 2 ≤ pts.length
  most : pts.length ≤ 33
  rng : ∀ i, i < pts.length → PtOk pts i
  up : ∀ i, i + 1 < pts.length → StepUp pts i
  first : px pts 0 = 0
  last : px pts (pts.length - 1) = 65280
theorem OkCurve.lt {pts : List (Int × Int)} (h : OkCurve pts) {i j : Nat} (hij : i < j) (hj : j < pts.length) : px pts i < px pts j := by
  induction j with
  | zero => omega
  | succ j ih =>
    have h1 := (h.up j hj).1
    by_cases e : i = j
    · subst e; exact h1
    · have := ih (by omega) (by omega)
      omega
theorem OkCurve.le {pts : List (Int × Int)} (h : OkCurve pts) {i j : Nat} (hij : i ≤ j) (hj : j < pts.length) : py pts i ≤ py pts j := by
  induction j with
  | zero => obtain rfl : i = 0 := by omega
            exact Int.le_refl _
  | succ j ih =>
    have h1 := (h.up j hj).2
    by_cases e : i = j + 1
    · subst e; exact Int.le_refl _
    · have := ih (by omega) (by omega)
      omega
/-- The value of a curve on its part i. -/
def partV (pts : List (Int × Int)) (i : Nat) (x : Int) : Int := py pts i + nearV ((py pts (i + 1) - py pts i) * (x - px pts i)) (px pts (i + 1) - px pts i)
structure OnPart (pts : List (Int × Int)) (i : Nat) (x : Int) : Prop where
  is : i + 1 < pts.length
  lo : px pts i ≤ x
  hi : x < px pts (i + 1) ∨ i + 2 = pts.length
/-- r is the value of the curve at x. -/
def CurveAt (pts : List (Int × Int)) (x r : Int) : Prop := ∃ i, OnPart pts i x ∧ r = partV pts i x
theorem OnPart.unique {pts : List (Int × Int)} (h : OkCurve pts) {i j : Nat} {x x' : Int} (hi : OnPart pts i x) (hj : OnPart pts j x') (hx : x ≤ x') : i ≤ j := by
  by_cases e : i ≤ j
  · exact e
  · have h1 := hj.hi
    have h2 := hi.is
    have h3 := hi.lo
    by_cases e2 : j + 1 = i
    · subst e2; omega
    · have := h.lt (i := j + 1) (j := i) (by omega) (by omega)
      omega
theorem CurveAt.unique {pts : List (Int × Int)} (h : OkCurve pts) {x r r' : Int} (h1 : CurveAt pts x r) (h2 : CurveAt pts x r') : r = r' := by
  obtain ⟨i, hi, rfl⟩ := h1
  obtain ⟨j, hj, rfl⟩ := h2
  have a := hi.unique h hj (Int.le_refl _)
  have b := hj.unique h hi (Int.le_refl _)
  rw [show i = j by omega]
theorem partV_bd {pts : List (Int × Int)} (h : OkCurve pts) {i : Nat} {x : Int} (hi : OnPart pts i x) (hx : x ≤ 65280) : py pts i ≤ partV pts i x ∧ partV pts i x ≤ py pts (i + 1) := by
  have hu := h.up i hi.is
  have hd : 0 < px pts (i + 1) - px pts i := by have := hu.1; omega
  have hlo := hi.lo
  have hhi : x ≤ px pts (i + 1) := by
    rcases hi.hi with e | e
    · omega
    · have := h.last
      rw [show pts.length - 1 = i + 1 by omega] at this
      omega
  have hdy : 0 ≤ py pts (i + 1) - py pts i := by have := hu.2; omega
  unfold partV
  have h1 := le_nearV (n := (py pts (i + 1) - py pts i) * (x - px pts i)) (k := 0) hd (by rw [Int.zero_mul]; exact Int.mul_nonneg hdy (by omega))
  have h2 := nearV_le (n := (py pts (i + 1) - py pts i) * (x - px pts i)) (k := py pts (i + 1) - py pts i) hd (Int.mul_le_mul_of_nonneg_left (by omega) hdy)
  omega
theorem CurveAt.mono {pts : List (Int × Int)} (h : OkCurve pts) {x x' r r' : Int} (h1 : CurveAt pts x r) (h2 : CurveAt pts x' r') (hx : x ≤ x') (hx' : x' ≤ 65280) : r ≤ r' := by
  obtain ⟨i, hi, rfl⟩ := h1
  obtain ⟨j, hj, rfl⟩ := h2
  have a := hi.unique h hj hx
  by_cases e : i = j
  · subst e
    have hu := h.up i hi.is
    unfold partV
    have := nearV_mono (n := (py pts (i + 1) - py pts i) * (x - px pts i)) (n' := (py pts (i + 1) - py pts i) * (x' - px pts i)) (d := px pts (i + 1) - px pts i) (by have := hu.1; omega)
      (Int.mul_le_mul_of_nonneg_left (by omega) (by have := hu.2; omega))
    omega
  · have b1 := partV_bd h hi (by omega)
    have b2 := partV_bd h hj hx'
    have b3 := h.le (i := i + 1) (j := j) (by omega) (by have := hj.is; omega)
    omega
theorem CurveAt.bd {pts : List (Int × Int)} (h : OkCurve pts) {x r : Int} (h1 : CurveAt pts x r) (hx : x ≤ 65280) : 0 ≤ r ∧ r ≤ 65280 := by
  obtain ⟨i, hi, rfl⟩ := h1
  have b := partV_bd h hi hx
  have b1 := h.rng i (by have := hi.is; omega)
  have b2 := h.rng (i + 1) hi.is
  unfold PtOk at b1 b2
  omega
/-- The value, as a function. -/
noncomputable def curveV (pts : List (Int × Int)) (x : Int) : Int := open Classical in if h : ∃ r, CurveAt pts x r then Classical.choose h else 0
theorem curveV_eq {pts : List (Int × Int)} (h : OkCurve pts) {x r : Int} (hr : CurveAt pts x r) : curveV pts x = r := by
  unfold curveV
  rw [dif_pos ⟨r, hr⟩]
  exact CurveAt.unique h (Classical.choose_spec _) hr
end Go.Proofs.Ytiokmfmcmfbjoaa
