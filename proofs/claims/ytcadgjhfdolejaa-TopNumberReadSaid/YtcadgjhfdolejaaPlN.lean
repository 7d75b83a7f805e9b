/-
  The plain law of a number's widths: what Decode asks of a row. Own text.
-/
import Derived.Test.YtcadgjhfdolejaaPlW
namespace Go.Proofs.Ytcadgjhfdolejaa
open Go.RowKit
set_option linter.unusedVariables false
theorem fm_len {α β : Type} {k : Nat} {enc : α → List β} (hl : ∀ x, (enc x).length = k) : ∀ xs : List α, (xs.flatMap enc).length = xs.length * k
  | [] => by simp
  | x :: xs => by rw [List.flatMap_cons, List.length_append, hl, fm_len hl xs, List.length_cons, Nat.succ_mul, Nat.add_comm]
theorem fm_get {α β : Type} {k : Nat} {enc : α → List β} (hl : ∀ x, (enc x).length = k) : ∀ (xs : List α) (i : Nat) (h : i < xs.length) (j : Nat), j < k → (xs.flatMap enc)[i * k + j]? = (enc xs[i])[j]?
  | x :: xs, 0, _, j, hj => by
    rw [List.flatMap_cons, List.getElem?_append_left (by rw [hl]; omega)]
    simp
  | x :: xs, i + 1, h, j, hj => by
    have e : (i + 1) * k + j = k + (i * k + j) := by rw [Nat.add_mul]; omega
    rw [List.flatMap_cons, e, List.getElem?_append_right (by rw [hl]; omega), hl, Nat.add_sub_cancel_left]
    have h' : i < xs.length := by simpa using h
    rw [fm_get hl xs i h' j hj]
    simp
/-- A number's symbols, with start, check and stop. -/
def vsL (l : List UInt8) : List Int := 101 :: (symsV l ++ [sumL (symsV l)] ++ [102])
def vsN (l : List UInt8) (j : Nat) : Int := (vsL l).getD j 0
def wAt (l : List UInt8) (k : Nat) : Int := (widV l).getD k 0
theorem symL_len (x : Int) : (symL x).length = 6 := by simp [symL, patL]
theorem widV_eq (l : List UInt8) : widV l = (vsL l).flatMap symL ++ [2] := by
  unfold widV vsL
  rw [List.flatMap_cons]
  rfl
theorem widV_len (l : List UInt8) : (widV l).length = 6 * (vsL l).length + 1 := by
  rw [widV_eq, List.length_append, fm_len symL_len, List.length_singleton, Nat.mul_comm]
theorem wAt_sym (l : List UInt8) {j i : Nat} (hj : j < (vsL l).length) (hi : i < 6) : wAt l (6 * j + i) = pAt (vsN l j).toNat i := by
  unfold wAt vsN
  rw [widV_eq, List.getD_eq_getElem?_getD, List.getElem?_append_left (by rw [fm_len symL_len]; omega), show 6 * j + i = j * 6 + i by omega, fm_get symL_len _ j hj i hi, List.getD_eq_getElem?_getD, List.getElem?_eq_getElem hj]
  show ((symL (vsL l)[j])[i]?).getD 0 = pAt (vsL l)[j].toNat i
  unfold symL patL pAt
  rw [List.getElem?_map, List.getElem?_range hi]
  rfl
theorem wAt_last (l : List UInt8) : wAt l (6 * (vsL l).length) = 2 := by
  unfold wAt
  rw [widV_eq, List.getD_eq_getElem?_getD, List.getElem?_append_right (by rw [fm_len symL_len]; omega), fm_len symL_len]
  rw [show 6 * (vsL l).length - (vsL l).length * 6 = 0 by omega]
  rfl
end Go.Proofs.Ytcadgjhfdolejaa
