/-
  The plain law of the widths: scaled and shifted widths read their symbols. Own text.
-/
import Derived.Test.YtcadgjhfdolejaaMod
namespace Go.Proofs.Ytcadgjhfdolejaa
open Go.RowKit
set_option linter.unusedVariables false
def pAt (x j : Nat) : Int := (patV.getD x default).at j
def sameN (x : Nat) (p : Pt) (n : Nat) : Bool := decide (∀ j, j < n → p.at j + p.at (j + 1) = pAt x j + pAt x (j + 1))
def sameE (x : Nat) (p : Pt) : Bool := sameN x p 4
set_option maxRecDepth 100000 in
theorem tab_unique : ∀ x, x < 103 → patV.findIdx? (sameE x) = some x := by decide +kernel
theorem tab_sum : ∀ x, x < 103 → pAt x 0 + pAt x 1 + pAt x 2 + pAt x 3 + pAt x 4 + pAt x 5 = 11 := by decide +kernel
theorem tab_bd : ∀ x, x < 103 → ∀ j, j < 6 → 1 ≤ pAt x j ∧ pAt x j ≤ 4 := by decide +kernel
theorem nearV_mul (k d : Int) (hd : 0 < d) : nearV (k * d) d = k := by
  have h1 := nearV_le (n := k * d) (d := d) (k := k) hd (Int.le_refl _)
  have h2 := le_nearV (n := k * d) (d := d) (k := k) hd (Int.le_refl _)
  omega
/-- Six widths, scaled by U, the dark ones by D wider. -/
def SixW (v : Nat → Nat) (U D : Int) (w : Nat → Int) : Prop := ∀ i, i < 6 → (v i : Int) = U * w i + (if i % 2 = 0 then D else -D)
theorem sixW_edge {v : Nat → Nat} {U D : Int} {w : Nat → Int} (h : SixW v U D w) (j : Nat) (hj : j < 5) : (v j : Int) + (v (j + 1) : Int) = U * (w j + w (j + 1)) := by
  have h1 := h j (by omega)
  have h2 := h (j + 1) (by omega)
  rw [h1, h2, Int.mul_add]
  by_cases e : j % 2 = 0
  · rw [if_pos e, if_neg (by omega)]; omega
  · rw [if_neg e, if_pos (by omega)]; omega
theorem sixW_tot {v : Nat → Nat} {U D : Int} {w : Nat → Int} (h : SixW v U D w) : (totV v : Int) = U * (w 0 + w 1 + w 2 + w 3 + w 4 + w 5) := by
  have h1 := sixW_edge h 0 (by omega)
  have h2 := sixW_edge h 2 (by omega)
  have h3 := sixW_edge h 4 (by omega)
  simp only [Nat.zero_add, Nat.reduceAdd] at h1 h2 h3
  have e : U * (w 0 + w 1 + w 2 + w 3 + w 4 + w 5) = U * (w 0 + w 1) + U * (w 2 + w 3) + U * (w 4 + w 5) := by
    rw [← Int.mul_add, ← Int.mul_add]
    congr 1
    omega
  rw [e, ← h1, ← h2, ← h3]
  unfold totV
  omega
theorem val_sym {v : Nat → Nat} {U D : Int} {x : Nat} (hx : x < 103) (hU : 1 ≤ U) (h : SixW v U D (pAt x)) : valV v = x := by
  have ht := sixW_tot h
  rw [tab_sum x hx] at ht
  have he : ∀ j, j < 4 → edgeV v j = pAt x j + pAt x (j + 1) := fun j hj => by
    unfold edgeV
    have e := nearV_mul (pAt x j + pAt x (j + 1)) (U * 11) (by omega)
    rw [ht, sixW_edge h j (by omega)]
    rw [show 11 * (U * (pAt x j + pAt x (j + 1))) = (pAt x j + pAt x (j + 1)) * (U * 11) by rw [← Int.mul_assoc, Int.mul_comm, Int.mul_comm 11 U]]
    exact e
  have hf : (fun p => fitsV v p 4) = sameE x := by
    funext p
    unfold fitsV sameE sameN
    refine decide_eq_decide.2 ?_
    constructor
    · intro H j hj; rw [H j hj, he j hj]
    · intro H j hj; rw [H j hj, he j hj]
  unfold valV
  rw [hf, tab_unique x hx]
/-- The first six widths from the other end. -/
def endW : Nat → Int
  | 0 => 2
  | i => pAt 102 (6 - i)
theorem nearV_scale (a b U : Int) (hU : 0 < U) (hb : 0 < b) : nearV (U * a) (U * b) = nearV a b := by
  unfold nearV
  rw [show 2 * (U * a) + U * b = U * (2 * a + b) by rw [Int.mul_add, Int.mul_left_comm], show 2 * (U * b) = U * (2 * b) by rw [Int.mul_left_comm], Int.mul_ediv_mul_of_pos _ _ hU]
theorem end_ne : ¬ ∀ j, j < 4 → pAt 101 j + pAt 101 (j + 1) = nearV (11 * (endW j + endW (j + 1))) (endW 0 + endW 1 + endW 2 + endW 3 + endW 4 + endW 5) := by decide +kernel
theorem end_pos : 0 < endW 0 + endW 1 + endW 2 + endW 3 + endW 4 + endW 5 := by decide +kernel
theorem val_end {v : Nat → Nat} {U D : Int} (hU : 1 ≤ U) (h : SixW v U D endW) : valV v ≠ 101 := by
  intro hv
  have ht := sixW_tot h
  have he : ∀ j, j < 4 → edgeV v j = nearV (11 * (endW j + endW (j + 1))) (endW 0 + endW 1 + endW 2 + endW 3 + endW 4 + endW 5) := fun j hj => by
    unfold edgeV
    rw [ht, sixW_edge h j (by omega), Int.mul_left_comm 11 U, nearV_scale _ _ _ (by omega) end_pos]
  unfold valV at hv
  split at hv
  · rename_i i hi
    obtain rfl : i = 101 := by omega
    obtain ⟨hl, hy, -⟩ := List.findIdx?_eq_some_iff_getElem.1 hi
    refine end_ne fun j hj => ?_
    have H := of_decide_eq_true hy j hj
    rw [← he j hj, ← H]
    unfold pAt
    rw [List.getD_eq_getElem?_getD, List.getElem?_eq_getElem hl]
    rfl
  · omega
end Go.Proofs.Ytcadgjhfdolejaa
