/-
  A table of costs: its first error. No program in sight. Own text.
-/
import Derived.Test.YtjggcnpnjnmamaaNest
namespace Go.Proofs.Ytjggcnpnjnmamaa
set_option linter.unusedVariables false
def costOk (c : Int) : Bool := decide (0 ≤ c ∧ c ≤ 1048576)
def rowErr (n : Nat) (r : List Int) : Int := if r.length ≠ n ∨ 12 < r.length then 4 else if r.all costOk = true then 0 else 3
def rowsErr (n : Nat) : List (List Int) → Int
  | [] => 0
  | r :: l => if rowErr n r = 0 then rowsErr n l else rowErr n r
def costsErr : List (List Int) → Int
  | [] => 2
  | r :: l => if 12 < (r :: l).length then 2 else if rowsErr r.length (r :: l) = 0 then (if r.length < (r :: l).length then 19 else 0) else rowsErr r.length (r :: l)
theorem rowsErr_bad {n : Nat} : ∀ {l : List (List Int)} {k : Nat} (hk : k < l.length), (∀ q (hq : q < l.length), q < k → rowErr n l[q] = 0) → rowErr n l[k] ≠ 0 → rowsErr n l = rowErr n l[k] := by
  intro l
  induction l with
  | nil => intro k hk; cases hk
  | cons r l ih =>
    intro k hk h1 h2
    cases k with
    | zero => simp only [List.getElem_cons_zero] at h2 ⊢; unfold rowsErr; rw [if_neg h2]
    | succ k =>
      have h0 := h1 0 (by simp) (by omega)
      simp only [List.getElem_cons_zero] at h0
      simp only [List.getElem_cons_succ] at h2 ⊢
      unfold rowsErr
      rw [if_pos h0]
      refine ih (by simpa using hk) (fun q hq hlt => ?_) h2
      have := h1 (q + 1) (by simpa using hq) (by omega)
      simpa using this
theorem rowsErr_ok {n : Nat} : ∀ {l : List (List Int)}, (∀ q (hq : q < l.length), rowErr n l[q] = 0) → rowsErr n l = 0 := by
  intro l
  induction l with
  | nil => intro _; rfl
  | cons r l ih =>
    intro h
    have h0 := h 0 (by simp)
    simp only [List.getElem_cons_zero] at h0
    unfold rowsErr
    rw [if_pos h0]
    refine ih (fun q hq => ?_)
    have := h (q + 1) (by simpa using hq)
    simpa using this
/-- What a table without error is. -/
theorem rowsErr_zero {n : Nat} : ∀ {l : List (List Int)}, rowsErr n l = 0 → ∀ q (hq : q < l.length), rowErr n l[q] = 0 := by
  intro l
  induction l with
  | nil => intro _ q hq; cases hq
  | cons r l ih =>
    intro h q hq
    unfold rowsErr at h
    split at h
    · rename_i h0
      cases q with
      | zero => exact h0
      | succ q => simpa using ih h q (by simpa using hq)
    · rename_i h0; exact absurd h h0
theorem rowErr_zero {n : Nat} {r : List Int} (h : rowErr n r = 0) : r.length = n ∧ n ≤ 12 ∧ ∀ j (hj : j < r.length), 0 ≤ r[j] ∧ r[j] ≤ 1048576 := by
  unfold rowErr at h
  split at h
  · cases h
  · rename_i h1
    split at h
    · rename_i h2
      refine ⟨by omega, by omega, fun j hj => ?_⟩
      have := List.all_eq_true.1 h2 _ (List.getElem_mem hj)
      exact of_decide_eq_true this
    · cases h
theorem costsErr_zero {rows : List (List Int)} (h : costsErr rows = 0) : ∃ n, n ≤ 12 ∧ 1 ≤ rows.length ∧ rows.length ≤ n ∧ ∀ q (hq : q < rows.length), rows[q].length = n ∧ ∀ j (hj : j < rows[q].length), 0 ≤ rows[q][j] ∧ rows[q][j] ≤ 1048576 := by
  cases rows with
  | nil => cases h
  | cons r l =>
    simp only [costsErr] at h
    split at h
    · cases h
    rename_i h1
    split at h
    · rename_i h2
      split at h
      · cases h
      · rename_i h3
        have h4 := rowsErr_zero h2
        have h5 := rowErr_zero (h4 0 (by simp))
        refine ⟨r.length, h5.2.1, by simp, by omega, fun q hq => ?_⟩
        have h6 := rowErr_zero (h4 q hq)
        exact ⟨h6.1, h6.2.2⟩
    · rename_i h2; exact absurd h h2
end Go.Proofs.Ytjggcnpnjnmamaa
