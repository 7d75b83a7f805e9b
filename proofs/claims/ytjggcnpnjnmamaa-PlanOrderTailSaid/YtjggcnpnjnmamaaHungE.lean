/-
  The cheapest assignment by prices: the tables of the program's loops by their counters. No program in sight. Own text.
-/
import Derived.Test.YtjggcnpnjnmamaaHungD
namespace Go.Proofs.Ytjggcnpnjnmamaa
set_option linter.unusedVariables false
/-- The rows' prices behind the columns below q. -/
def uTo (row : Nat → Nat) (D : List Nat) (delta : Int) (u : Nat → Int) (q r : Nat) : Int :=
  if D.any (fun j => decide (j < q) && decide (row j = r)) = true then u r + delta else u r
def vTo (D : List Nat) (delta : Int) (v : Nat → Int) (q j : Nat) : Int := if j < q ∧ j ∈ D then v j - delta else v j
def fTo (D : List Nat) (delta : Int) (far : Nat → Int) (q j : Nat) : Int := if j < q ∧ j ∉ D then far j - delta else far j
theorem uTo_iff {row : Nat → Nat} {D : List Nat} {q r : Nat} : D.any (fun j => decide (j < q) && decide (row j = r)) = true ↔ ∃ j, j ∈ D ∧ j < q ∧ row j = r := by
  simp [List.any_eq_true]
theorem uTo_zero (row : Nat → Nat) (D : List Nat) (delta : Int) (u : Nat → Int) (r : Nat) : uTo row D delta u 0 r = u r := by
  unfold uTo
  rw [if_neg]
  rw [uTo_iff]
  rintro ⟨j, _, h, _⟩
  omega
theorem vTo_zero (D : List Nat) (delta : Int) (v : Nat → Int) (j : Nat) : vTo D delta v 0 j = v j := if_neg (by omega)
theorem fTo_zero (D : List Nat) (delta : Int) (far : Nat → Int) (j : Nat) : fTo D delta far 0 j = far j := if_neg (by omega)
/-- A column that is not done leaves the prices. -/
theorem uTo_skip {row : Nat → Nat} {D : List Nat} {delta : Int} {u : Nat → Int} {q : Nat} (h : q ∉ D) (r : Nat) : uTo row D delta u (q + 1) r = uTo row D delta u q r := by
  unfold uTo
  by_cases e : D.any (fun j => decide (j < q) && decide (row j = r)) = true
  · have e' : D.any (fun j => decide (j < q + 1) && decide (row j = r)) = true := by
      rw [uTo_iff] at e ⊢
      obtain ⟨j, h1, h2, h3⟩ := e
      exact ⟨j, h1, by omega, h3⟩
    rw [if_pos e, if_pos e']
  · have e' : ¬ D.any (fun j => decide (j < q + 1) && decide (row j = r)) = true := by
      rw [uTo_iff] at e ⊢
      rintro ⟨j, h1, h2, h3⟩
      by_cases hj : j = q
      · subst hj; exact h h1
      · exact e ⟨j, h1, by omega, h3⟩
    rw [if_neg e, if_neg e']
theorem vTo_skip {D : List Nat} {delta : Int} {v : Nat → Int} {q : Nat} (h : q ∉ D) (j : Nat) : vTo D delta v (q + 1) j = vTo D delta v q j := by
  unfold vTo
  by_cases hj : j = q
  · subst hj; rw [if_neg (fun e => h e.2), if_neg (fun e => h e.2)]
  · by_cases e : j < q ∧ j ∈ D
    · rw [if_pos e, if_pos ⟨by omega, e.2⟩]
    · rw [if_neg e, if_neg (fun e' => e ⟨by omega, e'.2⟩)]
theorem fTo_skip {D : List Nat} {delta : Int} {far : Nat → Int} {q : Nat} (h : q ∈ D) (j : Nat) : fTo D delta far (q + 1) j = fTo D delta far q j := by
  unfold fTo
  by_cases hj : j = q
  · subst hj; rw [if_neg (fun e => e.2 h), if_neg (fun e => e.2 h)]
  · by_cases e : j < q ∧ j ∉ D
    · rw [if_pos e, if_pos ⟨by omega, e.2⟩]
    · rw [if_neg e, if_neg (fun e' => e ⟨by omega, e'.2⟩)]
/-- A column that is done moves its row's price and its own. -/
theorem uTo_set {row : Nat → Nat} {D : List Nat} {delta : Int} {u : Nat → Int} {q : Nat} (h : q ∈ D) (inj : ∀ j, j ∈ D → row j = row q → j = q) (r : Nat) :
    (if r = row q then uTo row D delta u q (row q) + delta else uTo row D delta u q r) = uTo row D delta u (q + 1) r := by
  by_cases hr : r = row q
  · subst hr
    rw [if_pos rfl]
    unfold uTo
    rw [if_neg, if_pos]
    · rw [uTo_iff]; exact ⟨q, h, by omega, rfl⟩
    · rw [uTo_iff]
      rintro ⟨j, h1, h2, h3⟩
      have := inj j h1 h3
      omega
  · rw [if_neg hr]
    unfold uTo
    by_cases e : D.any (fun j => decide (j < q) && decide (row j = r)) = true
    · have e' : D.any (fun j => decide (j < q + 1) && decide (row j = r)) = true := by
        rw [uTo_iff] at e ⊢
        obtain ⟨j, h1, h2, h3⟩ := e
        exact ⟨j, h1, by omega, h3⟩
      rw [if_pos e, if_pos e']
    · have e' : ¬ D.any (fun j => decide (j < q + 1) && decide (row j = r)) = true := by
        rw [uTo_iff] at e ⊢
        rintro ⟨j, h1, h2, h3⟩
        by_cases hj : j = q
        · subst hj; exact hr h3.symm
        · exact e ⟨j, h1, by omega, h3⟩
      rw [if_neg e, if_neg e']
theorem vTo_set {D : List Nat} {delta : Int} {v : Nat → Int} {q : Nat} (h : q ∈ D) (j : Nat) : (if j = q then vTo D delta v q q - delta else vTo D delta v q j) = vTo D delta v (q + 1) j := by
  unfold vTo
  by_cases hj : j = q
  · subst hj; rw [if_pos rfl, if_neg (by omega), if_pos ⟨by omega, h⟩]
  · rw [if_neg hj]
    by_cases e : j < q ∧ j ∈ D
    · rw [if_pos e, if_pos ⟨by omega, e.2⟩]
    · rw [if_neg e, if_neg (fun e' => e ⟨by omega, e'.2⟩)]
theorem fTo_set {D : List Nat} {delta : Int} {far : Nat → Int} {q : Nat} (h : q ∉ D) (j : Nat) : (if j = q then fTo D delta far q q - delta else fTo D delta far q j) = fTo D delta far (q + 1) j := by
  unfold fTo
  by_cases hj : j = q
  · subst hj; rw [if_pos rfl, if_neg (by omega), if_pos ⟨by omega, h⟩]
  · rw [if_neg hj]
    by_cases e : j < q ∧ j ∉ D
    · rw [if_pos e, if_pos ⟨by omega, e.2⟩]
    · rw [if_neg e, if_neg (fun e' => e ⟨by omega, e'.2⟩)]
end Go.Proofs.Ytjggcnpnjnmamaa
