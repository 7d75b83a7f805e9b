/-
  The cheapest assignment by prices: the look from a column, round by round. No program in sight. Own text.
-/
import Derived.Test.YtjggcnpnjnmamaaHungE
namespace Go.Proofs.Ytjggcnpnjnmamaa
set_option linter.unusedVariables false
section
variable {c : Nat → Nat → Int} {u v : Nat → Int} {row : Nat → Nat} {D : List Nat} {p : Nat} {far : Nat → Int} {fr : Nat → Nat} {q : Nat}
theorem farR_one (j : Nat) : farR c u v row D p far 1 j = far j := by unfold farR; exact if_neg (by omega)
theorem frR_one (j : Nat) : frR c u v row D p far fr 1 j = fr j := by unfold frR; exact if_neg (by omega)
/-- Ahead of its round a column's entry stands as it was. -/
theorem farR_self : farR c u v row D p far q q = far q := by unfold farR; exact if_neg (by omega)
theorem farR_skip (h : ¬ (1 ≤ q ∧ q ∉ p :: D ∧ c (row p) q - u (row p) - v q < far q)) (j : Nat) : farR c u v row D p far (q + 1) j = farR c u v row D p far q j := by
  unfold farR
  by_cases hj : j = q
  · subst hj
    rw [if_neg (fun e => h ⟨e.1, e.2.2.1, e.2.2.2⟩), if_neg (by omega)]
  · by_cases e : 1 ≤ j ∧ j < q ∧ j ∉ p :: D ∧ c (row p) j - u (row p) - v j < far j
    · rw [if_pos e, if_pos ⟨e.1, by omega, e.2.2⟩]
    · rw [if_neg e, if_neg (fun e' => e ⟨e'.1, by omega, e'.2.2⟩)]
theorem frR_skip (h : ¬ (1 ≤ q ∧ q ∉ p :: D ∧ c (row p) q - u (row p) - v q < far q)) (j : Nat) : frR c u v row D p far fr (q + 1) j = frR c u v row D p far fr q j := by
  unfold frR
  by_cases hj : j = q
  · subst hj
    rw [if_neg (fun e => h ⟨e.1, e.2.2.1, e.2.2.2⟩), if_neg (by omega)]
  · by_cases e : 1 ≤ j ∧ j < q ∧ j ∉ p :: D ∧ c (row p) j - u (row p) - v j < far j
    · rw [if_pos e, if_pos ⟨e.1, by omega, e.2.2⟩]
    · rw [if_neg e, if_neg (fun e' => e ⟨e'.1, by omega, e'.2.2⟩)]
theorem farR_set (h1 : 1 ≤ q) (h2 : q ∉ p :: D) (h3 : c (row p) q - u (row p) - v q < far q) (j : Nat) : (if j = q then c (row p) q - u (row p) - v q else farR c u v row D p far q j) = farR c u v row D p far (q + 1) j := by
  unfold farR
  by_cases hj : j = q
  · subst hj
    rw [if_pos rfl, if_pos ⟨h1, by omega, h2, h3⟩]
  · rw [if_neg hj]
    by_cases e : 1 ≤ j ∧ j < q ∧ j ∉ p :: D ∧ c (row p) j - u (row p) - v j < far j
    · rw [if_pos e, if_pos ⟨e.1, by omega, e.2.2⟩]
    · rw [if_neg e, if_neg (fun e' => e ⟨e'.1, by omega, e'.2.2⟩)]
theorem frR_set (h1 : 1 ≤ q) (h2 : q ∉ p :: D) (h3 : c (row p) q - u (row p) - v q < far q) (j : Nat) : (if j = q then p else frR c u v row D p far fr q j) = frR c u v row D p far fr (q + 1) j := by
  unfold frR
  by_cases hj : j = q
  · subst hj
    rw [if_pos rfl, if_pos ⟨h1, by omega, h2, h3⟩]
  · rw [if_neg hj]
    by_cases e : 1 ≤ j ∧ j < q ∧ j ∉ p :: D ∧ c (row p) j - u (row p) - v j < far j
    · rw [if_pos e, if_pos ⟨e.1, by omega, e.2.2⟩]
    · rw [if_neg e, if_neg (fun e' => e ⟨e'.1, by omega, e'.2.2⟩)]
/-- The entry behind its round. -/
theorem farR_new_lt (h1 : 1 ≤ q) (h2 : q ∉ p :: D) (h3 : c (row p) q - u (row p) - v q < far q) : farR c u v row D p far (q + 1) q = c (row p) q - u (row p) - v q := by
  unfold farR; exact if_pos ⟨h1, by omega, h2, h3⟩
end
section
variable {m : Nat} {D : List Nat} {far far' : Nat → Int} {q next : Nat} {delta : Int}
theorem Near.one : Near m D far 1 0 1125899906842624 := ⟨fun j j1 j2 => by omega, .inl ⟨rfl, rfl⟩⟩
theorem Near.congr (h : Near m D far q next delta) (he : ∀ j, 1 ≤ j → j < q → j ∉ D → far j = far' j) : Near m D far' q next delta := by
  refine ⟨fun j j1 j2 j3 => by rw [← he j j1 j2 j3]; exact h.le j j1 j2 j3, ?_⟩
  rcases h.is with e | ⟨e1, e2, e3, e4⟩
  · exact .inl e
  · exact .inr ⟨e1, e2, e3, by rw [← he next e1 e2 e3]; exact e4⟩
theorem Near.skip (h : Near m D far q next delta) (hq : q ∈ D) : Near m D far (q + 1) next delta := by
  refine ⟨fun j j1 j2 j3 => h.le j j1 (by
    have : j ≠ q := fun e => j3 (e ▸ hq)
    omega) j3, ?_⟩
  rcases h.is with e | ⟨e1, e2, e3, e4⟩
  · exact .inl e
  · exact .inr ⟨e1, by omega, e3, e4⟩
theorem Near.keep (h : Near m D far q next delta) (hq : ¬ far q < delta) : Near m D far (q + 1) next delta := by
  refine ⟨fun j j1 j2 j3 => ?_, ?_⟩
  · by_cases e : j = q
    · subst e; omega
    · exact h.le j j1 (by omega) j3
  · rcases h.is with e | ⟨e1, e2, e3, e4⟩
    · exact .inl e
    · exact .inr ⟨e1, by omega, e3, e4⟩
theorem Near.take (h : Near m D far q next delta) (h1 : 1 ≤ q) (h2 : q ∉ D) (hq : far q < delta) : Near m D far (q + 1) q (far q) := by
  refine ⟨fun j j1 j2 j3 => ?_, .inr ⟨h1, by omega, h2, rfl⟩⟩
  by_cases e : j = q
  · subst e; exact Int.le_refl _
  · have := h.le j j1 (by omega) j3
    omega
end
end Go.Proofs.Ytjggcnpnjnmamaa
