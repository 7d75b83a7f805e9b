/-
  The cheapest assignment by prices: one step of the search by the program's tables. No program in sight. Own text.
-/
import Derived.Test.YtjggcnpnjnmamaaHungF
namespace Go.Proofs.Ytjggcnpnjnmamaa
set_option linter.unusedVariables false
section
variable {N m k : Nat} {c : Nat → Nat → Int} {u v : Nat → Int} {row : Nat → Nat} {D : List Nat} {p : Nat} {far : Nat → Int} {fr : Nat → Nat} {delta : Int} {next q : Nat}
theorem Search.inD (h : Search N m k c u v row D p far fr) (hp : row p ≠ 0) : ∀ j, j ∈ p :: D → j ≤ m ∧ row j ≠ 0 := fun j hj => by
  rcases List.mem_cons.1 hj with rfl | hm
  · exact ⟨h.pm, hp⟩
  · exact h.din j hm
theorem Search.injD (h : Search N m k c u v row D p far fr) (hp : row p ≠ 0) (hq : q ∈ p :: D) : ∀ j, j ∈ p :: D → row j = row q → j = q := fun j hj he =>
  h.inj j q (h.inD hp j hj).1 (h.inD hp q hq).1 (h.inD hp j hj).2 he
theorem Search.zeroD (h : Search N m k c u v row D p far fr) : 0 ∈ p :: D := by
  by_cases e : D = []
  · rw [(h.first e).1]; exact List.mem_cons_self
  · exact List.mem_cons_of_mem _ (h.later e).2.1
theorem uTo_at (hq : q ∈ D) (inj : ∀ j, j ∈ D → row j = row q → j = q) : uTo row D delta u q (row q) = u (row q) := by
  unfold uTo
  rw [if_neg]
  rw [uTo_iff]
  rintro ⟨j, h1, h2, h3⟩
  have := inj j h1 h3
  omega
theorem vTo_at : vTo D delta v q q = v q := if_neg (by omega)
theorem fTo_at : fTo D delta far q q = far q := if_neg (by omega)
theorem Search.onward (h : Search N m k c u v row D p far fr) (hN : N ≤ m) (hc : ∀ r j, 0 ≤ c r j ∧ c r j ≤ 1048576) (hp : row p ≠ 0)
    (hn : Near m (p :: D) (farR c u v row D p far (m + 1)) (m + 1) next delta) :
    Search N m k c (uTo row (p :: D) delta u (m + 1)) (vTo (p :: D) delta v (m + 1)) row (p :: D) next (fTo (p :: D) delta (farR c u v row D p far (m + 1)) (m + 1)) (frR c u v row D p far fr (m + 1)) := by
  refine h.step hN hc hp hn (fun j hj => ?_) (fun r hr => ?_) (fun j hj => ?_) (fun j hj => ?_) (fun j hm hj => ?_)
  · unfold uTo
    rw [if_pos]
    rw [uTo_iff]
    exact ⟨j, hj, by have := (h.inD hp j hj).1; omega, rfl⟩
  · unfold uTo
    rw [if_neg]
    rw [uTo_iff]
    rintro ⟨j, h1, _, h3⟩
    exact hr j h1 h3
  · exact if_pos ⟨by have := (h.inD hp j hj).1; omega, hj⟩
  · exact if_neg (fun e => hj e.2)
  · exact if_pos ⟨by omega, hj⟩
theorem Search.sum0 (h : Search N m k c u v row D p far fr) (hp : row p ≠ 0) : vTo (p :: D) delta v (m + 1) 0 + uTo row (p :: D) delta u (m + 1) (k + 1) = v 0 + u (k + 1) := by
  have h1 : vTo (p :: D) delta v (m + 1) 0 = v 0 - delta := if_pos ⟨by omega, h.zeroD⟩
  have h2 : uTo row (p :: D) delta u (m + 1) (k + 1) = u (k + 1) + delta := by
    unfold uTo
    rw [if_pos]
    rw [uTo_iff]
    exact ⟨0, h.zeroD, by omega, h.row0⟩
  omega
/-- One look more leaves the nearest as it is, by the new entries. -/
theorem Near.grown (h : Near m (p :: D) (farR c u v row D p far q) q next delta) : Near m (p :: D) (farR c u v row D p far (q + 1)) q next delta := by
  refine h.congr (fun j j1 j2 j3 => ?_)
  unfold farR
  by_cases e : 1 ≤ j ∧ j < q ∧ j ∉ p :: D ∧ c (row p) j - u (row p) - v j < far j
  · rw [if_pos e, if_pos ⟨e.1, by omega, e.2.2⟩]
  · rw [if_neg e, if_neg (fun e' => e ⟨e'.1, by omega, e'.2.2⟩)]
/-- The slack is no sum beyond the machine's. -/
theorem Search.slack (h : Search N m k c u v row D p far fr) (hN : N ≤ m) (hc : ∀ r j, 0 ≤ c r j ∧ c r j ≤ 1048576) (hp : row p ≠ 0) (h1 : 1 ≤ q) (h2 : q ≤ m) :
    0 ≤ c (row p) q ∧ c (row p) q ≤ 1048576 ∧ 0 ≤ u (row p) ∧ u (row p) ≤ 1048576 ∧ -1048576 ≤ v q ∧ v q ≤ 0 ∧ 1 ≤ row p ∧ row p ≤ N := by
  obtain ⟨hu, hv⟩ := h.bounds hN hc
  obtain ⟨r1, r2⟩ := h.rowN h.pm hp
  have := hu _ r1 r2
  have := hv q h1 h2
  have := hc (row p) q
  omega
/-- What the move of the prices meets. -/
theorem Search.moved (h : Search N m k c u v row D p far fr) (hN : N ≤ m) (hc : ∀ r j, 0 ≤ c r j ∧ c r j ≤ 1048576) (hp : row p ≠ 0) (hq : q ∈ p :: D) (h0 : -13631488 ≤ v 0 + u (k + 1) ∧ v 0 + u (k + 1) ≤ 0) :
    0 ≤ u (row q) ∧ u (row q) ≤ 1048576 ∧ -14680064 ≤ v q ∧ v q ≤ 0 ∧ 1 ≤ row q ∧ row q ≤ N := by
  obtain ⟨hu, hv⟩ := h.bounds hN hc
  obtain ⟨a1, a2⟩ := h.inD hp q hq
  obtain ⟨r1, r2⟩ := h.rowN a1 a2
  have := hu _ r1 r2
  have hk := h.kN
  have := hu (k + 1) (by omega) (by omega)
  by_cases e : q = 0
  · subst e; omega
  · have := hv q (by omega) a1
    omega
end
end Go.Proofs.Ytjggcnpnjnmamaa
