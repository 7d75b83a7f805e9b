/-
  The cheapest assignment by prices: the way back along the search. No program in sight. Own text.
-/
import Derived.Test.YtjggcnpnjnmamaaHungB
namespace Go.Proofs.Ytjggcnpnjnmamaa
set_option linter.unusedVariables false
variable {N m k : Nat} {c : Nat → Nat → Int} {u v : Nat → Int} {row : Nat → Nat} {D : List Nat} {p : Nat} {far : Nat → Int} {fr : Nat → Nat}
theorem Ways.tail {fr : Nat → Nat} {D : List Nat} (h : Ways fr D) (hd : D.Nodup) {x : Nat} (hx : x ∈ D) : ∃ E, Ways fr (x :: E) ∧ E.length < D.length ∧ (x :: E).Nodup ∧ ∀ q, q ∈ E → q ∈ D := by
  induction h with
  | nil => cases hx
  | zero => obtain rfl := List.mem_singleton.1 hx; exact ⟨[], .zero, by simp, hd, fun q hq => by cases hq⟩
  | cons j D hj hf hw ih =>
    rcases List.mem_cons.1 hx with rfl | hm
    · exact ⟨D, .cons x D hj hf hw, by simp, hd, fun q hq => List.mem_cons_of_mem _ hq⟩
    · obtain ⟨E, h1, h2, h3, h4⟩ := ih (List.nodup_cons.1 hd).2 hm
      exact ⟨E, h1, by simp; omega, h3, fun q hq => List.mem_cons_of_mem _ (h4 q hq)⟩
/-- On the way back at the column p: its row is free to be written. -/
structure Flip (N m k : Nat) (c : Nat → Nat → Int) (u v : Nat → Int) (row : Nat → Nat) (fr : Nat → Nat) (p : Nat) (E : List Nat) (row' : Nat → Nat) : Prop where
  feas : Feas N m c u v
  uz : ∀ r, k + 1 < r → r ≤ N → u r = 0
  ways : Ways fr (p :: E)
  nd : (p :: E).Nodup
  le : ∀ j, j ∈ p :: E → j ≤ m ∧ row j ≠ 0 ∨ j = p
  pm : p ≤ m
  same : ∀ j, j ∈ E → row' j = row j
  edge : ∀ j, j ∈ p :: E → j ≠ 0 → u (row (fr j)) + v j = c (row (fr j)) j
  tight : ∀ j, 1 ≤ j → j ≤ m → j ≠ p → row' j ≠ 0 → u (row' j) + v j = c (row' j) j
  free : ∀ j, 1 ≤ j → j ≤ m → j ≠ p → row' j = 0 → v j = 0
  inj : ∀ j j', j ≤ m → j' ≤ m → j ≠ p → j' ≠ p → row' j ≠ 0 → row' j = row' j' → j = j'
  range : ∀ j, j ≤ m → j ≠ p → row' j ≤ k + 1
  cover : ∀ r, 1 ≤ r → r ≤ k + 1 → ∃ j, j ≤ m ∧ j ≠ p ∧ row' j = r
theorem Search.back (h : Search N m k c u v row D p far fr) (hp : row p = 0) : Flip N m k c u v row fr p D row := by
  have hp0 : p ≠ 0 := fun e => by subst e; rw [h.row0] at hp; omega
  have hne : D ≠ [] := fun e => hp0 (h.first e).1
  obtain ⟨q1, q2⟩ := h.fareq hne p (by omega) h.pm h.pD
  have hz := (h.later hne).2.2
  refine ⟨h.feas, h.uz, .cons p D hp0 q1 h.ways, List.nodup_cons.2 ⟨h.pD, h.nd⟩, fun j hj => ?_, h.pm, fun j _ => rfl, fun j hj hj0 => ?_, fun j j1 j2 _ hr => h.tight j j1 j2 hr, fun j j1 j2 _ hr => h.free j j1 j2 hr, fun j j' j2 j2' _ _ hr he => h.inj j j' j2 j2' hr he, fun j j2 hj => ?_, fun r r1 r2 => ?_⟩
  · rcases List.mem_cons.1 hj with rfl | hm
    · exact .inr rfl
    · exact .inl (h.din j hm)
  · rcases List.mem_cons.1 hj with rfl | hm
    · omega
    · exact h.edge j hm hj0
  · by_cases e : j = 0
    · subst e; rw [h.row0]; omega
    · have := h.range j (by omega) j2; omega
  · by_cases e : r = k + 1
    · exact ⟨0, by omega, fun e => hp0 e.symm, by rw [h.row0, e]⟩
    · obtain ⟨j, j1, j2, j3⟩ := h.cover r r1 (by omega)
      exact ⟨j, j2, fun e => by subst e; omega, j3⟩
/-- One step back. -/
theorem Flip.step {E : List Nat} {row' : Nat → Nat} (h : Flip N m k c u v row fr p E row') (hp : p ≠ 0) :
    fr p ∈ E ∧ fr p ≤ m ∧ ∃ E', E'.length < E.length ∧ Flip N m k c u v row fr (fr p) E' (fun j => if j = p then row' (fr p) else row' j) := by
  have hf : fr p ∈ E := by
    cases h.ways with
    | zero => exact absurd rfl hp
    | cons _ _ _ hf _ => exact hf
  have hE : Ways fr E := by
    cases h.ways with
    | zero => exact .nil
    | cons _ _ _ _ hw => exact hw
  obtain ⟨nd1, nd2⟩ := List.nodup_cons.1 h.nd
  obtain ⟨E', w1, w2, w3, w4⟩ := hE.tail nd2 hf
  have hfp : fr p ≠ p := fun e => nd1 (e ▸ hf)
  have hfm : fr p ≤ m ∧ row (fr p) ≠ 0 := by
    rcases h.le (fr p) (List.mem_cons_of_mem _ hf) with e | e
    · exact e
    · exact absurd e hfp
  have hs := h.same _ hf
  refine ⟨hf, hfm.1, E', w2, ⟨h.feas, h.uz, w1, w3, fun j hj => ?_, hfm.1, fun j hj => ?_, fun j hj hj0 => ?_, fun j j1 j2 hj hr => ?_, fun j j1 j2 hj hr => ?_, fun j j' j2 j2' hj hj' hr he => ?_, fun j j2 hj => ?_, fun r r1 r2 => ?_⟩⟩
  · rcases List.mem_cons.1 hj with rfl | hm
    · exact .inr rfl
    · rcases h.le j (List.mem_cons_of_mem _ (w4 j hm)) with e | e
      · exact .inl e
      · exact absurd (e ▸ w4 j hm) nd1
  · have hjE := w4 j hj
    have : j ≠ p := fun e => nd1 (e ▸ hjE)
    rw [if_neg this]
    exact h.same j hjE
  · refine h.edge j ?_ hj0
    rcases List.mem_cons.1 hj with rfl | hm
    · exact List.mem_cons_of_mem _ hf
    · exact List.mem_cons_of_mem _ (w4 j hm)
  · by_cases e : j = p
    · subst e
      simp only [if_pos] at hr ⊢
      rw [hs]
      exact h.edge j List.mem_cons_self hp
    · simp only [if_neg e] at hr ⊢
      exact h.tight j j1 j2 e hr
  · by_cases e : j = p
    · subst e
      simp only [if_pos] at hr
      rw [hs] at hr
      exact absurd hr hfm.2
    · simp only [if_neg e] at hr
      exact h.free j j1 j2 e hr
  · by_cases e : j = p
    · subst e
      by_cases e' : j' = j
      · exact e'.symm
      · simp only [if_pos, if_neg e'] at he hr
        exact absurd (h.inj (fr j) j' hfm.1 j2' hfp e' hr he) (fun e => hj' e.symm)
    · by_cases e' : j' = p
      · subst e'
        simp only [if_pos, if_neg e] at he hr
        exact absurd (h.inj j (fr j') j2 hfm.1 e hfp hr he) hj
      · simp only [if_neg e, if_neg e'] at he hr
        exact h.inj j j' j2 j2' e e' hr he
  · by_cases e : j = p
    · subst e
      simp only [if_pos]
      exact h.range (fr j) hfm.1 hfp
    · simp only [if_neg e]
      exact h.range j j2 e
  · obtain ⟨j, j2, j3, j4⟩ := h.cover r r1 r2
    by_cases e : j = fr p
    · refine ⟨p, h.pm, fun e => hfp e.symm, ?_⟩
      simp only [if_pos]
      rw [← e]; exact j4
    · refine ⟨j, j2, e, ?_⟩
      simp only [if_neg j3]
      exact j4
/-- The way back ends: one more row is matched. -/
theorem Flip.done {E : List Nat} {row' : Nat → Nat} (h : Flip N m k c u v row fr 0 E row') : Matched N m (k + 1) c u v row' := by
  refine ⟨h.feas, fun j j1 j2 hr => h.tight j j1 j2 (by omega) hr, fun j j1 j2 hr => h.free j j1 j2 (by omega) hr, fun j j' j1 j2 j1' j2' hr he => h.inj j j' j2 j2' (by omega) (by omega) hr he, fun j j1 j2 => h.range j j2 (by omega), fun r r1 r2 => ?_, h.uz⟩
  obtain ⟨j, j2, j3, j4⟩ := h.cover r r1 r2
  exact ⟨j, by omega, j2, j4⟩
/-- The search begins. -/
theorem Matched.begin (h : Matched N m k c u v row) (hk : k + 1 ≤ N) : Search N m k c u v (fun j => if j = 0 then k + 1 else row j) [] 0 (fun _ => 1099511627776) (fun _ => 0) := by
  have hne : ∀ j : Nat, 1 ≤ j → (if j = 0 then k + 1 else row j) = row j := fun j h => if_neg (by omega)
  refine ⟨h.feas, hk, fun j j1 j2 hr => ?_, fun j j1 j2 hr => ?_, fun j j' j2 j2' hr he => ?_, fun j j1 j2 => ?_, fun r r1 r2 => ?_, rfl, fun r r1 r2 => h.uz r (by omega) r2, List.nodup_nil, fun j hj => absurd hj List.not_mem_nil, List.not_mem_nil, by omega, fun _ => ⟨rfl, fun _ => rfl⟩, fun e => absurd rfl e, .nil, fun j hj => absurd hj List.not_mem_nil, fun j _ _ _ j' hj' => absurd hj' List.not_mem_nil, fun e => absurd rfl e⟩
  · simp only [hne j j1] at hr ⊢; exact h.tight j j1 j2 hr
  · simp only [hne j j1] at hr; exact h.free j j1 j2 hr
  · by_cases e : j = 0
    · by_cases e' : j' = 0
      · rw [e, e']
      · simp only [if_pos e, if_neg e'] at he
        have := h.range j' (by omega) j2'
        omega
    · by_cases e' : j' = 0
      · simp only [if_neg e, if_pos e'] at he
        have := h.range j (by omega) j2
        omega
      · simp only [if_neg e, if_neg e'] at he hr
        exact h.inj j j' (by omega) j2 (by omega) j2' hr he
  · simp only [hne j j1]; exact h.range j j1 j2
  · obtain ⟨j, j1, j2, j3⟩ := h.cover r r1 r2
    exact ⟨j, j1, j2, by simp only [hne j j1]; exact j3⟩
end Go.Proofs.Ytjggcnpnjnmamaa
