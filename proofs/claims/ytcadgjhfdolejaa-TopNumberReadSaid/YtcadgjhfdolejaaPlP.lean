/-
  Runs of a row, plain: they are there, in order, and say the row; FromRuns on moved runs is the moved plane. Own text.
-/
import Derived.Test.YtcadgjhfdolejaaCodes
namespace Go.Proofs.Ytcadgjhfdolejaa
open Go.RowKit
set_option linter.unusedVariables false
theorem runs_exist (r : Nat → Bool) (W : Nat) : ∀ (n x : Nat), x + n = W → ∃ zs, Runs r W x zs
  | 0, x, h => ⟨[], .done fun i h1 h2 => by omega⟩
  | n + 1, x, h => by
    obtain ⟨zs, hz⟩ := runs_exist r W n (x + 1) (by omega)
    cases hr : r x with
    | false => exact ⟨zs, hz.back hr⟩
    | true =>
      by_cases hx : x + 1 < W
      · cases hr1 : r (x + 1) with
        | true =>
          obtain ⟨b, ys, rfl, h1, h2, h3, h4, h5⟩ := hz.hit hx hr1
          refine ⟨(x, b) :: ys, .run (Nat.le_refl _) (by omega) h2 (fun i g1 g2 => by omega) (fun i g1 g2 => ?_) h4 h5⟩
          by_cases e : i = x
          · rw [e]; exact hr
          · exact h3 i (by omega) g2
        | false =>
          refine ⟨(x, x + 1) :: zs, .run (Nat.le_refl _) (by omega) (by omega) (fun i g1 g2 => by omega) (fun i g1 g2 => ?_) (fun _ => hr1) hz⟩
          obtain rfl : i = x := by omega
          exact hr
      · have e := hz.end_nil (by omega)
        subst e
        refine ⟨[(x, x + 1)], .run (Nat.le_refl _) (by omega) (by omega) (fun i g1 g2 => by omega) (fun i g1 g2 => ?_) (fun g => by omega) hz⟩
        obtain rfl : i = x := by omega
        exact hr
theorem Runs.facts {r : Nat → Bool} {W x : Nat} {zs : List (Nat × Nat)} (h : Runs r W x zs) : (∀ z ∈ zs, x ≤ z.1 ∧ z.1 < z.2 ∧ z.2 ≤ W) ∧ zs.Pairwise (fun a b => a.2 < b.1) ∧ (∀ i, x ≤ i → i < W → (r i = true ↔ ∃ z ∈ zs, z.1 ≤ i ∧ i < z.2)) := by
  induction h with
  | done h =>
    refine ⟨fun z hz => (by cases hz), List.Pairwise.nil, fun i h1 h2 => ?_⟩
    rw [h i h1 h2]
    simp
  | @run x a b zs h1 h2 h3 h4 h5 h6 h7 ih =>
    obtain ⟨i1, i2, i3⟩ := ih
    have hb : ∀ z ∈ zs, b < z.1 := fun z hz => by
      obtain ⟨g1, g2, g3⟩ := i1 z hz
      by_cases e : z.1 = b
      · have e1 := h6 (by omega)
        have e2 := (i3 b (Nat.le_refl _) (by omega)).2 ⟨z, hz, by omega, by omega⟩
        rw [e1] at e2; cases e2
      · omega
    refine ⟨fun z hz => ?_, List.Pairwise.cons (fun z hz => hb z hz) i2, fun i g1 g2 => ?_⟩
    · rcases List.mem_cons.1 hz with rfl | hz
      · exact ⟨h1, h2, h3⟩
      · obtain ⟨k1, k2, k3⟩ := i1 z hz
        exact ⟨by omega, k2, k3⟩
    · constructor
      · intro hr
        by_cases e : i < b
        · refine ⟨(a, b), List.mem_cons_self, ?_, e⟩
          refine Nat.le_of_not_lt fun hl => ?_
          rw [h4 i g1 hl] at hr; cases hr
        · obtain ⟨z, hz, k⟩ := (i3 i (by omega) g2).1 hr
          exact ⟨z, List.mem_cons_of_mem _ hz, k⟩
      · rintro ⟨z, hz, k1, k2⟩
        rcases List.mem_cons.1 hz with rfl | hz
        · exact h5 i k1 k2
        · have := hb z hz
          exact (i3 i (by omega) g2).2 ⟨z, hz, k1, k2⟩
end Go.Proofs.Ytcadgjhfdolejaa
