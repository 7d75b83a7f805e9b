/-
  The walk of the reference's pile.node: the cases that end early. Own text.
-/
import Derived.Test.YtmfmpmemdplloaaWalkA2
import Derived.Test.YtmfmpmemdplloaaIn
namespace Go.Proofs.Ytmfmpmemdplloaa
open Go.RowKit
set_option linter.unusedVariables false
/-- As 'Early', of the reference: the depth counts from 0. -/
theorem Early.cases {k a i : Int} {nk : Nat} {d : Int} {nodes : Nat} {r : Int} (h : Early k a i nk (d + 1) nodes r) (hg : nodes ≤ 4096) :
    (((nodes : Int) == 4096) = true ∧ r = 2) ∨ (((nodes : Int) == 4096) = false ∧ nodes < 4096 ∧ ((80 ≤ d ∧ r = 15) ∨ (d < 80 ∧ ((inB k 0 3 = false ∧ r = 14) ∨ (inB k 0 3 = true ∧ ((k = 0 ∧ (a != 0) = true ∧ r = 4) ∨ (k = 0 ∧ a = 0 ∧ 0 < nk ∧ r = 4) ∨ (k = 0 ∧ a = 0 ∧ nk = 0 ∧ (i != 0) = true ∧ r = 4) ∨
    (k = 1 ∧ (a != 0) = true ∧ r = 4) ∨ (k = 1 ∧ a = 0 ∧ 0 < nk ∧ r = 4) ∨ (k = 2 ∧ ((nk : Int) != 2) = true ∧ r = 4) ∨ (k = 2 ∧ nk = 2 ∧ (i != 0) = true ∧ r = 4) ∨ (k = 3 ∧ ((nk : Int) != 2) = true ∧ r = 4) ∨ (k = 3 ∧ nk = 2 ∧ (i != 0) = true ∧ r = 4))))))) := by
  unfold Early at h
  rcases h with ⟨h1, h2⟩ | ⟨h1, h⟩
  · exact .inl ⟨by simp; omega, h2⟩
  refine .inr ⟨by simp; omega, h1, ?_⟩
  rcases h with ⟨h2, h3⟩ | ⟨h2, h⟩
  · exact .inl ⟨by omega, h3⟩
  refine .inr ⟨by omega, ?_⟩
  rcases h with ⟨h3, h4⟩ | ⟨h3, h4⟩ | h
  · exact .inl ⟨inB_no (by omega), h4⟩
  · exact .inl ⟨inB_no (by omega), h4⟩
  · refine .inr ⟨?_, h⟩
    rcases h with ⟨rfl, _⟩ | ⟨rfl, _⟩ | ⟨rfl, _⟩ | ⟨rfl, _⟩ | ⟨rfl, _⟩ | ⟨rfl, _⟩ | ⟨rfl, _⟩ | ⟨rfl, _⟩ | ⟨rfl, _⟩ <;> decide
end Go.Proofs.Ytmfmpmemdplloaa
