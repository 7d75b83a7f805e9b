/-
  The printed bars as a plane. Own text.
-/
import Derived.Test.YtcadgjhfdolejaaPlQ
namespace Go.Proofs.Ytcadgjhfdolejaa
open Go.RowKit
set_option linter.unusedVariables false
/-- Place X lies on a bar; the bars are wider by d at either end. -/
def OnBar (f : Nat → Nat) (u N : Nat) (o d X : Int) : Prop := ∃ k, k < N ∧ k % 2 = 0 ∧ o + (posV f u k : Int) - d ≤ X ∧ X < o + (posV f u (k + 1) : Int) + d
theorem barB_on (f : Nat → Nat) (u N : Nat) (X : Int) : barB f u N X = true ↔ OnBar f u N 0 0 X := by
  unfold barB OnBar
  rw [List.any_eq_true]
  simp only [decide_eq_true_eq, List.mem_range]
  constructor
  · rintro ⟨k, h1, h2, h3, h4⟩
    exact ⟨k, h1, h2, by omega, by omega⟩
  · rintro ⟨k, h1, h2, h3, h4⟩
    exact ⟨k, h1, h2, by omega, by omega⟩
/-- The kind of a row of the print: how much wider its bars are. -/
def dl (g : Nat) (Y : Int) : Option Int := if 2 ≤ Y ∧ Y < 6 then some g else if g = 1 ∧ (Y = 1 ∨ Y = 6) then some 0 else none
/-- The inked print. -/
def inkQ (f : Nat → Nat) (u N W g : Nat) (Q1 : Plane) : Plane := cutP (W + 6) 10 (shiftP (growN (W + 6) 10 Q1 g) 1 (-1))
theorem ink_form {f : Nat → Nat} {u N W g : Nat} {Q1 : Plane} (hg : g ≤ 1) (hf : ∀ k, k < N → 1 ≤ f k) (hu : 1 ≤ u) (hW : posV f u N = W)
    (hQ : ∀ X Y : Int, Q1 X Y = true ↔ (3 ≤ Y ∧ Y < 7 ∧ 3 ≤ X ∧ X < (W : Int) + 3) ∧ barP f u N 4 W (X - 3) (Y - 3) = true) (X Y : Int) :
    inkQ f u N W g Q1 X Y = true ↔ ∃ d, dl g Y = some d ∧ OnBar f u N 4 d X := by
  have hpos : ∀ k, k < N → posV f u k < posV f u (k + 1) ∧ posV f u (k + 1) ≤ W := fun k hk => by
    have h1 := posV_mono f u (show k + 1 ≤ N by omega)
    have h2 : 1 * 1 ≤ f k * u := Nat.mul_le_mul (hf k hk) hu
    rw [hW] at h1
    refine ⟨?_, h1⟩
    show posV f u k < posV f u k + f k * u
    omega
  have hQ' : ∀ X Y : Int, Q1 X Y = true ↔ 3 ≤ Y ∧ Y < 7 ∧ OnBar f u N 3 0 X := fun X Y => by
    rw [hQ]
    unfold barP
    rw [Bool.and_eq_true, barB_on, decide_eq_true_eq]
    unfold OnBar
    constructor
    · rintro ⟨h1, h2, k, k1, k2, k3, k4⟩
      exact ⟨h1.1, h1.2.1, k, k1, k2, by omega, by omega⟩
    · rintro ⟨h1, h2, k, k1, k2, k3, k4⟩
      have := hpos k k1
      exact ⟨by omega, by omega, k, k1, k2, by omega, by omega⟩
  obtain rfl | rfl : g = 0 ∨ g = 1 := by omega
  · unfold inkQ cutP shiftP growN insideV dl
    simp only [Bool.and_eq_true, decide_eq_true_eq, hQ']
    constructor
    · rintro ⟨h1, h2, h3, k, k1, k2, k3, k4⟩
      exact ⟨0, by rw [if_pos (by omega)]; rfl, k, k1, k2, by omega, by omega⟩
    · rintro ⟨d, hd, k, k1, k2, k3, k4⟩
      have := hpos k k1
      split at hd
      · simp only [Option.some.injEq] at hd
        subst hd
        exact ⟨by omega, by omega, by omega, k, k1, k2, by omega, by omega⟩
      · rw [if_neg (by omega)] at hd
        cases hd
  · unfold inkQ cutP shiftP growN growN cutP nearP insideV dl
    simp only [Bool.and_eq_true, Bool.or_eq_true, decide_eq_true_eq, hQ']
    constructor
    · rintro ⟨h1, h2, ((((⟨h3, h4, k, k1, k2, k3, k4⟩ | ⟨h3, h4, k, k1, k2, k3, k4⟩) | ⟨h3, h4, k, k1, k2, k3, k4⟩) | ⟨h3, h4, k, k1, k2, k3, k4⟩) | ⟨h3, h4, k, k1, k2, k3, k4⟩)⟩
      · exact ⟨1, by rw [if_pos (by omega)]; rfl, k, k1, k2, by omega, by omega⟩
      · exact ⟨1, by rw [if_pos (by omega)]; rfl, k, k1, k2, by omega, by omega⟩
      · exact ⟨1, by rw [if_pos (by omega)]; rfl, k, k1, k2, by omega, by omega⟩
      · by_cases e : 2 ≤ Y ∧ Y < 6
        · exact ⟨1, by rw [if_pos e]; rfl, k, k1, k2, by omega, by omega⟩
        · exact ⟨0, by rw [if_neg e, if_pos ⟨trivial, by omega⟩], k, k1, k2, by omega, by omega⟩
      · by_cases e : 2 ≤ Y ∧ Y < 6
        · exact ⟨1, by rw [if_pos e]; rfl, k, k1, k2, by omega, by omega⟩
        · exact ⟨0, by rw [if_neg e, if_pos ⟨trivial, by omega⟩], k, k1, k2, by omega, by omega⟩
    · rintro ⟨d, hd, k, k1, k2, k3, k4⟩
      have hp := hpos k k1
      split at hd
      · rename_i hy
        simp only [Option.some.injEq] at hd
        subst hd
        refine ⟨by omega, by omega, ?_⟩
        by_cases e1 : 4 + (posV f u k : Int) ≤ X ∧ X < 4 + (posV f u (k + 1) : Int)
        · exact .inl (.inl (.inl (.inl ⟨by omega, by omega, k, k1, k2, by omega, by omega⟩)))
        · by_cases e2 : X < 4 + (posV f u k : Int)
          · exact .inl (.inl (.inr ⟨by omega, by omega, k, k1, k2, by omega, by omega⟩))
          · exact .inl (.inl (.inl (.inr ⟨by omega, by omega, k, k1, k2, by omega, by omega⟩)))
      · split at hd
        · rename_i hy hy2
          simp only [Option.some.injEq] at hd
          subst hd
          refine ⟨by omega, by omega, ?_⟩
          by_cases e : Y = 1
          · exact .inr ⟨by omega, by omega, k, k1, k2, by omega, by omega⟩
          · exact .inl (.inr ⟨by omega, by omega, k, k1, k2, by omega, by omega⟩)
        · cases hd
end Go.Proofs.Ytcadgjhfdolejaa
