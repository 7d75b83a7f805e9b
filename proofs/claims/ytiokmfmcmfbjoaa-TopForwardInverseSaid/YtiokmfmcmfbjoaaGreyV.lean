/-
  The fixed profile with one ink: plain. Own text.
-/
import Derived.Test.YtiokmfmcmfbjoaaFind
namespace Go.Proofs.Ytiokmfmcmfbjoaa
open Go.RowKit
set_option linter.unusedVariables false
def lineP : List (Int × Int) := [(0, 0), (65280, 65280)]
def black : ByteArray := ⟨#[98, 108, 97, 99, 107]⟩
def nameP : ByteArray := ⟨#[112, 49]⟩
def grey : Prof := ⟨nameP, [black], [lineP], 1, 3, 2, [10000, 0, 0, 2000, 100, -100]⟩
theorem line_ok : OkCurve lineP where
  two := by decide
  most := by decide
  rng := fun i hi => by
    match i, hi with
    | 0, _ => unfold PtOk; decide
    | 1, _ => unfold PtOk; decide
  up := fun i hi => by
    match i, hi with
    | 0, _ => unfold StepUp; decide
  first := by decide
  last := by decide
theorem black_ok : OkName black where
  one := by decide
  most := by decide
  first := by decide +kernel
  all := fun i hi => by
    match i, hi with
    | 0, _ => unfold OkCh; decide +kernel
    | 1, _ => unfold OkCh; decide +kernel
    | 2, _ => unfold OkCh; decide +kernel
    | 3, _ => unfold OkCh; decide +kernel
    | 4, _ => unfold OkCh; decide +kernel
theorem name_ok : OkName nameP where
  one := by decide
  most := by decide
  first := by decide +kernel
  all := fun i hi => by
    match i, hi with
    | 0, _ => unfold OkCh; decide +kernel
    | 1, _ => unfold OkCh; decide +kernel
theorem grey_ok : OkProf grey where
  name := name_ok
  few := by decide
  names := ⟨fun i hi => by
    match i, hi with
    | 0, _ => exact black_ok, fun i hi j hj => by
    have : i < 1 := hi
    omega⟩
  same := rfl
  curves := fun i hi => by
    match i, hi with
    | 0, _ => exact line_ok
  grid := ⟨by unfold OkShape SizeOk; decide, by decide, fun i hi => by
    match i, hi with
    | 0, _ => exact (by decide : (-32768 : Int) ≤ 10000 ∧ (10000 : Int) ≤ 65535)
    | 1, _ => exact (by decide : (-32768 : Int) ≤ 0 ∧ (0 : Int) ≤ 65535)
    | 2, _ => exact (by decide : (-32768 : Int) ≤ 0 ∧ (0 : Int) ≤ 65535)
    | 3, _ => exact (by decide : (-32768 : Int) ≤ 2000 ∧ (2000 : Int) ≤ 65535)
    | 4, _ => exact (by decide : (-32768 : Int) ≤ 100 ∧ (100 : Int) ≤ 65535)
    | 5, _ => exact (by decide : (-32768 : Int) ≤ (-100) ∧ (-100 : Int) ≤ 65535)⟩
  axes := by decide
  labs := fun q hq => by
    have hq' : 3 * q + 2 < 6 := hq
    have : q = 0 ∨ q = 1 := by omega
    rcases this with rfl | rfl
    · unfold OkLab; decide
    · unfold OkLab; decide
theorem line_at {x : Int} (h0 : 0 ≤ x) (h1 : x ≤ 65280) : CurveAt lineP x x := by
  refine ⟨0, ⟨by decide, ?_, .inr rfl⟩, ?_⟩
  · show 0 ≤ x
    exact h0
  · show x = 0 + nearV ((65280 - 0) * (x - 0)) (65280 - 0)
    unfold nearV
    omega
theorem fine_grey {t : Int} (h0 : 0 ≤ t) (h1 : t ≤ 255) : fineL grey [t] = [256 * t] := by
  have h : curveV lineP (256 * t) = 256 * t := curveV_eq line_ok (line_at (by omega) (by omega))
  show [curveV lineP (256 * t)] = _
  rw [h]
theorem lab_grey {t : Int} (h0 : 0 ≤ t) (h1 : t ≤ 255) (o : Nat) : labV grey [t] o = quickV grey [256 * t] o := by
  unfold labV
  rw [fine_grey h0 h1]
theorem grey_half : labV grey [128] 0 = 5984 ∧ labV grey [128] 1 = 50 ∧ labV grey [128] 2 = -50 := by
  rw [lab_grey (by omega) (by omega), lab_grey (by omega) (by omega), lab_grey (by omega) (by omega)]
  decide +kernel
theorem grey_full : labV grey [255] 0 = 2000 ∧ labV grey [255] 1 = 100 ∧ labV grey [255] 2 = -100 := by
  rw [lab_grey (by omega) (by omega), lab_grey (by omega) (by omega), lab_grey (by omega) (by omega)]
  decide +kernel
theorem grey_only {t k : Int} (hk : t = k * 51) (h0 : 0 ≤ t) (h1 : t ≤ 255) (h : labV grey [t] 0 = 2000) : t = 255 := by
  rw [lab_grey h0 h1] at h
  have : k = 0 ∨ k = 1 ∨ k = 2 ∨ k = 3 ∨ k = 4 ∨ k = 5 := by omega
  rcases this with rfl | rfl | rfl | rfl | rfl | rfl <;> subst hk
  · exact absurd h (by decide +kernel)
  · exact absurd h (by decide +kernel)
  · exact absurd h (by decide +kernel)
  · exact absurd h (by decide +kernel)
  · exact absurd h (by decide +kernel)
  · rfl
theorem cand1 (st : Int) (m : Nat → Int) : candL 1 st m = [m 0 * st] := rfl
theorem sq_zero {a b c : Int} (h : a * a + b * b + c * c = 0) : a = 0 ∧ b = 0 ∧ c = 0 := by
  have sq : ∀ p : Int, 0 ≤ p * p ∧ (p * p = 0 → p = 0) := fun p => by
    refine ⟨?_, fun h => ?_⟩
    · rcases Int.le_total 0 p with h | h
      · exact Int.mul_nonneg h h
      · have := Int.mul_nonneg (show 0 ≤ -p by omega) (show 0 ≤ -p by omega)
        rwa [Int.neg_mul_neg] at this
    · rcases Int.mul_eq_zero.1 h with h | h <;> exact h
  have h1 := sq a
  have h2 := sq b
  have h3 := sq c
  exact ⟨h1.2 (by omega), h2.2 (by omega), h3.2 (by omega)⟩
/-- Distance zero: the very colour. -/
theorem dist_zero {P : Prof} {d : Nat} {st : Int} {tv M : Nat → Int} (h : distV P d st tv M = 0) : labV P (candL d st M) 0 = tv 0 ∧ labV P (candL d st M) 1 = tv 1 ∧ labV P (candL d st M) 2 = tv 2 := by
  unfold distV at h
  obtain ⟨h1, h2, h3⟩ := sq_zero h
  exact ⟨by omega, by omega, by omega⟩
end Go.Proofs.Ytiokmfmcmfbjoaa
