/-
  Quotients rounded to the nearest: plain laws and the walk of curve.Nearest. Own text.
-/
import Derived.Test.YtcadgjhfdolejaaRows
import Derived.Test.YtcadgjhfdolejaaBits
import Derived.WalkKit
import Derived.WalkSpells
import Derived.WalkLawsBesides
import Derived.IntWalk
namespace Go.Proofs.Ytcadgjhfdolejaa
open Go.RowKit
set_option linter.unusedVariables false
/-- n / d, rounded half up. -/
def nearV (n d : Int) : Int := (2 * n + d) / (2 * d)
theorem nearV_le {n d k : Int} (hd : 0 < d) (h : n ≤ k * d) : nearV n d ≤ k := by
  unfold nearV
  have h1 : (2 * n + d) / (2 * d) < k + 1 ↔ 2 * n + d < (k + 1) * (2 * d) := Int.ediv_lt_iff_lt_mul (by omega)
  have e : (k + 1) * (2 * d) = 2 * (k * d) + 2 * d := by rw [Int.add_mul, Int.one_mul, Int.mul_left_comm]
  rw [e] at h1
  omega
theorem le_nearV {n d k : Int} (hd : 0 < d) (h : k * d ≤ n) : k ≤ nearV n d := by
  unfold nearV
  rw [Int.le_ediv_iff_mul_le (by omega)]
  have e : k * (2 * d) = 2 * (k * d) := by rw [Int.mul_left_comm]
  rw [e]
  omega
theorem nearV_mono {n n' d : Int} (hd : 0 < d) (h : n ≤ n') : nearV n d ≤ nearV n' d := Int.ediv_le_ediv (by omega) (by omega)
theorem floor_t (a b : Int) (hb : 0 < b) : (a.tmod b < 0 → a.tdiv b - 1 = a / b) ∧ (¬ a.tmod b < 0 → a.tdiv b = a / b) := by
  have h1 := Int.mul_ediv_add_emod a b
  have h2 := Int.emod_nonneg a (show b ≠ 0 by omega)
  have h3 := Int.emod_lt_of_pos a hb
  have e1 := Int.tdiv_eq_ediv (a := a) (b := b)
  have e2 := Int.tmod_eq_emod (a := a) (b := b)
  have hs : b.sign = 1 := Int.sign_eq_one_of_pos hb
  rw [hs] at e1
  by_cases hc : 0 ≤ a ∨ b ∣ a
  · rw [if_pos hc] at e1 e2
    omega
  · rw [if_neg hc] at e1 e2
    have hne : a % b ≠ 0 := fun e => hc (.inr (Int.dvd_of_emod_eq_zero e))
    have hn : (b.natAbs : Int) = b := by omega
    omega
theorem tdiv_bd (a b : Int) (hb : 0 < b) {M : Int} (h : -M ≤ a ∧ a ≤ M) : -M - 1 ≤ a.tdiv b ∧ a.tdiv b ≤ M := by
  have h1 := floor_t a b hb
  have h2 : a / b ≤ M := by
    rw [← Int.lt_add_one_iff, Int.ediv_lt_iff_lt_mul hb]
    have : (M + 1) * 1 ≤ (M + 1) * b := Int.mul_le_mul_of_nonneg_left (by omega) (by omega)
    omega
  have h3 : -M - 1 ≤ a / b := by
    rw [Int.le_ediv_iff_mul_le hb]
    have : (-M - 1) * b ≤ (-M - 1) * 1 := Int.mul_le_mul_of_nonpos_left (by omega) (by omega)
    omega
  by_cases hc : a.tmod b < 0
  · have := h1.1 hc
    have h4 : a < 0 := by
      refine Int.lt_of_not_ge fun h => ?_
      have := Int.tmod_nonneg b h
      omega
    have h5 : a / b < 0 := (Int.ediv_lt_iff_lt_mul hb).2 (by rw [Int.zero_mul]; exact h4)
    omega
  · have := h1.2 hc
    omega
set_option maxHeartbeats 400000 in
theorem nearest_any (n d : Int) (w : World) (h0 : -1000000000000 ≤ n) (h1 : n ≤ 1000000000000) (h2 : 1 ≤ d) (h3 : d ≤ 1000000) :
    Calls Try.prog 26 #[.int .i64 n, .int .i64 d] w fun e w' => e = .returned (.int .i64 (nearV n d)) ∧ w = w' := by
  have hf := floor_t (2 * n + d) (2 * d) (by omega)
  have hb := tdiv_bd (2 * n + d) (2 * d) (by omega) (M := 2000001000000) (by omega)
  obtain ⟨q, hq⟩ : ∃ q, (2 * n + d).tdiv (2 * d) = q := ⟨_, rfl⟩
  obtain ⟨r, hr⟩ : ∃ r, (2 * n + d).tmod (2 * d) = r := ⟨_, rfl⟩
  rw [hq, hr] at hf
  rw [hq] at hb
  have hz : ¬ 2 * d = 0 := by omega
  by_cases hc : r < 0
  · have E : Hid (nearV n d = q - 1) := (hf.1 hc).symm
    clear hf
    go_enter Try.func26, Try.ntmps26
    go_wp2
    go_ret
    exact ⟨by rw [E.out]; rfl, rfl⟩
  · have E : Hid (nearV n d = q) := (hf.2 hc).symm
    clear hf
    go_enter Try.func26, Try.ntmps26
    go_wp2
    go_ret
    exact ⟨by rw [E.out]; rfl, rfl⟩
end Go.Proofs.Ytcadgjhfdolejaa
