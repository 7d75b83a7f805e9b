/-
  What a job needs: the plain laws. No program in sight. Own text.
-/
import Derived.Test.YtimofofaeedcoaaNum
namespace Go.Proofs.Ytimofofaeedcoaa
/-- How many sheets a step needs. -/
def beforeV (s p g : Int) : Int := if g = 0 then 0 else (g * 1000 + (1000 - p) - 1) / (1000 - p) + s
theorem ceil_le {a b c : Int} (hb : 1 ≤ b) : (a + b - 1) / b ≤ c ↔ a ≤ c * b := by
  have h1 : (a + b - 1) / b < c + 1 ↔ a + b - 1 < (c + 1) * b := Int.ediv_lt_iff_lt_mul (by omega)
  rw [Int.add_mul] at h1
  omega
theorem up_bd {a b : Int} (h0 : 0 ≤ a) (hb : 1 ≤ b) : 0 ≤ (a + b - 1) / b ∧ (a + b - 1) / b ≤ a := by
  constructor
  · exact Int.ediv_nonneg (by omega) (by omega)
  · rw [ceil_le hb]
    have : a * 1 ≤ a * b := Int.mul_le_mul_of_nonneg_left hb h0
    omega
/-- A step yields g exactly from what it needs on. -/
theorem after_iff {s p x g : Int} (h0 : 0 ≤ s) (h1 : 0 ≤ p) (h2 : p ≤ 999) (hx : 0 ≤ x) (hg : 0 ≤ g) : g ≤ afterV s p x ↔ beforeV s p g ≤ x := by
  have ha := after_bd s p x h0 h1 h2 hx
  unfold beforeV
  split
  · subst g; omega
  · rename_i hg0
    unfold afterV at *
    split
    · rename_i hs
      have := up_bd (a := g * 1000) (b := 1000 - p) (by omega) (by omega)
      have h3 : ¬ (g * 1000 + (1000 - p) - 1) / (1000 - p) ≤ 0 := by
        rw [ceil_le (by omega)]
        omega
      omega
    · rename_i hs
      have e1 : g ≤ x - s - ((x - s) * p + 1000 - 1) / 1000 ↔ ((x - s) * p + 1000 - 1) / 1000 ≤ x - s - g := by omega
      have e2 : (g * 1000 + (1000 - p) - 1) / (1000 - p) + s ≤ x ↔ (g * 1000 + (1000 - p) - 1) / (1000 - p) ≤ x - s := by omega
      rw [e1, e2, ceil_le (by omega), ceil_le (by omega), Int.mul_sub]
      omega
theorem before_bd {s p g : Int} (h0 : 0 ≤ s) (h1 : 0 ≤ p) (h2 : p ≤ 999) (hg : 0 ≤ g) : 0 ≤ beforeV s p g ∧ beforeV s p g ≤ g * 1000 + s := by
  unfold beforeV
  split
  · omega
  · have := up_bd (a := g * 1000) (b := 1000 - p) (by omega) (by omega)
    omega
/-- What is needed ahead of all steps; none: more than 2^30 somewhere. -/
def needL : List (Int × Int) → Int → Option Int
  | [], g => some g
  | x :: r, g => match needL r g with
    | none => none
    | some m => if 1073741824 < beforeV x.1 x.2 m then none else some (beforeV x.1 x.2 m)
def needR (xs : List (Int × Int)) (g : Int) : Int × Int := match needL xs g with | none => (0, 10) | some n => (n, 0)
theorem needL_drop_none {xs : List (Int × Int)} {g : Int} : ∀ (k : Nat), needL (xs.drop k) g = none → needL xs g = none := by
  induction xs with
  | nil => intro k h; simpa using h
  | cons x r ih =>
    intro k h
    cases k with
    | zero => exact h
    | succ k =>
      have := ih k (by simpa using h)
      simp [needL, this]
theorem needL_step {xs : List (Int × Int)} {g m : Int} {j : Nat} (h : j < xs.length) (hm : needL (xs.drop (j + 1)) g = some m) :
    needL (xs.drop j) g = if 1073741824 < beforeV xs[j].1 xs[j].2 m then none else some (beforeV xs[j].1 xs[j].2 m) := by
  rw [List.drop_eq_getElem_cons h]
  simp only [needL, hm]
def GoodSteps (xs : List (Int × Int)) : Prop := ∀ x ∈ xs, 0 ≤ x.1 ∧ x.1 ≤ 1073741824 ∧ 0 ≤ x.2 ∧ x.2 ≤ 999
theorem need_iff {xs : List (Int × Int)} (hx : GoodSteps xs) {g n : Int} (hg : 0 ≤ g) (h : needL xs g = some n) : 0 ≤ n ∧ ∀ x, 0 ≤ x → (g ≤ yieldV xs x ↔ n ≤ x) := by
  induction xs generalizing n with
  | nil =>
    simp [needL] at h
    subst h
    exact ⟨hg, fun x _ => Iff.rfl⟩
  | cons s r ih =>
    have hs := hx s (by simp)
    simp only [needL] at h
    cases hm : needL r g with
    | none => simp [hm] at h
    | some m =>
      simp only [hm] at h
      split at h
      · cases h
      · have hi := ih (fun y hy => hx y (by simp [hy])) hm
        simp only [Option.some.injEq] at h
        subst h
        have hb := before_bd hs.1 hs.2.2.1 hs.2.2.2 hi.1
        refine ⟨hb.1, fun x hx0 => ?_⟩
        have ha := after_bd s.1 s.2 x hs.1 hs.2.2.1 hs.2.2.2 hx0
        show g ≤ yieldV r (afterV s.1 s.2 x) ↔ _
        rw [hi.2 _ ha.1, after_iff hs.1 hs.2.2.1 hs.2.2.2 hx0 hi.1]
theorem need_most {xs : List (Int × Int)} {g n : Int} (hg : g ≤ 1073741824) (h : needL xs g = some n) : n ≤ 1073741824 := by
  cases xs with
  | nil => simp [needL] at h; omega
  | cons s r =>
    simp only [needL] at h
    cases hm : needL r g with
    | none => simp [hm] at h
    | some m =>
      simp only [hm] at h
      split at h
      · cases h
      · simp only [Option.some.injEq] at h
        omega
theorem after_mono {s p x y : Int} (h0 : 0 ≤ s) (h1 : 0 ≤ p) (h2 : p ≤ 999) (hx : 0 ≤ x) (hy : x ≤ y) : afterV s p x ≤ afterV s p y := by
  have ha := after_bd s p x h0 h1 h2 hx
  have h3 := (after_iff h0 h1 h2 hx ha.1).1 (Int.le_refl _)
  exact (after_iff h0 h1 h2 (by omega) ha.1).2 (by omega)
theorem yield_mono {xs : List (Int × Int)} (hx : GoodSteps xs) {x y : Int} (h0 : 0 ≤ x) (h : x ≤ y) : yieldV xs x ≤ yieldV xs y := by
  induction xs generalizing x y with
  | nil => exact h
  | cons s r ih =>
    have hs := hx s (by simp)
    have ha := after_bd s.1 s.2 x hs.1 hs.2.2.1 hs.2.2.2 h0
    exact ih (fun y hy => hx y (by simp [hy])) ha.1 (after_mono hs.1 hs.2.2.1 hs.2.2.2 h0 h)
end Go.Proofs.Ytimofofaeedcoaa
