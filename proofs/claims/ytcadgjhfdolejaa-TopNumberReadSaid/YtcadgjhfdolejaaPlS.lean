/-
  Rows of bars and their blur, plain. Own text.
-/
import Derived.Test.YtcadgjhfdolejaaPlK
namespace Go.Proofs.Ytcadgjhfdolejaa
open Go.RowKit
set_option linter.unusedVariables false
/-- X lies on a bar: E says where bars and spaces begin, D how much wider the bars are at either end. -/
def OnE (E : Nat → Int) (n : Nat) (D X : Int) : Prop := ∃ k, k < n ∧ k % 2 = 0 ∧ E k - D ≤ X ∧ X < E (k + 1) + D
/-- The bars from the other side. -/
def revE (E : Nat → Int) (n : Nat) (B : Int) (j : Nat) : Int := B - E (n - j)
theorem onE_turn (E : Nat → Int) (n : Nat) (hn : n % 2 = 1) (B D X : Int) : OnE E n D (B - 1 - X) ↔ OnE (revE E n B) n D X := by
  constructor
  · rintro ⟨k, h1, h2, h3, h4⟩
    refine ⟨n - 1 - k, by omega, by omega, ?_, ?_⟩
    · unfold revE; rw [show n - (n - 1 - k) = k + 1 by omega]; omega
    · unfold revE; rw [show n - (n - 1 - k + 1) = k by omega]; omega
  · rintro ⟨k, h1, h2, h3, h4⟩
    unfold revE at h3 h4
    refine ⟨n - 1 - k, by omega, by omega, ?_, ?_⟩
    · rw [show n - 1 - k = n - (k + 1) by omega]; omega
    · rw [show n - 1 - k + 1 = n - k by omega]; omega
theorem onE_shift (E : Nat → Int) (n : Nat) (v D X : Int) : OnE E n D (X - v) ↔ OnE (fun k => v + E k) n D X := by
  constructor
  · rintro ⟨k, h1, h2, h3, h4⟩
    exact ⟨k, h1, h2, by show v + E k - D ≤ X; omega, by show X < v + E (k + 1) + D; omega⟩
  · rintro ⟨k, h1, h2, h3, h4⟩
    dsimp only at h3 h4
    exact ⟨k, h1, h2, by omega, by omega⟩
def Gap (E : Nat → Int) (n : Nat) (M : Int) : Prop := ∀ k, k < n → M ≤ E (k + 1) - E k
theorem Gap.mono {E : Nat → Int} {n : Nat} {M : Int} (h : Gap E n M) (hM : 0 ≤ M) (a : Nat) : ∀ b, a ≤ b → b ≤ n → E a ≤ E b
  | 0, h1, _ => by rw [Nat.le_zero.1 h1]; exact Int.le_refl _
  | b + 1, h1, h2 => by
    by_cases e : a = b + 1
    · rw [e]; exact Int.le_refl _
    · have e1 := Gap.mono h hM a b (by omega) (by omega)
      have e2 := h b (by omega)
      omega
/-- One bar is near, or none is. -/
theorem near_bar {E : Nat → Int} {n : Nat} {c : Int} (hc : 2 ≤ c) (hg : Gap E n (3 * c)) (X : Int) :
    (∃ k, k < n ∧ ∀ D i : Int, -1 ≤ D → D ≤ c → -1 ≤ i → i ≤ 1 → (OnE E n D (X + i) ↔ E k - D ≤ X + i ∧ X + i < E (k + 1) + D)) ∨ ∀ D i : Int, -1 ≤ D → D ≤ c → -1 ≤ i → i ≤ 1 → ¬ OnE E n D (X + i) := by
  by_cases h : ∃ k, k < n ∧ k % 2 = 0 ∧ E k - (c + 1) ≤ X ∧ X < E (k + 1) + (c + 1)
  · obtain ⟨k, h1, h2, h3, h4⟩ := h
    refine .inl ⟨k, h1, fun D i d1 d2 i1 i2 => ⟨?_, fun h => ⟨k, h1, h2, h.1, h.2⟩⟩⟩
    rintro ⟨j, g1, g2, g3, g4⟩
    by_cases e : j = k
    · rw [← e]; exact ⟨g3, g4⟩
    · rcases Nat.lt_or_gt_of_ne e with hl | hl
      · have e1 := hg.mono (by omega) (j + 2) k (by omega) (by omega)
        have e2 := hg (j + 1) (by omega)
        have e3 : E (j + 1 + 1) = E (j + 2) := rfl
        omega
      · have e1 := hg.mono (by omega) (k + 2) j (by omega) (by omega)
        have e2 := hg (k + 1) (by omega)
        have e3 : E (k + 1 + 1) = E (k + 2) := rfl
        omega
  · refine .inr fun D i d1 d2 i1 i2 => ?_
    rintro ⟨j, g1, g2, g3, g4⟩
    exact h ⟨j, g1, g2, by omega, by omega⟩
/-- The dark ones of three in a row, and of nine. -/
def row3 (P : Plane) (X Y : Int) : Nat := (P (X - 1) Y).toNat + (P X Y).toNat + (P (X + 1) Y).toNat
def nine (P : Plane) (X Y : Int) : Nat := row3 P X (Y - 1) + row3 P X Y + row3 P X (Y + 1)
def majP (P : Plane) : Plane := fun X Y => decide (5 ≤ nine P X Y)
def swapP (P : Plane) : Plane := fun X Y => P Y X
theorem nine_swap (P : Plane) (X Y : Int) : nine (swapP P) X Y = nine P Y X := by
  unfold nine row3 swapP
  omega
theorem maj_swap (P : Plane) : majP (swapP P) = swapP (majP P) := by
  funext X Y
  unfold majP
  rw [nine_swap]
  rfl
theorem toNat_of {b : Bool} {p : Prop} [Decidable p] (h : b = true ↔ p) : b.toNat = if p then 1 else 0 := by
  by_cases e : p
  · rw [if_pos e, h.2 e]; rfl
  · rw [if_neg e]
    cases b with
    | false => rfl
    | true => exact absurd (h.1 rfl) e
theorem ite01 (p : Prop) [Decidable p] : (p ∧ (if p then 1 else 0) = 1) ∨ (¬ p ∧ (if p then 1 else 0) = 0) := by
  by_cases e : p
  · exact .inl ⟨e, if_pos e⟩
  · exact .inr ⟨e, if_neg e⟩
def in3 (p q X : Int) : Nat := (if p ≤ X - 1 ∧ X - 1 < q then 1 else 0) + (if p ≤ X ∧ X < q then 1 else 0) + (if p ≤ X + 1 ∧ X + 1 < q then 1 else 0)
theorem in3_eq {p q X : Int} (h : p + 2 ≤ q) : (in3 p q X = 3 ∧ p + 1 ≤ X ∧ X + 1 < q) ∨ (in3 p q X = 2 ∧ (X = p ∨ X + 1 = q)) ∨ (in3 p q X = 1 ∧ (X + 1 = p ∨ X = q)) ∨ (in3 p q X = 0 ∧ (X + 1 < p ∨ q < X)) := by
  unfold in3
  rcases ite01 (p ≤ X - 1 ∧ X - 1 < q) with ⟨a1, e1⟩ | ⟨a1, e1⟩ <;> rcases ite01 (p ≤ X ∧ X < q) with ⟨a2, e2⟩ | ⟨a2, e2⟩ <;> rcases ite01 (p ≤ X + 1 ∧ X + 1 < q) with ⟨a3, e3⟩ | ⟨a3, e3⟩ <;> rw [e1, e2, e3] <;> omega
/-- The kind of a row: none, or how much wider its bars are. -/
def kd (A c : Int) (g : Nat) (Y : Int) : Option Int := if A ≤ Y ∧ Y < A + 4 * c then some (g * c) else if g = 1 ∧ A - c ≤ Y ∧ Y < A + 5 * c then some 0 else none
/-- A plane of bars. -/
def BarS (E : Nat → Int) (n : Nat) (c : Int) (g : Nat) (A : Int) (S : Plane) : Prop := ∀ X Y, S X Y = true ↔ ∃ d, kd A c g Y = some d ∧ OnE E n d X
/-- The kind of a blurred row. -/
def md (A c : Int) (g : Nat) (Y : Int) : Option Int :=
  if A + 1 ≤ Y ∧ Y ≤ A + 4 * c - 2 then some (g * c)
  else if Y = A ∨ Y = A + 4 * c - 1 then some (g * c - 1)
  else if g = 1 ∧ (Y = A - 1 ∨ Y = A + 4 * c) then some 1
  else if g = 1 ∧ A - c + 1 ≤ Y ∧ Y ≤ A + 5 * c - 2 then some 0
  else if g = 1 ∧ (Y = A - c ∨ Y = A + 5 * c - 1) then some (-1)
  else none
theorem kd_bd {A c : Int} {g : Nat} (hc : 2 ≤ c) (hg : g ≤ 1) {Y d : Int} (h : kd A c g Y = some d) : 0 ≤ d ∧ d ≤ c ∧ A - c ≤ Y ∧ Y < A + 5 * c := by
  unfold kd at h
  obtain rfl | rfl : g = 0 ∨ g = 1 := by omega
  · split at h
    · simp only [Option.some.injEq] at h; omega
    · split at h
      · omega
      · cases h
  · split at h
    · simp only [Option.some.injEq] at h; omega
    · split at h
      · simp only [Option.some.injEq] at h; omega
      · cases h
theorem md_bd {A c : Int} {g : Nat} (hc : 2 ≤ c) (hg : g ≤ 1) {Y d : Int} (h : md A c g Y = some d) : -1 ≤ d ∧ d ≤ c ∧ A - c ≤ Y ∧ Y < A + 5 * c := by
  unfold md at h
  obtain rfl | rfl : g = 0 ∨ g = 1 := by omega
  all_goals
    split at h
    · simp only [Option.some.injEq] at h; omega
    · split at h
      · simp only [Option.some.injEq] at h; omega
      · split at h
        · simp only [Option.some.injEq] at h; omega
        · split at h
          · simp only [Option.some.injEq] at h; omega
          · split at h
            · simp only [Option.some.injEq] at h; omega
            · cases h
/-- Three neighbours in a row of bars, near bar k. -/
theorem row3_near {E : Nat → Int} {n : Nat} {c A : Int} {g : Nat} {S : Plane} (hc : 2 ≤ c) (hg : g ≤ 1) (hS : BarS E n c g A S) {X : Int} {k : Nat}
    (hk : ∀ D i : Int, -1 ≤ D → D ≤ c → -1 ≤ i → i ≤ 1 → (OnE E n D (X + i) ↔ E k - D ≤ X + i ∧ X + i < E (k + 1) + D)) (Y : Int) :
    row3 S X Y = match kd A c g Y with | none => 0 | some d => in3 (E k - d) (E (k + 1) + d) X := by
  have key : ∀ i : Int, -1 ≤ i → i ≤ 1 → ∀ d, kd A c g Y = some d → (S (X + i) Y = true ↔ E k - d ≤ X + i ∧ X + i < E (k + 1) + d) := fun i i1 i2 d hd => by
    have hb := kd_bd hc hg hd
    rw [hS, hd, ← hk d i (by omega) hb.2.1 i1 i2]
    exact ⟨fun ⟨d', e, h⟩ => by cases e; exact h, fun h => ⟨d, rfl, h⟩⟩
  cases hd : kd A c g Y with
  | none =>
    have hf : ∀ Z, S Z Y = false := fun Z => by
      cases e : S Z Y with
      | false => rfl
      | true => obtain ⟨d, h1, -⟩ := (hS Z Y).1 e; rw [hd] at h1; cases h1
    unfold row3
    rw [hf, hf, hf]
    rfl
  | some d =>
    have h1 := key (-1) (by omega) (by omega) d hd
    have h2 := key 0 (by omega) (by omega) d hd
    have h3 := key 1 (by omega) (by omega) d hd
    rw [show X + -1 = X - 1 by omega] at h1
    rw [show X + 0 = X by omega] at h2
    unfold row3
    rw [toNat_of h1, toNat_of h2, toNat_of h3]
    rfl
theorem row3_far {E : Nat → Int} {n : Nat} {c A : Int} {g : Nat} {S : Plane} (hc : 2 ≤ c) (hg : g ≤ 1) (hS : BarS E n c g A S) {X : Int}
    (hk : ∀ D i : Int, -1 ≤ D → D ≤ c → -1 ≤ i → i ≤ 1 → ¬ OnE E n D (X + i)) (Y : Int) : row3 S X Y = 0 := by
  have key : ∀ i : Int, -1 ≤ i → i ≤ 1 → S (X + i) Y = false := fun i i1 i2 => by
    cases e : S (X + i) Y with
    | false => rfl
    | true =>
      obtain ⟨d, h1, h2⟩ := (hS _ _).1 e
      have hb := kd_bd hc hg h1
      exact absurd h2 (hk d i (by omega) hb.2.1 i1 i2)
  have h1 := key (-1) (by omega) (by omega)
  have h2 := key 0 (by omega) (by omega)
  have h3 := key 1 (by omega) (by omega)
  rw [show X + -1 = X - 1 by omega] at h1
  rw [show X + 0 = X by omega] at h2
  unfold row3
  rw [h1, h2, h3]
  rfl
end Go.Proofs.Ytcadgjhfdolejaa
