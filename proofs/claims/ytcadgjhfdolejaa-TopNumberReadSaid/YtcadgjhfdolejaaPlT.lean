/-
  The blur of rows of bars, plain: five of nine. Own text.
-/
import Derived.Test.YtcadgjhfdolejaaPlS
namespace Go.Proofs.Ytcadgjhfdolejaa
open Go.RowKit
set_option linter.unusedVariables false
theorem ite3 {α : Type} (p q : Prop) [Decidable p] [Decidable q] (a b c : α) : (p ∧ (if p then a else if q then b else c) = a) ∨ (¬ p ∧ q ∧ (if p then a else if q then b else c) = b) ∨ (¬ p ∧ ¬ q ∧ (if p then a else if q then b else c) = c) := by
  by_cases h1 : p
  · exact .inl ⟨h1, if_pos h1⟩
  · by_cases h2 : q
    · exact .inr (.inl ⟨h1, h2, by rw [if_neg h1, if_pos h2]⟩)
    · exact .inr (.inr ⟨h1, h2, by rw [if_neg h1, if_neg h2]⟩)
/-- The core of the law: the ends p and q of the bar near X. -/
theorem maj_core {A c G p q X Y : Int} {g a b v1 v2 v3 : Nat} (hc : 2 ≤ c) (hg : (g = 0 ∧ G = 0) ∨ (g = 1 ∧ c = G)) (hpq : p + 2 ≤ q)
    (ha : (a = 3 ∧ p + 1 ≤ X ∧ X + 1 < q) ∨ (a = 2 ∧ (X = p ∨ X + 1 = q)) ∨ (a = 1 ∧ (X + 1 = p ∨ X = q)) ∨ (a = 0 ∧ (X + 1 < p ∨ q < X)))
    (hb : (b = 3 ∧ p - G + 1 ≤ X ∧ X + 1 < q + G) ∨ (b = 2 ∧ (X = p - G ∨ X + 1 = q + G)) ∨ (b = 1 ∧ (X + 1 = p - G ∨ X = q + G)) ∨ (b = 0 ∧ (X + 1 < p - G ∨ q + G < X)))
    (h1 : v1 = if A ≤ Y - 1 ∧ Y - 1 < A + 4 * c then b else if g = 1 ∧ A - c ≤ Y - 1 ∧ Y - 1 < A + 5 * c then a else 0)
    (h2 : v2 = if A ≤ Y ∧ Y < A + 4 * c then b else if g = 1 ∧ A - c ≤ Y ∧ Y < A + 5 * c then a else 0)
    (h3 : v3 = if A ≤ Y + 1 ∧ Y + 1 < A + 4 * c then b else if g = 1 ∧ A - c ≤ Y + 1 ∧ Y + 1 < A + 5 * c then a else 0) :
    5 ≤ v1 + v2 + v3 ↔ (if A + 1 ≤ Y ∧ Y ≤ A + 4 * c - 2 then p - G ≤ X ∧ X < q + G
      else if Y = A ∨ Y = A + 4 * c - 1 then p - (G - 1) ≤ X ∧ X < q + (G - 1)
      else if g = 1 ∧ (Y = A - 1 ∨ Y = A + 4 * c) then p - 1 ≤ X ∧ X < q + 1
      else if g = 1 ∧ A - c + 1 ≤ Y ∧ Y ≤ A + 5 * c - 2 then p ≤ X ∧ X < q
      else if g = 1 ∧ (Y = A - c ∨ Y = A + 5 * c - 1) then p + 1 ≤ X ∧ X < q - 1
      else False) := by
  have f1 := ite3 (A ≤ Y - 1 ∧ Y - 1 < A + 4 * c) (g = 1 ∧ A - c ≤ Y - 1 ∧ Y - 1 < A + 5 * c) b a 0
  have f2 := ite3 (A ≤ Y ∧ Y < A + 4 * c) (g = 1 ∧ A - c ≤ Y ∧ Y < A + 5 * c) b a 0
  have f3 := ite3 (A ≤ Y + 1 ∧ Y + 1 < A + 4 * c) (g = 1 ∧ A - c ≤ Y + 1 ∧ Y + 1 < A + 5 * c) b a 0
  rw [← h1] at f1
  rw [← h2] at f2
  rw [← h3] at f3
  clear h1 h2 h3
  rcases hg with ⟨rfl, rfl⟩ | ⟨rfl, rfl⟩
  · by_cases c1 : A + 1 ≤ Y ∧ Y ≤ A + 4 * c - 2
    · rw [if_pos c1]
      obtain ⟨e1, e2, e3⟩ : v1 = b ∧ v2 = b ∧ v3 = b := by omega
      subst e1; subst e2; clear f1 f2 f3 ha; omega
    · rw [if_neg c1]
      by_cases c2 : Y = A ∨ Y = A + 4 * c - 1
      · rw [if_pos c2]
        obtain ⟨e1, e2⟩ : v2 = b ∧ v1 + v3 = b := by omega
        clear f1 f2 f3 ha; omega
      · rw [if_neg c2, if_neg (by omega), if_neg (by omega), if_neg (by omega)]
        have e : v1 + v2 + v3 ≤ b ∨ v1 + v2 + v3 ≤ 3 := by omega
        exact ⟨fun h => by omega, False.elim⟩
  · by_cases c1 : A + 1 ≤ Y ∧ Y ≤ A + 4 * c - 2
    · rw [if_pos c1]
      obtain ⟨e1, e2, e3⟩ : v1 = b ∧ v2 = b ∧ v3 = b := by omega
      subst e1; subst e2; clear f1 f2 f3 ha; omega
    · rw [if_neg c1]
      by_cases c2 : Y = A ∨ Y = A + 4 * c - 1
      · rw [if_pos c2]
        obtain ⟨e1, e2⟩ : v2 = b ∧ v1 + v3 = b + a := by omega
        clear f1 f2 f3; omega
      · rw [if_neg c2]
        by_cases c3 : Y = A - 1 ∨ Y = A + 4 * c
        · rw [if_pos ⟨rfl, c3⟩]
          obtain ⟨e1, e2⟩ : v2 = a ∧ v1 + v3 = b + a := by omega
          clear f1 f2 f3; omega
        · rw [if_neg (by omega)]
          by_cases c4 : A - c + 1 ≤ Y ∧ Y ≤ A + 5 * c - 2
          · rw [if_pos ⟨rfl, c4⟩]
            obtain ⟨e1, e2, e3⟩ : v1 = a ∧ v2 = a ∧ v3 = a := by omega
            clear f1 f2 f3; omega
          · rw [if_neg (by omega)]
            by_cases c5 : Y = A - c ∨ Y = A + 5 * c - 1
            · rw [if_pos ⟨rfl, c5⟩]
              obtain ⟨e1, e2⟩ : v2 = a ∧ v1 + v3 = a := by omega
              clear f1 f2 f3; omega
            · rw [if_neg (by omega)]
              have e : v1 + v2 + v3 ≤ a := by omega
              exact ⟨fun h => by omega, False.elim⟩
theorem maj_bars {E : Nat → Int} {n : Nat} {c A : Int} {g : Nat} {S : Plane} (hc : 2 ≤ c) (hg : g ≤ 1) (hE : Gap E n (3 * c)) (hS : BarS E n c g A S) (X Y : Int) :
    majP S X Y = true ↔ ∃ d, md A c g Y = some d ∧ OnE E n d X := by
  unfold majP nine
  rw [decide_eq_true_eq]
  rcases near_bar hc hE X with ⟨k, hk, h⟩ | h
  · have hpq : E k + 2 ≤ E (k + 1) := by have := hE k hk; omega
    obtain ⟨G, hG⟩ : ∃ G : Int, G = (g : Int) * c := ⟨_, rfl⟩
    have hgG : (g = 0 ∧ G = 0) ∨ (g = 1 ∧ c = G) := by
      obtain rfl | rfl : g = 0 ∨ g = 1 := by omega
      · exact .inl ⟨rfl, by rw [hG]; exact Int.zero_mul c⟩
      · exact .inr ⟨rfl, by rw [hG]; exact (Int.one_mul c).symm⟩
    have hGb : 0 ≤ G ∧ G ≤ c := by omega
    have hv : ∀ Z, row3 S X Z = if A ≤ Z ∧ Z < A + 4 * c then in3 (E k - G) (E (k + 1) + G) X else if g = 1 ∧ A - c ≤ Z ∧ Z < A + 5 * c then in3 (E k) (E (k + 1)) X else 0 := fun Z => by
      rw [row3_near hc hg hS h Z, hG]
      unfold kd
      by_cases e1 : A ≤ Z ∧ Z < A + 4 * c
      · rw [if_pos e1, if_pos e1]
      · rw [if_neg e1, if_neg e1]
        by_cases e2 : g = 1 ∧ A - c ≤ Z ∧ Z < A + 5 * c
        · rw [if_pos e2, if_pos e2]
          show in3 (E k - 0) (E (k + 1) + 0) X = _
          rw [Int.sub_zero, Int.add_zero]
        · rw [if_neg e2, if_neg e2]
    have hO : ∀ d, -1 ≤ d → d ≤ c → (OnE E n d X ↔ E k - d ≤ X ∧ X < E (k + 1) + d) := fun d d1 d2 => by
      have e := h d 0 d1 d2 (by omega) (by omega)
      rw [Int.add_zero] at e
      exact e
    rw [maj_core hc hgG hpq (in3_eq hpq) (in3_eq (by omega)) (hv (Y - 1)) (hv Y) (hv (Y + 1))]
    have hone : ∀ d P, -1 ≤ d → d ≤ c → (E k - d ≤ X ∧ X < E (k + 1) + d ↔ P) → (P ↔ ∃ d', some d = some d' ∧ OnE E n d' X) := fun d P d1 d2 e => by
      rw [← e, ← hO d d1 d2]
      exact ⟨fun h => ⟨d, rfl, h⟩, fun ⟨d', e, h⟩ => by cases e; exact h⟩
    unfold md
    rw [← hG]
    split
    · exact hone G _ (by omega) (by omega) Iff.rfl
    · split
      · exact hone (G - 1) _ (by omega) (by omega) Iff.rfl
      · split
        · exact hone 1 _ (by omega) (by omega) Iff.rfl
        · split
          · exact hone 0 _ (by omega) (by omega) (by omega)
          · split
            · exact hone (-1) _ (by omega) (by omega) (by omega)
            · exact ⟨fun h => h.elim, fun ⟨d, e, _⟩ => by cases e⟩
  · rw [row3_far hc hg hS h, row3_far hc hg hS h, row3_far hc hg hS h]
    constructor
    · intro e; omega
    · rintro ⟨d, e, h2⟩
      have hb := md_bd hc hg e
      have e3 := h d 0 hb.1 hb.2.1 (by omega) (by omega)
      rw [Int.add_zero] at e3
      exact absurd h2 e3
/-- A plane whose rows are empty or bars alike. -/
structure BarP (E : Nat → Int) (n : Nat) (c : Int) (P : Plane) (A : Int) : Prop where
  row : ∀ Y, (∀ X, P X Y = false) ∨ ∃ D, -1 ≤ D ∧ D ≤ c ∧ ∀ X, P X Y = true ↔ OnE E n D X
  one : ∃ D, -1 ≤ D ∧ D ≤ c ∧ ∀ X, P X (A + 1) = true ↔ OnE E n D X
  span : ∀ X Y, P X Y = true → A - c ≤ Y ∧ Y < A + 5 * c
theorem barP_of {E : Nat → Int} {n : Nat} {c A : Int} {P : Plane} {K : Int → Option Int} (h : ∀ X Y, P X Y = true ↔ ∃ d, K Y = some d ∧ OnE E n d X)
    (hb : ∀ Y d, K Y = some d → -1 ≤ d ∧ d ≤ c ∧ A - c ≤ Y ∧ Y < A + 5 * c) {d1 : Int} (h1 : K (A + 1) = some d1) : BarP E n c P A := by
  have key : ∀ Y d, K Y = some d → ∀ X, P X Y = true ↔ OnE E n d X := fun Y d hd X => by
    rw [h, hd]
    exact ⟨fun ⟨d', e, h⟩ => by cases e; exact h, fun h => ⟨d, rfl, h⟩⟩
  refine ⟨fun Y => ?_, ⟨d1, (hb _ _ h1).1, (hb _ _ h1).2.1, key _ _ h1⟩, fun X Y hp => ?_⟩
  · cases hd : K Y with
    | none =>
      refine .inl fun X => ?_
      cases e : P X Y with
      | false => rfl
      | true => obtain ⟨d, h1, -⟩ := (h X Y).1 e; rw [hd] at h1; cases h1
    | some d => exact .inr ⟨d, (hb _ _ hd).1, (hb _ _ hd).2.1, key _ _ hd⟩
  · obtain ⟨d, h1, -⟩ := (h X Y).1 hp
    exact (hb _ _ h1).2.2
theorem barS_barP {E : Nat → Int} {n : Nat} {c A : Int} {g : Nat} {S : Plane} (hc : 2 ≤ c) (hg : g ≤ 1) (hS : BarS E n c g A S) : BarP E n c S A :=
  barP_of hS (fun Y d h => by have := kd_bd hc hg h; omega) (d1 := (g : Int) * c) (by unfold kd; rw [if_pos (by omega)])
theorem majS_barP {E : Nat → Int} {n : Nat} {c A : Int} {g : Nat} {S : Plane} (hc : 2 ≤ c) (hg : g ≤ 1) (hE : Gap E n (3 * c)) (hS : BarS E n c g A S) : BarP E n c (majP S) A :=
  barP_of (maj_bars hc hg hE hS) (fun Y d h => md_bd hc hg h) (d1 := (g : Int) * c) (by unfold md; rw [if_pos (by omega)])
end Go.Proofs.Ytcadgjhfdolejaa
