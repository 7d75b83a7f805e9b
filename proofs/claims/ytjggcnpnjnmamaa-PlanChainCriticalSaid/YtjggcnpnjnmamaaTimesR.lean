/-
  The reference's latest times, pulled from the tasks behind: plain. No program in sight. Own text.
-/
import Derived.Test.YtjggcnpnjnmamaaTimesY
import Derived.Test.YtjggcnpnjnmamaaPlanLaw
namespace Go.Proofs.Ytjggcnpnjnmamaa
set_option linter.unusedVariables false
theorem lst_succ (n : Nat) (f : Nat → Int) : lst (n + 1) f = lst n f ++ [f n] := by simp [lst, List.range_succ]
/-- The latest time of task i behind the first q tasks ahead of task k. -/
def refA (l : List Task) (L : Nat → Int) (i k : Nat) (v0 : Int) : Nat → Int
  | 0 => v0
  | q + 1 => if aftN l k q = i then min (refA l L i k v0 q) (L k - lenN l i) else refA l L i k v0 q
/-- Behind the c tasks behind task i. -/
def refK (l : List Task) (L : Nat → Int) (E : Int) (i : Nat) : Nat → Int
  | 0 => E - lenN l i
  | c + 1 => refA l L i (i + 1 + c) (refK l L E i c) (aftL l (i + 1 + c))
theorem refA_spec {l : List Task} {L : Nat → Int} {i k : Nat} {v0 : Int} : ∀ {q : Nat}, refA l L i k v0 q ≤ v0 ∧ (∀ p, p < q → aftN l k p = i → refA l L i k v0 q ≤ L k - lenN l i) ∧ (refA l L i k v0 q = v0 ∨ ∃ p, p < q ∧ aftN l k p = i ∧ refA l L i k v0 q = L k - lenN l i) := by
  intro q
  induction q with
  | zero => exact ⟨Int.le_refl _, fun p h => by omega, .inl rfl⟩
  | succ q ih =>
    obtain ⟨h1, h2, h3⟩ := ih
    simp only [refA]
    by_cases e : aftN l k q = i
    · rw [if_pos e]
      refine ⟨by omega, fun p hp he => by omega, ?_⟩
      by_cases hm : refA l L i k v0 q ≤ L k - lenN l i
      · rw [Int.min_eq_left hm]
        rcases h3 with h3 | ⟨p, a, b, c⟩
        · exact .inl h3
        · exact .inr ⟨p, by omega, b, c⟩
      · rw [Int.min_eq_right (by omega)]
        exact .inr ⟨q, by omega, e, rfl⟩
    · rw [if_neg e]
      refine ⟨h1, fun p hp he => ?_, ?_⟩
      · by_cases e2 : p = q
        · subst e2; exact absurd he e
        · exact h2 p (by omega) he
      · rcases h3 with h3 | ⟨p, a, b, c⟩
        · exact .inl h3
        · exact .inr ⟨p, by omega, b, c⟩
theorem refK_spec {l : List Task} {L : Nat → Int} {E : Int} {i : Nat} : ∀ {c : Nat}, refK l L E i c ≤ E - lenN l i ∧ (∀ k q, i < k → k < i + 1 + c → q < aftL l k → aftN l k q = i → refK l L E i c ≤ L k - lenN l i) ∧ (refK l L E i c = E - lenN l i ∨ ∃ k q, i < k ∧ k < i + 1 + c ∧ q < aftL l k ∧ aftN l k q = i ∧ refK l L E i c = L k - lenN l i) := by
  intro c
  induction c with
  | zero => exact ⟨Int.le_refl _, fun k q h1 h2 => by omega, .inl rfl⟩
  | succ c ih =>
    obtain ⟨h1, h2, h3⟩ := ih
    obtain ⟨s1, s2, s3⟩ := refA_spec (l := l) (L := L) (i := i) (k := i + 1 + c) (v0 := refK l L E i c) (q := aftL l (i + 1 + c))
    simp only [refK]
    refine ⟨Int.le_trans s1 h1, fun k q k1 k2 k3 k4 => ?_, ?_⟩
    · by_cases e : k = i + 1 + c
      · subst e; exact s2 q k3 k4
      · exact Int.le_trans s1 (h2 k q k1 (by omega) k3 k4)
    · rcases s3 with s3 | ⟨p, p1, p2, p3⟩
      · rw [s3]
        rcases h3 with h3 | ⟨k, q, k1, k2, k3, k4, k5⟩
        · exact .inl h3
        · exact .inr ⟨k, q, k1, by omega, k3, k4, k5⟩
      · exact .inr ⟨i + 1 + c, p, by omega, by omega, p1, p2, p3⟩
/-- Pulled or pushed: the same. -/
theorem refK_lat {l : List Task} (hG : GoodTasks l) {i : Nat} (hi : i < l.length) : refK l (lat l) (endV l) i (l.length - 1 - i) = lat l i := by
  have hc : i + 1 + (l.length - 1 - i) = l.length := by omega
  obtain ⟨h1, h2, h3⟩ := refK_spec (l := l) (L := lat l) (E := endV l) (i := i) (c := l.length - 1 - i)
  rw [hc] at h2 h3
  refine LatOf.unique (L := lat l) (L' := lat l) ⟨h1, h2, h3⟩ (lat_of hG hi) (fun _ _ _ => rfl)
/-- The table behind d tasks from above. -/
def latD (l : List Task) (n d : Nat) (j : Nat) : Int := if n - d ≤ j then lat l j else 0
end Go.Proofs.Ytjggcnpnjnmamaa
