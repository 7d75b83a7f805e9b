/-
  The latest times of a network: pushed from above; the least of a set. No program in sight. Own text.
-/
import Derived.Test.YtjggcnpnjnmamaaTimesV
namespace Go.Proofs.Ytjggcnpnjnmamaa
set_option linter.unusedVariables false
/-- Task i pushes the first q tasks ahead of it. -/
def latQ (l : List Task) (T : Nat → Int) (i : Nat) : Nat → Nat → Int
  | 0, j => T j
  | q + 1, j => if j = aftN l i q then min (latQ l T i q j) (T i - lenN l j) else latQ l T i q j
/-- The latest times behind d tasks from above. -/
def latTab (l : List Task) (E : Int) : Nat → Nat → Int
  | 0, j => E - lenN l j
  | d + 1, j => latQ l (latTab l E d) (l.length - 1 - d) (aftL l (l.length - 1 - d)) j
/-- What the latest time of task i is, by those of the tasks behind it. -/
structure LatOf (l : List Task) (E : Int) (L : Nat → Int) (i : Nat) (v : Int) : Prop where
  a : v ≤ E - lenN l i
  b : ∀ k q, i < k → k < l.length → q < aftL l k → aftN l k q = i → v ≤ L k - lenN l i
  c : v = E - lenN l i ∨ ∃ k q, i < k ∧ k < l.length ∧ q < aftL l k ∧ aftN l k q = i ∧ v = L k - lenN l i
theorem LatOf.unique {l : List Task} {E : Int} {L L' : Nat → Int} {i : Nat} {v v' : Int} (h : LatOf l E L i v) (h' : LatOf l E L' i v') (he : ∀ k, i < k → k < l.length → L k = L' k) : v = v' := by
  have h1 : v ≤ v' := by
    rcases h'.c with e | ⟨k, q, k1, k2, k3, k4, e⟩
    · rw [e]; exact h.a
    · rw [e, ← he k k1 k2]; exact h.b k q k1 k2 k3 k4
  have h2 : v' ≤ v := by
    rcases h.c with e | ⟨k, q, k1, k2, k3, k4, e⟩
    · rw [e]; exact h'.a
    · rw [e, he k k1 k2]; exact h'.b k q k1 k2 k3 k4
  omega
theorem latQ_other {l : List Task} {T : Nat → Int} {i j : Nat} : ∀ {q : Nat}, (∀ p, p < q → aftN l i p ≠ j) → latQ l T i q j = T j := by
  intro q
  induction q with
  | zero => intro _; rfl
  | succ q ih =>
    intro h
    simp only [latQ]
    rw [if_neg (fun e => h q (by omega) e.symm), ih (fun p hp => h p (by omega))]
theorem latQ_spec {l : List Task} {T : Nat → Int} {i j : Nat} : ∀ {q : Nat}, latQ l T i q j ≤ T j ∧ (∀ p, p < q → aftN l i p = j → latQ l T i q j ≤ T i - lenN l j) ∧ (latQ l T i q j = T j ∨ ∃ p, p < q ∧ aftN l i p = j ∧ latQ l T i q j = T i - lenN l j) := by
  intro q
  induction q with
  | zero => exact ⟨Int.le_refl _, fun p hp => by omega, .inl rfl⟩
  | succ q ih =>
    obtain ⟨h1, h2, h3⟩ := ih
    simp only [latQ]
    by_cases e : j = aftN l i q
    · rw [if_pos e]
      refine ⟨by omega, fun p hp he => ?_, ?_⟩
      · by_cases e2 : p = q
        · omega
        · have := h2 p (by omega) he
          omega
      · by_cases hm : latQ l T i q j ≤ T i - lenN l j
        · rw [Int.min_eq_left hm]
          rcases h3 with h3 | ⟨p, a, b, c⟩
          · exact .inl h3
          · exact .inr ⟨p, by omega, b, c⟩
        · rw [Int.min_eq_right (by omega)]
          exact .inr ⟨q, by omega, e.symm, rfl⟩
    · rw [if_neg e]
      refine ⟨h1, fun p hp he => ?_, ?_⟩
      · by_cases e2 : p = q
        · subst e2; exact absurd he.symm e
        · exact h2 p (by omega) he
      · rcases h3 with h3 | ⟨p, a, b, c⟩
        · exact .inl h3
        · exact .inr ⟨p, by omega, b, c⟩
/-- A task's latest time stands once its turn has come. -/
theorem latTab_stays {l : List Task} {E : Int} (hG : GoodTasks l) {i : Nat} (hi : i < l.length) : ∀ {d : Nat}, l.length - 1 - i ≤ d → d ≤ l.length → latTab l E d i = latTab l E (l.length - 1 - i) i := by
  intro d
  induction d with
  | zero => intro h _; rw [show l.length - 1 - i = 0 by omega]
  | succ d ih =>
    intro h hd
    by_cases e : l.length - 1 - i = d + 1
    · rw [e]
    · rw [← ih (by omega) (by omega)]
      simp only [latTab]
      refine latQ_other (fun p hp he => ?_)
      have := (hG.aft (l.length - 1 - d) p (by omega) hp).2
      omega
/-- The latest time of a task is the least of its set. -/
theorem latTab_of {l : List Task} {E : Int} (hG : GoodTasks l) {i : Nat} (hi : i < l.length) : LatOf l E (fun k => latTab l E (l.length - 1 - k) k) i (latTab l E (l.length - 1 - i) i) := by
  have key : ∀ d, d ≤ l.length - 1 - i → latTab l E d i ≤ E - lenN l i ∧ (∀ k q, l.length - d ≤ k → k < l.length → q < aftL l k → aftN l k q = i → latTab l E d i ≤ latTab l E (l.length - 1 - k) k - lenN l i) ∧ (latTab l E d i = E - lenN l i ∨ ∃ k q, l.length - d ≤ k ∧ k < l.length ∧ q < aftL l k ∧ aftN l k q = i ∧ latTab l E d i = latTab l E (l.length - 1 - k) k - lenN l i) := by
    intro d
    induction d with
    | zero => intro _; exact ⟨Int.le_refl _, fun k q h1 h2 => by omega, .inl rfl⟩
    | succ d ih =>
      intro hd
      have u1 : l.length - (d + 1) ≤ l.length - 1 - d := by omega
      have u2 : l.length - 1 - d < l.length := by omega
      have u3 : l.length - (d + 1) ≤ l.length - d := by omega
      have u4 : ∀ k, l.length - (d + 1) ≤ k → k < l.length → k ≠ l.length - 1 - d → l.length - d ≤ k := by omega
      have hk : l.length - 1 - (l.length - 1 - d) = d := by omega
      obtain ⟨h1, h2, h3⟩ := ih (by omega)
      obtain ⟨s1, s2, s3⟩ := latQ_spec (l := l) (T := latTab l E d) (i := l.length - 1 - d) (j := i) (q := aftL l (l.length - 1 - d))
      refine ⟨Int.le_trans s1 h1, fun k q k1 k2 k3 k4 => ?_, ?_⟩
      · by_cases e : k = l.length - 1 - d
        · subst e
          have := s2 q k3 k4
          rw [hk]
          exact this
        · exact Int.le_trans s1 (h2 k q (u4 k k1 k2 e) k2 k3 k4)
      · rcases s3 with s3 | ⟨p, p1, p2, p3⟩
        · have e : latTab l E (d + 1) i = latTab l E d i := s3
          rcases h3 with h3 | ⟨k, q, k1, k2, k3, k4, k5⟩
          · exact .inl (by rw [e]; exact h3)
          · exact .inr ⟨k, q, Nat.le_trans u3 k1, k2, k3, k4, by rw [e]; exact k5⟩
        · exact .inr ⟨l.length - 1 - d, p, u1, u2, p1, p2, by rw [hk]; exact p3⟩
  obtain ⟨h1, h2, h3⟩ := key (l.length - 1 - i) (Nat.le_refl _)
  refine ⟨h1, fun k q k1 k2 k3 k4 => h2 k q (by omega) k2 k3 k4, ?_⟩
  rcases h3 with h3 | ⟨k, q, k1, k2, k3, k4, k5⟩
  · exact .inl h3
  · exact .inr ⟨k, q, by omega, k2, k3, k4, k5⟩
end Go.Proofs.Ytjggcnpnjnmamaa
