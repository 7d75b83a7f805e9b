/-
  The chain of a network: its tasks from the last one; plain. No program in sight. Own text.
-/
import Derived.Test.YtjggcnpnjnmamaaTimesW
namespace Go.Proofs.Ytjggcnpnjnmamaa
set_option linter.unusedVariables false
/-- The first of the first i tasks that ends with the plan; -1: none. -/
def firstTo (l : List Task) (B : Nat → Int) (E : Int) : Nat → Int
  | 0 => -1
  | i + 1 => if firstTo l B E i < 0 ∧ B i + lenN l i = E then (i : Int) else firstTo l B E i
/-- The same, sought from above: behind d tasks. -/
def lastTo (l : List Task) (B : Nat → Int) (E : Int) (n : Nat) : Nat → Int
  | 0 => -1
  | d + 1 => if B (n - 1 - d) + lenN l (n - 1 - d) = E then ((n - 1 - d : Nat) : Int) else lastTo l B E n d
/-- The first of the first q tasks ahead of task a that ends when a begins; -1: none. -/
def nextTo (l : List Task) (B : Nat → Int) (a : Nat) : Nat → Int
  | 0 => -1
  | q + 1 => if B (aftN l a q) + lenN l (aftN l a q) = B a ∧ (nextTo l B a q < 0 ∨ (aftN l a q : Int) < nextTo l B a q) then (aftN l a q : Int) else nextTo l B a q
/-- The task of the chain behind d rounds. -/
def atD (l : List Task) (B : Nat → Int) (a : Int) : Nat → Int
  | 0 => a
  | d + 1 => nextTo l B (atD l B a d).toNat (aftL l (atD l B a d).toNat)
/-- The chain behind d rounds, from its end. -/
def chD (l : List Task) (B : Nat → Int) (a : Int) (d : Nat) : List Int := (List.range d).map (atD l B a)
theorem chD_len {l : List Task} {B : Nat → Int} {a : Int} {d : Nat} : (chD l B a d).length = d := by simp [chD]
theorem chD_succ {l : List Task} {B : Nat → Int} {a : Int} {d : Nat} : chD l B a (d + 1) = chD l B a d ++ [atD l B a d] := by simp [chD, List.range_succ]
theorem firstTo_bd {l : List Task} {B : Nat → Int} {E : Int} : ∀ {i : Nat}, -1 ≤ firstTo l B E i ∧ firstTo l B E i < i := by
  intro i
  induction i with
  | zero => simp [firstTo]
  | succ i ih => simp only [firstTo]; split <;> omega
theorem nextTo_bd {l : List Task} (hG : GoodTasks l) {B : Nat → Int} {a : Nat} (ha : a < l.length) : ∀ {q : Nat}, q ≤ aftL l a → -1 ≤ nextTo l B a q ∧ nextTo l B a q < a := by
  intro q
  induction q with
  | zero => intro _; simp only [nextTo]; omega
  | succ q ih =>
    intro h
    have h1 := ih (by omega)
    have h2 := (hG.aft a q ha (by omega)).2
    simp only [nextTo]
    split <;> omega
/-- What the first search finds: the least task, or none. -/
theorem firstTo_spec {l : List Task} {B : Nat → Int} {E : Int} : ∀ {i : Nat}, (firstTo l B E i = -1 ∧ ∀ k, k < i → B k + lenN l k ≠ E) ∨ ∃ a : Nat, a < i ∧ firstTo l B E i = a ∧ B a + lenN l a = E ∧ ∀ k, k < a → B k + lenN l k ≠ E := by
  intro i
  induction i with
  | zero => exact .inl ⟨rfl, fun k h => by omega⟩
  | succ i ih =>
    simp only [firstTo]
    rcases ih with ⟨h1, h2⟩ | ⟨a, h1, h2, h3, h4⟩
    · by_cases e : B i + lenN l i = E
      · rw [if_pos ⟨by omega, e⟩]
        exact .inr ⟨i, by omega, rfl, e, h2⟩
      · rw [if_neg (fun h => e h.2)]
        refine .inl ⟨h1, fun k hk => ?_⟩
        by_cases e2 : k = i
        · rw [e2]; exact e
        · exact h2 k (by omega)
    · rw [if_neg (fun h => by omega)]
      exact .inr ⟨a, by omega, h2, h3, h4⟩
theorem lastTo_spec {l : List Task} {B : Nat → Int} {E : Int} {n : Nat} : ∀ {d : Nat}, d ≤ n → (lastTo l B E n d = -1 ∧ ∀ k, n - d ≤ k → k < n → B k + lenN l k ≠ E) ∨ ∃ a : Nat, n - d ≤ a ∧ a < n ∧ lastTo l B E n d = a ∧ B a + lenN l a = E ∧ ∀ k, n - d ≤ k → k < a → B k + lenN l k ≠ E := by
  intro d
  induction d with
  | zero => intro _; exact .inl ⟨rfl, fun k h1 h2 => by omega⟩
  | succ d ih =>
    intro hd
    simp only [lastTo]
    by_cases e : B (n - 1 - d) + lenN l (n - 1 - d) = E
    · rw [if_pos e]
      exact .inr ⟨n - 1 - d, by omega, by omega, rfl, e, fun k h1 h2 => by omega⟩
    · rw [if_neg e]
      rcases ih (by omega) with ⟨h1, h2⟩ | ⟨a, h0, h1, h2, h3, h4⟩
      · refine .inl ⟨h1, fun k hk hk2 => ?_⟩
        by_cases e2 : k = n - 1 - d
        · rw [e2]; exact e
        · exact h2 k (by omega) hk2
      · refine .inr ⟨a, by omega, h1, h2, h3, fun k hk hk2 => ?_⟩
        by_cases e2 : k = n - 1 - d
        · rw [e2]; exact e
        · exact h4 k (by omega) hk2
theorem lastTo_eq {l : List Task} {B : Nat → Int} {E : Int} {n : Nat} : lastTo l B E n n = firstTo l B E n := by
  rcases lastTo_spec (l := l) (B := B) (E := E) (Nat.le_refl n) with ⟨h1, h2⟩ | ⟨a, h0, h1, h2, h3, h4⟩
  · rcases firstTo_spec (l := l) (B := B) (E := E) (i := n) with ⟨g1, g2⟩ | ⟨b, g1, g2, g3, g4⟩
    · rw [h1, g1]
    · exact absurd g3 (h2 b (by omega) g1)
  · rcases firstTo_spec (l := l) (B := B) (E := E) (i := n) with ⟨g1, g2⟩ | ⟨b, g1, g2, g3, g4⟩
    · exact absurd h3 (g2 a h1)
    · have e1 : ¬ a < b := fun h => g4 a h h3
      have e2 : ¬ b < a := fun h => h4 b (by omega) h g3
      rw [h2, g2, show a = b by omega]
/-- The whole chain, and how many rounds make it. -/
def ChainOf (l : List Task) (B : Nat → Int) (a : Int) (d : Nat) : Prop := atD l B a d = -1 ∧ ∀ k, k < d → 0 ≤ atD l B a k
theorem ChainOf.unique {l : List Task} {B : Nat → Int} {a : Int} {d d' : Nat} (h : ChainOf l B a d) (h' : ChainOf l B a d') : d = d' := by
  have e1 : ¬ d < d' := fun x => by have := h'.2 d x; rw [h.1] at this; omega
  have e2 : ¬ d' < d := fun x => by have := h.2 d' x; rw [h'.1] at this; omega
  omega
end Go.Proofs.Ytjggcnpnjnmamaa
