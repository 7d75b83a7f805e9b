/-
  The cheapest assignment by prices: the plain laws of one search. No program in sight. Own text.
-/
import Derived.Test.YtjggcnpnjnmamaaLift
namespace Go.Proofs.Ytjggcnpnjnmamaa
/-- Prices that are never above the costs: rows 1..N, columns 1..m. -/
structure Feas (N m : Nat) (c : Nat → Nat → Int) (u v : Nat → Int) : Prop where
  le : ∀ r j, 1 ≤ r → r ≤ N → 1 ≤ j → j ≤ m → u r + v j ≤ c r j
  vneg : ∀ j, 1 ≤ j → j ≤ m → v j ≤ 0
  upos : ∀ r, 1 ≤ r → r ≤ N → 0 ≤ u r
/-- k rows are matched. -/
structure Matched (N m k : Nat) (c : Nat → Nat → Int) (u v : Nat → Int) (row : Nat → Nat) : Prop where
  feas : Feas N m c u v
  tight : ∀ j, 1 ≤ j → j ≤ m → row j ≠ 0 → u (row j) + v j = c (row j) j
  free : ∀ j, 1 ≤ j → j ≤ m → row j = 0 → v j = 0
  inj : ∀ j j', 1 ≤ j → j ≤ m → 1 ≤ j' → j' ≤ m → row j ≠ 0 → row j = row j' → j = j'
  range : ∀ j, 1 ≤ j → j ≤ m → row j ≤ k
  cover : ∀ r, 1 ≤ r → r ≤ k → ∃ j, 1 ≤ j ∧ j ≤ m ∧ row j = r
  uz : ∀ r, k < r → r ≤ N → u r = 0
/-- From each column behind the first the way leads to an earlier one. -/
inductive Ways (fr : Nat → Nat) : List Nat → Prop where
  | nil : Ways fr []
  | zero : Ways fr [0]
  | cons (j : Nat) (D : List Nat) (hj : j ≠ 0) (hf : fr j ∈ D) (h : Ways fr D) : Ways fr (j :: D)
/-- A search at the column p; D: the columns that are done, the newest first. -/
structure Search (N m k : Nat) (c : Nat → Nat → Int) (u v : Nat → Int) (row : Nat → Nat) (D : List Nat) (p : Nat) (far : Nat → Int) (fr : Nat → Nat) : Prop where
  feas : Feas N m c u v
  kN : k + 1 ≤ N
  tight : ∀ j, 1 ≤ j → j ≤ m → row j ≠ 0 → u (row j) + v j = c (row j) j
  free : ∀ j, 1 ≤ j → j ≤ m → row j = 0 → v j = 0
  inj : ∀ j j', j ≤ m → j' ≤ m → row j ≠ 0 → row j = row j' → j = j'
  range : ∀ j, 1 ≤ j → j ≤ m → row j ≤ k
  cover : ∀ r, 1 ≤ r → r ≤ k → ∃ j, 1 ≤ j ∧ j ≤ m ∧ row j = r
  row0 : row 0 = k + 1
  uz : ∀ r, k + 1 < r → r ≤ N → u r = 0
  nd : D.Nodup
  din : ∀ j, j ∈ D → j ≤ m ∧ row j ≠ 0
  pD : p ∉ D
  pm : p ≤ m
  first : D = [] → p = 0 ∧ ∀ j, far j = 1099511627776
  later : D ≠ [] → p ≠ 0 ∧ 0 ∈ D ∧ far p = 0
  ways : Ways fr D
  edge : ∀ j, j ∈ D → j ≠ 0 → u (row (fr j)) + v j = c (row (fr j)) j
  farle : ∀ j, 1 ≤ j → j ≤ m → j ∉ D → ∀ j', j' ∈ D → far j ≤ c (row j') j - u (row j') - v j
  fareq : D ≠ [] → ∀ j, 1 ≤ j → j ≤ m → j ∉ D → fr j ∈ D ∧ far j = c (row (fr j)) j - u (row (fr j)) - v j
/-- The far ones behind a look from p. -/
def farR (c : Nat → Nat → Int) (u v : Nat → Int) (row : Nat → Nat) (D : List Nat) (p : Nat) (far : Nat → Int) (q : Nat) (j : Nat) : Int :=
  if 1 ≤ j ∧ j < q ∧ j ∉ p :: D ∧ c (row p) j - u (row p) - v j < far j then c (row p) j - u (row p) - v j else far j
def frR (c : Nat → Nat → Int) (u v : Nat → Int) (row : Nat → Nat) (D : List Nat) (p : Nat) (far : Nat → Int) (fr : Nat → Nat) (q : Nat) (j : Nat) : Nat :=
  if 1 ≤ j ∧ j < q ∧ j ∉ p :: D ∧ c (row p) j - u (row p) - v j < far j then p else fr j
/-- The nearest column below q that is not done. -/
structure Near (m : Nat) (D : List Nat) (far : Nat → Int) (q : Nat) (next : Nat) (delta : Int) : Prop where
  le : ∀ j, 1 ≤ j → j < q → j ∉ D → delta ≤ far j
  is : (next = 0 ∧ delta = 1125899906842624) ∨ (1 ≤ next ∧ next < q ∧ next ∉ D ∧ delta = far next)
/-- A list of different numbers below n has at most n of them. -/
theorem nodup_length : ∀ (n : Nat) (D : List Nat), D.Nodup → (∀ j, j ∈ D → j < n) → D.length ≤ n := by
  intro n
  induction n with
  | zero =>
    intro D _ h
    cases D with
    | nil => simp
    | cons a l => exact absurd (h a (by simp)) (by omega)
  | succ n ih =>
    intro D hd h
    have h1 := ih (D.erase n) (hd.erase n) (fun j hj => by
      have hm := List.mem_of_mem_erase hj
      have hne : j ≠ n := fun e => by subst e; exact (hd.not_mem_erase) hj
      have := h j hm
      omega)
    by_cases hm : n ∈ D
    · rw [List.length_erase_of_mem hm] at h1
      omega
    · rw [List.erase_of_not_mem hm] at h1
      omega
/-- Some column is neither done nor matched. -/
theorem Search.afree {N m k : Nat} {c : Nat → Nat → Int} {u v : Nat → Int} {row : Nat → Nat} {D : List Nat} {p : Nat} {far : Nat → Int} {fr : Nat → Nat} (h : Search N m k c u v row D p far fr) (hN : N ≤ m) :
    ∃ j, 1 ≤ j ∧ j ≤ m ∧ row j = 0 := by
  apply Classical.byContradiction
  intro hno
  have hall : ∀ j, 1 ≤ j → j ≤ m → row j ≠ 0 := fun j h1 h2 h3 => hno ⟨j, h1, h2, h3⟩
  have hl := nodup_length (k + 1) ((List.range m).map (fun q => row (q + 1))) (by
    rw [List.nodup_iff_pairwise_ne, List.pairwise_map]
    refine List.Pairwise.imp_of_mem ?_ (List.pairwise_lt_range (n := m))
    intro a b ha hb hlt he
    simp only [List.mem_range] at ha hb
    have := h.inj (a + 1) (b + 1) (by omega) (by omega) (hall _ (by omega) (by omega)) he
    omega) (fun j hj => by
    simp only [List.mem_map, List.mem_range] at hj
    obtain ⟨a, ha, rfl⟩ := hj
    have := h.range (a + 1) (by omega) (by omega)
    omega)
  have hl2 := nodup_length k ((List.range m).map (fun q => row (q + 1) - 1)) (by
    rw [List.nodup_iff_pairwise_ne, List.pairwise_map]
    refine List.Pairwise.imp_of_mem ?_ (List.pairwise_lt_range (n := m))
    intro a b ha hb hlt he
    simp only [List.mem_range] at ha hb
    have h1 := hall (a + 1) (by omega) (by omega)
    have h2 := hall (b + 1) (by omega) (by omega)
    have := h.inj (a + 1) (b + 1) (by omega) (by omega) h1 (by omega)
    omega) (fun j hj => by
    simp only [List.mem_map, List.mem_range] at hj
    obtain ⟨a, ha, rfl⟩ := hj
    have := h.range (a + 1) (by omega) (by omega)
    have := hall (a + 1) (by omega) (by omega)
    omega)
  simp only [List.length_map, List.length_range] at hl2
  have := h.kN
  omega
end Go.Proofs.Ytjggcnpnjnmamaa
