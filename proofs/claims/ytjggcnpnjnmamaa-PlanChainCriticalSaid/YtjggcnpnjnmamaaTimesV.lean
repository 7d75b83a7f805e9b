/-
  The times of a network: tables as functions; plain. No program in sight. Own text.
-/
import Derived.Test.YtjggcnpnjnmamaaTasks
namespace Go.Proofs.Ytjggcnpnjnmamaa
set_option linter.unusedVariables false
def taskN (l : List Task) (i : Nat) : Task := l.getD i ⟨0, []⟩
def lenN (l : List Task) (i : Nat) : Int := (taskN l i).len
/-- How many tasks lie ahead of task i; which. -/
def aftL (l : List Task) (i : Nat) : Nat := (taskN l i).after.length
def aftN (l : List Task) (i q : Nat) : Nat := (at0 (taskN l i).after q).toNat
theorem taskN_eq {l : List Task} {i : Nat} (h : i < l.length) : taskN l i = l[i] := by
  unfold taskN
  simp [List.getD_eq_getElem?_getD, h]
/-- A network without error. -/
structure GoodTasks (l : List Task) : Prop where
  n40 : l.length ≤ 40
  len : ∀ i, i < l.length → 0 ≤ lenN l i ∧ lenN l i ≤ 1048576
  m40 : ∀ i, i < l.length → aftL l i ≤ 40
  aft : ∀ i q, i < l.length → q < aftL l i → at0 (taskN l i).after q = (aftN l i q : Int) ∧ aftN l i q < i
theorem GoodTasks.of {l : List Task} (h : tasksErr l = 0) : GoodTasks l := by
  unfold tasksErr at h
  split at h
  · cases h
  · rename_i h40
    have hz := firstErr_zero h
    have ht : ∀ i, i < l.length → (0 ≤ lenN l i ∧ lenN l i ≤ 1048576) ∧ aftL l i ≤ 40 ∧ ∀ q, q < aftL l i → afterAt l.length i (taskN l i).after q = 0 := by
      intro i hi
      have h1 := hz i hi
      rw [taskAt_eq hi] at h1
      unfold taskErr at h1
      split at h1
      · cases h1
      · rename_i h2
        split at h1
        · cases h1
        · rename_i h3
          unfold lenN aftL
          rw [taskN_eq hi]
          exact ⟨by omega, by omega, fun q hq => firstErr_zero h1 q hq⟩
    refine ⟨by omega, fun i hi => (ht i hi).1, fun i hi => (ht i hi).2.1, fun i q hi hq => ?_⟩
    have h1 := (ht i hi).2.2 q hq
    unfold afterAt at h1
    split at h1
    · cases h1
    · rename_i h2
      split at h1
      · cases h1
      · rename_i h3
        unfold aftN
        omega
/-- The longest way to task i over the first q tasks ahead of it. -/
def longTo (l : List Task) (B : Nat → Int) (i : Nat) : Nat → Int
  | 0 => 0
  | q + 1 => max (longTo l B i q) (B (aftN l i q) + lenN l (aftN l i q))
/-- When the first i tasks begin. -/
def bgTab (l : List Task) : Nat → Nat → Int
  | 0, _ => 0
  | i + 1, j => if j = i then longTo l (bgTab l i) i (aftL l i) else bgTab l i j
theorem bgTab_old {l : List Task} {i j : Nat} (h : j < i) : ∀ {n : Nat}, i ≤ n → bgTab l n j = bgTab l i j := by
  intro n
  induction n with
  | zero => intro h2; omega
  | succ n ih =>
    intro h2
    by_cases e : i = n + 1
    · rw [e]
    · simp only [bgTab]
      rw [if_neg (by omega), ih (by omega)]
theorem bgTab_new {l : List Task} {i j : Nat} (h : i ≤ j) : bgTab l i j = 0 := by
  induction i with
  | zero => rfl
  | succ i ih => simp only [bgTab]; rw [if_neg (by omega), ih (by omega)]
theorem longTo_congr {l : List Task} {B B' : Nat → Int} {i : Nat} : ∀ {q : Nat}, (∀ p, p < q → B (aftN l i p) = B' (aftN l i p)) → longTo l B i q = longTo l B' i q := by
  intro q
  induction q with
  | zero => intro _; rfl
  | succ q ih =>
    intro h
    simp only [longTo]
    rw [ih (fun p hp => h p (by omega)), h q (by omega)]
theorem longTo_bd {l : List Task} {B : Nat → Int} {i : Nat} {M : Int} (hM : 0 ≤ M) : ∀ {q : Nat}, (∀ p, p < q → B (aftN l i p) + lenN l (aftN l i p) ≤ M) → 0 ≤ longTo l B i q ∧ longTo l B i q ≤ M := by
  intro q
  induction q with
  | zero => intro _; simp only [longTo]; omega
  | succ q ih =>
    intro h
    have h1 := ih (fun p hp => h p (by omega))
    have h2 := h q (by omega)
    simp only [longTo]
    omega
/-- The beginnings are small. -/
theorem bgTab_bd {l : List Task} (hG : GoodTasks l) : ∀ {i : Nat}, i ≤ l.length → ∀ j, 0 ≤ bgTab l i j ∧ bgTab l i j ≤ 1048576 * i := by
  intro i
  induction i with
  | zero => intro _ j; simp [bgTab]
  | succ i ih =>
    intro hi j
    have h1 := ih (by omega)
    simp only [bgTab]
    split
    · have h2 := longTo_bd (l := l) (B := bgTab l i) (i := i) (M := 1048576 * ((i : Int) + 1)) (by omega) (q := aftL l i) (fun p hp => by
        have a := (hG.aft i p (by omega) hp).2
        have b := hG.len (aftN l i p) (by omega)
        have c := h1 (aftN l i p)
        omega)
      omega
    · have := h1 j
      omega
/-- The end of the first i tasks. -/
def endTo (l : List Task) (B : Nat → Int) : Nat → Int
  | 0 => 0
  | i + 1 => max (endTo l B i) (B i + lenN l i)
theorem endTo_congr {l : List Task} {B B' : Nat → Int} : ∀ {q : Nat}, (∀ p, p < q → B p = B' p) → endTo l B q = endTo l B' q := by
  intro q
  induction q with
  | zero => intro _; rfl
  | succ q ih =>
    intro h
    simp only [endTo]
    rw [ih (fun p hp => h p (by omega)), h q (by omega)]
end Go.Proofs.Ytjggcnpnjnmamaa
