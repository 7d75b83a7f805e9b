/-
  The cheapest assignment by prices: the sums. No program in sight. Own text.
-/
import Derived.Test.YtjggcnpnjnmamaaHungC
namespace Go.Proofs.Ytjggcnpnjnmamaa
set_option linter.unusedVariables false
/-- f 1 + .. + f q. -/
def sumTo (f : Nat → Int) : Nat → Int
  | 0 => 0
  | q + 1 => sumTo f q + f (q + 1)
theorem sumTo_congr {f g : Nat → Int} : ∀ {q : Nat}, (∀ j, 1 ≤ j → j ≤ q → f j = g j) → sumTo f q = sumTo g q := by
  intro q
  induction q with
  | zero => intro _; rfl
  | succ q ih =>
    intro h
    have h1 := ih (fun j j1 j2 => h j j1 (by omega))
    have h2 := h (q + 1) (by omega) (by omega)
    simp only [sumTo]; omega
theorem sumTo_add (f g : Nat → Int) (q : Nat) : sumTo (fun j => f j + g j) q = sumTo f q + sumTo g q := by
  induction q with
  | zero => rfl
  | succ q ih => simp only [sumTo]; omega
theorem sumTo_zero (q : Nat) : sumTo (fun _ => 0) q = 0 := by
  induction q with
  | zero => rfl
  | succ q ih => simp only [sumTo]; omega
theorem sumTo_le {f g : Nat → Int} : ∀ {q : Nat}, (∀ j, 1 ≤ j → j ≤ q → f j ≤ g j) → sumTo f q ≤ sumTo g q := by
  intro q
  induction q with
  | zero => intro _; exact Int.le_refl _
  | succ q ih =>
    intro h
    have h1 := ih (fun j j1 j2 => h j j1 (by omega))
    have h2 := h (q + 1) (by omega) (by omega)
    simp only [sumTo]; omega
theorem sumTo_one {f : Nat → Int} (a : Nat) : ∀ {q : Nat}, 1 ≤ a → a ≤ q → (∀ j, 1 ≤ j → j ≤ q → j ≠ a → f j = 0) → sumTo f q = f a := by
  intro q
  induction q with
  | zero => intro h1 h2; omega
  | succ q ih =>
    intro h1 h2 h
    simp only [sumTo]
    by_cases e : a = q + 1
    · have : sumTo f q = 0 := by
        rw [sumTo_congr (g := fun _ => 0) (fun j j1 j2 => h j j1 (by omega) (by omega))]
        exact sumTo_zero q
      rw [this, e]; omega
    · have h3 := ih h1 (by omega) (fun j j1 j2 => h j j1 (by omega))
      have h4 := h (q + 1) (by omega) (by omega) (fun e' => e e'.symm)
      omega
theorem sumTo_swap (f : Nat → Nat → Int) (n q : Nat) : sumTo (fun j => sumTo (fun r => f j r) n) q = sumTo (fun r => sumTo (fun j => f j r) q) n := by
  induction q with
  | zero => simp only [sumTo]; exact (sumTo_zero n).symm
  | succ q ih => simp only [sumTo]; rw [ih, sumTo_add]
/-- A sum over the columns is one over the rows. -/
theorem sumTo_reidx {N m : Nat} {row : Nat → Nat} (g : Nat → Int) (inj : ∀ j j', 1 ≤ j → j ≤ m → 1 ≤ j' → j' ≤ m → row j ≠ 0 → row j = row j' → j = j')
    (range : ∀ j, 1 ≤ j → j ≤ m → row j ≤ N) (cover : ∀ r, 1 ≤ r → r ≤ N → ∃ j, 1 ≤ j ∧ j ≤ m ∧ row j = r) :
    sumTo (fun j => if row j = 0 then 0 else g (row j)) m = sumTo g N := by
  have h1 : sumTo (fun j => if row j = 0 then 0 else g (row j)) m = sumTo (fun j => sumTo (fun r => if row j = r then g r else 0) N) m := by
    refine sumTo_congr (fun j j1 j2 => ?_)
    by_cases e : row j = 0
    · rw [if_pos e, sumTo_congr (g := fun _ => 0) (fun r r1 r2 => if_neg (by omega)), sumTo_zero]
    · rw [if_neg e, sumTo_one (row j) (by omega) (range j j1 j2) (fun r r1 r2 hr => if_neg (fun e => hr e.symm)), if_pos rfl]
  rw [h1, sumTo_swap]
  refine sumTo_congr (fun r r1 r2 => ?_)
  obtain ⟨j, j1, j2, j3⟩ := cover r r1 r2
  rw [sumTo_one j j1 j2 (fun j' j1' j2' hj => if_neg (fun e => hj (inj j' j j1' j2' j1 j2 (by omega) (by omega)))), if_pos j3]
/-- An assignment with its prices: rows 1..N, columns 1..m; pr r the column of the row r. -/
structure Proof0 (N m : Nat) (c : Nat → Nat → Int) (u v : Nat → Int) (pr : Nat → Nat) : Prop where
  feas : Feas N m c u v
  ub : ∀ r, 1 ≤ r → r ≤ N → 0 ≤ u r ∧ u r ≤ 1048576
  vb : ∀ j, 1 ≤ j → j ≤ m → -1048576 ≤ v j ∧ v j ≤ 0
  prm : ∀ r, 1 ≤ r → r ≤ N → 1 ≤ pr r ∧ pr r ≤ m
  inj : ∀ r r', 1 ≤ r → r ≤ N → 1 ≤ r' → r' ≤ N → pr r = pr r' → r = r'
  tight : ∀ r, 1 ≤ r → r ≤ N → u r + v (pr r) = c r (pr r)
  sum : sumTo (fun r => c r (pr r)) N = sumTo u N + sumTo v m
/-- The cost, column by column. -/
def costTo (c : Nat → Nat → Int) (row : Nat → Nat) (q : Nat) : Int := sumTo (fun j => if row j = 0 then 0 else c (row j) j) q
theorem Matched.proof0 {N m : Nat} {c : Nat → Nat → Int} {u v : Nat → Int} {row : Nat → Nat} {pr : Nat → Nat} (h : Matched N m N c u v row)
    (hub : ∀ r, 1 ≤ r → r ≤ N → 0 ≤ u r ∧ u r ≤ 1048576) (hvb : ∀ j, 1 ≤ j → j ≤ m → -1048576 ≤ v j ∧ v j ≤ 0)
    (hpr : ∀ j, 1 ≤ j → j ≤ m → row j ≠ 0 → pr (row j) = j) : Proof0 N m c u v pr ∧ costTo c row m = sumTo (fun r => c r (pr r)) N := by
  have hre := sumTo_reidx (fun r => c r (pr r)) h.inj h.range h.cover
  have hru := sumTo_reidx u h.inj h.range h.cover
  have hcost : costTo c row m = sumTo (fun r => c r (pr r)) N := by
    rw [← hre]
    refine sumTo_congr (fun j j1 j2 => ?_)
    by_cases e : row j = 0
    · rw [if_pos e, if_pos e]
    · rw [if_neg e, if_neg e, hpr j j1 j2 e]
  have hcost2 : costTo c row m = sumTo u N + sumTo v m := by
    rw [← hru, ← sumTo_add]
    refine sumTo_congr (fun j j1 j2 => ?_)
    by_cases e : row j = 0
    · rw [if_pos e, if_pos e, h.free j j1 j2 e]; rfl
    · rw [if_neg e, if_neg e, h.tight j j1 j2 e]
  refine ⟨⟨h.feas, hub, hvb, fun r r1 r2 => ?_, fun r r' r1 r2 r1' r2' he => ?_, fun r r1 r2 => ?_, by rw [← hcost, hcost2]⟩, hcost⟩
  · obtain ⟨j, j1, j2, j3⟩ := h.cover r r1 r2
    have := hpr j j1 j2 (by omega)
    rw [j3] at this
    omega
  · obtain ⟨j, j1, j2, j3⟩ := h.cover r r1 r2
    obtain ⟨j', j1', j2', j3'⟩ := h.cover r' r1' r2'
    have e1 := hpr j j1 j2 (by omega)
    have e2 := hpr j' j1' j2' (by omega)
    rw [j3] at e1
    rw [j3'] at e2
    have : j = j' := by omega
    subst this
    omega
  · obtain ⟨j, j1, j2, j3⟩ := h.cover r r1 r2
    have e1 := hpr j j1 j2 (by omega)
    have e2 := h.tight j j1 j2 (by omega)
    rw [j3] at e1 e2
    rw [e1]; exact e2
/-- No assignment is cheaper than the prices say. -/
theorem Proof0.least {N m : Nat} {c : Nat → Nat → Int} {u v : Nat → Int} {pr : Nat → Nat} (h : Proof0 N m c u v pr) (q : Nat → Nat) (hq : ∀ r, 1 ≤ r → r ≤ N → 1 ≤ q r ∧ q r ≤ m)
    (hi : ∀ r r', 1 ≤ r → r ≤ N → 1 ≤ r' → r' ≤ N → q r = q r' → r = r') : sumTo (fun r => c r (pr r)) N ≤ sumTo (fun r => c r (q r)) N := by
  rw [h.sum]
  have h1 : sumTo (fun r => u r + v (q r)) N ≤ sumTo (fun r => c r (q r)) N := sumTo_le (fun r r1 r2 => h.feas.le r (q r) r1 r2 (hq r r1 r2).1 (hq r r1 r2).2)
  rw [sumTo_add] at h1
  have h2 : sumTo v m ≤ sumTo (fun r => v (q r)) N := by
    have e1 : sumTo (fun r => v (q r)) N = sumTo (fun r => sumTo (fun j => if q r = j then v j else 0) m) N := by
      refine sumTo_congr (fun r r1 r2 => ?_)
      rw [sumTo_one (q r) (hq r r1 r2).1 (hq r r1 r2).2 (fun j j1 j2 hj => if_neg (fun e => hj e.symm)), if_pos rfl]
    rw [e1, sumTo_swap]
    refine sumTo_le (fun j j1 j2 => ?_)
    have hv := h.feas.vneg j j1 j2
    by_cases e : ∃ r, 1 ≤ r ∧ r ≤ N ∧ q r = j
    · obtain ⟨r, r1, r2, r3⟩ := e
      rw [sumTo_one r r1 r2 (fun r' r1' r2' hr => if_neg (fun e => hr (hi r' r r1' r2' r1 r2 (by omega)))), if_pos r3]
      exact Int.le_refl _
    · rw [sumTo_congr (g := fun _ => 0) (fun r r1 r2 => if_neg (fun e' => e ⟨r, r1, r2, e'⟩)), sumTo_zero]
      exact hv
  omega
end Go.Proofs.Ytjggcnpnjnmamaa
