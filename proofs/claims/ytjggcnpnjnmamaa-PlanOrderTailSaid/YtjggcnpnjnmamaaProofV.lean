/-
  What is wrong with a proof: the first error, plain. No program in sight. Own text.
-/
import Derived.Test.YtjggcnpnjnmamaaAugV
import Derived.Test.YtjggcnpnjnmamaaNum
namespace Go.Proofs.Ytjggcnpnjnmamaa
set_option linter.unusedVariables false
/-- The first error of f 0, .., f (n - 1). -/
def firstErr (f : Nat → Int) : Nat → Int
  | 0 => 0
  | n + 1 => if firstErr f n = 0 then f n else firstErr f n
theorem firstErr_ok {f : Nat → Int} : ∀ {n : Nat}, (∀ q, q < n → f q = 0) → firstErr f n = 0 := by
  intro n
  induction n with
  | zero => intro _; rfl
  | succ n ih =>
    intro h
    simp only [firstErr]
    rw [if_pos (ih (fun q hq => h q (by omega)))]
    exact h n (by omega)
theorem firstErr_bad {f : Nat → Int} {k : Nat} {x : Int} (hx : f k = x) (h0 : x ≠ 0) (h : ∀ q, q < k → f q = 0) : ∀ {n : Nat}, k < n → firstErr f n = x := by
  intro n
  induction n with
  | zero => intro hk; omega
  | succ n ih =>
    intro hk
    simp only [firstErr]
    by_cases e : k = n
    · subst e
      rw [if_pos (firstErr_ok h)]
      exact hx
    · rw [ih (by omega), if_neg h0]
theorem firstErr_zero {f : Nat → Int} : ∀ {n : Nat}, firstErr f n = 0 → ∀ q, q < n → f q = 0 := by
  intro n
  induction n with
  | zero => intro _ q hq; omega
  | succ n ih =>
    intro h q hq
    simp only [firstErr] at h
    by_cases e : firstErr f n = 0
    · rw [if_pos e] at h
      by_cases e2 : q = n
      · subst e2; exact h
      · exact ih e q (by omega)
    · rw [if_neg e] at h
      exact absurd h e
/-- The first k bear no error. -/
def NoErr (f : Nat → Int) (k : Nat) : Prop := ∀ q, q < k → f q = 0
theorem NoErr.zero (f : Nat → Int) : NoErr f 0 := fun q h => by omega
theorem NoErr.succ {f : Nat → Int} {k : Nat} (h : NoErr f k) (hk : f k = 0) : NoErr f (k + 1) := fun q hq => by
  by_cases e : q = k
  · subst e; exact hk
  · exact h q (by omega)
theorem NoErr.all {f : Nat → Int} {n : Nat} (h : NoErr f n) : firstErr f n = 0 := firstErr_ok h
theorem NoErr.bad {f : Nat → Int} {k n : Nat} {x : Int} (h : NoErr f k) (hx : f k = x) (h0 : x ≠ 0) (hk : k < n) : firstErr f n = x := firstErr_bad hx h0 h hk
def at0 (l : List Int) (i : Nat) : Int := l.getD i 0
theorem at0_eq {l : List Int} {i : Nat} (h : i < l.length) : l[i] = at0 l i := by
  unfold at0
  simp [List.getD_eq_getElem?_getD, h]
/-- f 0 + .. + f (n - 1). -/
def sumN (f : Nat → Int) : Nat → Int
  | 0 => 0
  | n + 1 => sumN f n + f n
theorem sumN_bd {f : Nat → Int} {B : Int} : ∀ {n : Nat}, (∀ q, q < n → -B ≤ f q ∧ f q ≤ B) → -(B * n) ≤ sumN f n ∧ sumN f n ≤ B * n := by
  intro n
  induction n with
  | zero => intro _; simp [sumN]
  | succ n ih =>
    intro h
    have h1 := ih (fun q hq => h q (by omega))
    have h2 := h n (by omega)
    have e : B * ((n + 1 : Nat) : Int) = B * n + B := by rw [Int.natCast_succ, Int.mul_add, Int.mul_one]
    simp only [sumN]
    omega
def okP (x : Int) : Bool := inB x (-12582912) 12582912
def pressAt (m : Nat) (press : List Int) (k : Nat) : Int :=
  if inB (at0 press k) 0 ((m : Int) - 1) = true then (if (List.range k).any (fun q => at0 press q == at0 press k) = true then 7 else 0) else 3
theorem pressAt_range {m : Nat} {press : List Int} {k : Nat} (h : inB (at0 press k) 0 ((m : Int) - 1) = false) : pressAt m press k = 3 := by
  unfold pressAt; rw [if_neg (by rw [h]; decide)]
theorem pressAt_twice {m : Nat} {press : List Int} {k q : Nat} (h : inB (at0 press k) 0 ((m : Int) - 1) = true) (hq : q < k) (he : at0 press q = at0 press k) : pressAt m press k = 7 := by
  unfold pressAt
  rw [if_pos h, if_pos]
  rw [List.any_eq_true]
  exact ⟨q, List.mem_range.2 hq, by rw [he]; simp⟩
theorem pressAt_ok {m : Nat} {press : List Int} {k : Nat} (h : inB (at0 press k) 0 ((m : Int) - 1) = true) (hq : ∀ q, q < k → at0 press q ≠ at0 press k) : pressAt m press k = 0 := by
  unfold pressAt
  rw [if_pos h, if_neg]
  rw [List.any_eq_true]
  rintro ⟨q, h1, h2⟩
  exact hq q (List.mem_range.1 h1) (by simpa using h2)
theorem pressAt_zero {m : Nat} {press : List Int} {k : Nat} (h : pressAt m press k = 0) : (0 ≤ at0 press k ∧ at0 press k ≤ (m : Int) - 1) ∧ ∀ q, q < k → at0 press q ≠ at0 press k := by
  unfold pressAt at h
  split at h
  · rename_i h1
    split at h
    · cases h
    · rename_i h2
      refine ⟨inB_true h1, fun q hq e => h2 ?_⟩
      rw [List.any_eq_true]
      exact ⟨q, List.mem_range.2 hq, by rw [e]; simp⟩
  · cases h
def priceAt (l : List Int) (k : Nat) : Int := if okP (at0 l k) = true then 0 else 3
theorem priceAt_ok {l : List Int} {k : Nat} (h : okP (at0 l k) = true) : priceAt l k = 0 := if_pos h
theorem priceAt_bad {l : List Int} {k : Nat} (h : okP (at0 l k) = false) : priceAt l k = 3 := if_neg (by rw [h]; decide)
theorem priceAt_zero {l : List Int} {k : Nat} (h : priceAt l k = 0) : -12582912 ≤ at0 l k ∧ at0 l k ≤ 12582912 := by
  unfold priceAt at h
  split at h
  · rename_i h1; exact inB_true h1
  · cases h
def aboveAt (rows : List (List Int)) (job fee : List Int) (i j : Nat) : Int := if cOf rows (i + 1) (j + 1) < at0 job i + at0 fee j then 20 else 0
def positiveAt (fee : List Int) (j : Nat) : Int := if 0 < at0 fee j then 20 else 0
def costOf (rows : List (List Int)) (press : List Int) (n : Nat) : Int := sumN (fun i => cOf rows (i + 1) ((at0 press i).toNat + 1)) n
def orE (a b : Int) : Int := if a = 0 then b else a
theorem orE_zero {a b : Int} (h : a = 0) : orE a b = b := if_pos h
theorem orE_ne {a b x : Int} (h : a = x) (h0 : x ≠ 0) : orE a b = x := by unfold orE; rw [h, if_neg h0]
/-- The first error of a proof for a valid table. -/
def proofErr (rows : List (List Int)) (m : Nat) (press job fee : List Int) (cost : Int) : Int :=
  if press.length ≠ rows.length ∨ job.length ≠ rows.length ∨ fee.length ≠ m then 4
  else orE (firstErr (pressAt m press) rows.length) (orE (firstErr (priceAt job) rows.length) (orE (firstErr (priceAt fee) m) (orE (firstErr (fun i => firstErr (aboveAt rows job fee i) m) rows.length) (orE (firstErr (positiveAt fee) m)
    (if cost ≠ costOf rows press rows.length ∨ cost ≠ sumN (at0 job) rows.length + sumN (at0 fee) m then 11 else 0)))))
section
variable {rows : List (List Int)} {m : Nat} {press job fee : List Int} {cost x : Int}
theorem proofErr_len (h : press.length ≠ rows.length ∨ job.length ≠ rows.length ∨ fee.length ≠ m) : proofErr rows m press job fee cost = 4 := if_pos h
/-- The lengths fit. -/
def LenOk (rows : List (List Int)) (m : Nat) (press job fee : List Int) : Prop := press.length = rows.length ∧ job.length = rows.length ∧ fee.length = m
theorem proofErr_1 (hl : LenOk rows m press job fee) (h1 : firstErr (pressAt m press) rows.length = x) (h0 : x ≠ 0) : proofErr rows m press job fee cost = x := by
  obtain ⟨l1, l2, l3⟩ := hl
  unfold proofErr; rw [if_neg (by omega), orE_ne h1 h0]
theorem proofErr_2 (hl : LenOk rows m press job fee) (h1 : firstErr (pressAt m press) rows.length = 0) (h2 : firstErr (priceAt job) rows.length = x) (h0 : x ≠ 0) : proofErr rows m press job fee cost = x := by
  obtain ⟨l1, l2, l3⟩ := hl
  unfold proofErr; rw [if_neg (by omega), orE_zero h1, orE_ne h2 h0]
theorem proofErr_3 (hl : LenOk rows m press job fee) (h1 : firstErr (pressAt m press) rows.length = 0) (h2 : firstErr (priceAt job) rows.length = 0) (h3 : firstErr (priceAt fee) m = x) (h0 : x ≠ 0) : proofErr rows m press job fee cost = x := by
  obtain ⟨l1, l2, l3⟩ := hl
  unfold proofErr; rw [if_neg (by omega), orE_zero h1, orE_zero h2, orE_ne h3 h0]
theorem proofErr_4 (hl : LenOk rows m press job fee) (h1 : firstErr (pressAt m press) rows.length = 0) (h2 : firstErr (priceAt job) rows.length = 0) (h3 : firstErr (priceAt fee) m = 0) (h4 : firstErr (fun i => firstErr (aboveAt rows job fee i) m) rows.length = x) (h0 : x ≠ 0) : proofErr rows m press job fee cost = x := by
  obtain ⟨l1, l2, l3⟩ := hl
  unfold proofErr; rw [if_neg (by omega), orE_zero h1, orE_zero h2, orE_zero h3, orE_ne h4 h0]
theorem proofErr_5 (hl : LenOk rows m press job fee) (h1 : firstErr (pressAt m press) rows.length = 0) (h2 : firstErr (priceAt job) rows.length = 0) (h3 : firstErr (priceAt fee) m = 0) (h4 : firstErr (fun i => firstErr (aboveAt rows job fee i) m) rows.length = 0) (h5 : firstErr (positiveAt fee) m = x) (h0 : x ≠ 0) : proofErr rows m press job fee cost = x := by
  obtain ⟨l1, l2, l3⟩ := hl
  unfold proofErr; rw [if_neg (by omega), orE_zero h1, orE_zero h2, orE_zero h3, orE_zero h4, orE_ne h5 h0]
theorem proofErr_6 (hl : LenOk rows m press job fee) (h1 : firstErr (pressAt m press) rows.length = 0) (h2 : firstErr (priceAt job) rows.length = 0) (h3 : firstErr (priceAt fee) m = 0) (h4 : firstErr (fun i => firstErr (aboveAt rows job fee i) m) rows.length = 0) (h5 : firstErr (positiveAt fee) m = 0) :
    proofErr rows m press job fee cost = if cost ≠ costOf rows press rows.length ∨ cost ≠ sumN (at0 job) rows.length + sumN (at0 fee) m then 11 else 0 := by
  obtain ⟨l1, l2, l3⟩ := hl
  unfold proofErr; rw [if_neg (by omega), orE_zero h1, orE_zero h2, orE_zero h3, orE_zero h4, orE_zero h5]
theorem orE_both {a b : Int} (h : orE a b = 0) : a = 0 ∧ b = 0 := by
  unfold orE at h
  by_cases e : a = 0
  · rw [if_pos e] at h; exact ⟨e, h⟩
  · rw [if_neg e] at h; exact absurd h e
/-- A proof without error. -/
theorem proofErr_zero (h : proofErr rows m press job fee cost = 0) : LenOk rows m press job fee ∧ (∀ q, q < rows.length → pressAt m press q = 0) ∧ (∀ q, q < rows.length → priceAt job q = 0) ∧ (∀ q, q < m → priceAt fee q = 0) ∧ (∀ i, i < rows.length → ∀ j, j < m → at0 job i + at0 fee j ≤ cOf rows (i + 1) (j + 1)) ∧ (∀ j, j < m → at0 fee j ≤ 0) ∧ cost = costOf rows press rows.length ∧ cost = sumN (at0 job) rows.length + sumN (at0 fee) m := by
  unfold proofErr at h
  split at h
  · cases h
  · rename_i hl
    obtain ⟨h1, h⟩ := orE_both h
    obtain ⟨h2, h⟩ := orE_both h
    obtain ⟨h3, h⟩ := orE_both h
    obtain ⟨h4, h⟩ := orE_both h
    obtain ⟨h5, h⟩ := orE_both h
    split at h
    · cases h
    · rename_i h6
      refine ⟨⟨by omega, by omega, by omega⟩, firstErr_zero h1, firstErr_zero h2, firstErr_zero h3, fun i hi j hj => ?_, fun j hj => ?_, by omega, by omega⟩
      · have := firstErr_zero (firstErr_zero h4 i hi) j hj
        unfold aboveAt at this
        split at this
        · cases this
        · omega
      · have := firstErr_zero h5 j hj
        unfold positiveAt at this
        split at this
        · cases this
        · omega
end
theorem sumN_prices {l : List Int} {k : Nat} (h : NoErr (priceAt l) k) : -(12582912 * (k : Int)) ≤ sumN (at0 l) k ∧ sumN (at0 l) k ≤ 12582912 * k := sumN_bd (fun q hq => priceAt_zero (h q hq))
theorem costOf_bd {rows : List (List Int)} {m : Nat} (hG : GoodCosts rows m) (press : List Int) (k : Nat) : 0 ≤ costOf rows press k ∧ costOf rows press k ≤ 1048576 * k := by
  induction k with
  | zero => simp [costOf, sumN]
  | succ k ih =>
    have h := hG.c (k + 1) ((at0 press k).toNat + 1)
    have e : costOf rows press (k + 1) = costOf rows press k + cOf rows (k + 1) ((at0 press k).toNat + 1) := rfl
    omega
end Go.Proofs.Ytjggcnpnjnmamaa
