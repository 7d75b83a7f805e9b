/-
  The plain laws of a plan: it bears no error; no assignment is cheaper. No program in sight. Own text.
-/
import Derived.Test.YtjggcnpnjnmamaaAssign
import Derived.Test.YtjggcnpnjnmamaaProofV
namespace Go.Proofs.Ytjggcnpnjnmamaa
set_option linter.unusedVariables false
def lst (n : Nat) (f : Nat → Int) : List Int := (List.range n).map f
theorem lst_length (n : Nat) (f : Nat → Int) : (lst n f).length = n := by simp [lst]
theorem at0_lst {n i : Nat} (f : Nat → Int) (h : i < n) : at0 (lst n f) i = f i := by
  unfold at0 lst
  simp [List.getD_eq_getElem?_getD, h]
theorem sumN_congr {f g : Nat → Int} : ∀ {n : Nat}, (∀ q, q < n → f q = g q) → sumN f n = sumN g n := by
  intro n
  induction n with
  | zero => intro _; rfl
  | succ n ih =>
    intro h
    simp only [sumN]
    rw [ih (fun q hq => h q (by omega)), h n (by omega)]
theorem sumN_sumTo (f : Nat → Int) : ∀ n : Nat, sumN f n = sumTo (fun r => f (r - 1)) n := by
  intro n
  induction n with
  | zero => rfl
  | succ n ih => simp only [sumN, sumTo, ih, Nat.add_sub_cancel]
section
variable {rows : List (List Int)} {N m : Nat} {u v : Nat → Int} {pr : Nat → Nat} {press job fee : Nat → Int} {cost : Int}
theorem IsPlan.pressN (h : IsPlan N m (cOf rows) u v pr press job fee cost) {i : Nat} (hi : i < N) : 1 ≤ pr (i + 1) ∧ pr (i + 1) ≤ m ∧ press i = (pr (i + 1) : Int) - 1 ∧ (press i).toNat + 1 = pr (i + 1) := by
  have h1 := h.p0.prm (i + 1) (by omega) (by omega)
  have h2 := h.pr' i hi
  exact ⟨h1.1, h1.2, h2, by omega⟩
theorem IsPlan.costN (h : IsPlan N m (cOf rows) u v pr press job fee cost) : cost = sumN (fun i => cOf rows (i + 1) ((press i).toNat + 1)) N := by
  rw [h.cost', sumN_sumTo]
  refine sumTo_congr (fun r r1 r2 => ?_)
  have := h.pressN (i := r - 1) (by omega)
  have e : r - 1 + 1 = r := by omega
  rw [e] at this ⊢
  rw [this.2.2.2]
theorem IsPlan.sumsN (h : IsPlan N m (cOf rows) u v pr press job fee cost) : cost = sumN job N + sumN fee m := by
  rw [h.cost', h.p0.sum, sumN_sumTo, sumN_sumTo]
  congr 1
  · refine sumTo_congr (fun r r1 r2 => ?_)
    rw [h.job']
    congr 1
    omega
  · refine sumTo_congr (fun r r1 r2 => ?_)
    rw [h.fee']
    congr 1
    omega
/-- The plan bears no error. -/
theorem IsPlan.noErr (h : IsPlan N m (cOf rows) u v pr press job fee cost) (hN : N = rows.length) : proofErr rows m (lst N press) (lst N job) (lst m fee) cost = 0 := by
  have hl : LenOk rows m (lst N press) (lst N job) (lst m fee) := ⟨by rw [lst_length, hN], by rw [lst_length, hN], lst_length _ _⟩
  have e1 : firstErr (pressAt m (lst N press)) rows.length = 0 := firstErr_ok (fun q hq => by
    have hq' : q < N := by omega
    have hp := h.pressN hq'
    refine pressAt_ok (by rw [at0_lst press hq']; exact inB_yes (by omega) (by omega)) (fun q2 hq2 e => ?_)
    rw [at0_lst press hq', at0_lst press (by omega)] at e
    have hp2 := h.pressN (i := q2) (by omega)
    have := h.p0.inj (q2 + 1) (q + 1) (by omega) (by omega) (by omega) (by omega) (by omega)
    omega)
  have e2 : firstErr (priceAt (lst N job)) rows.length = 0 := firstErr_ok (fun q hq => by
    have hq' : q < N := by omega
    have hb := h.p0.ub (q + 1) (by omega) (by omega)
    refine priceAt_ok ?_
    rw [at0_lst job hq', h.job']
    exact inB_yes (by omega) (by omega))
  have e3 : firstErr (priceAt (lst m fee)) m = 0 := firstErr_ok (fun q hq => by
    have hb := h.p0.vb (q + 1) (by omega) (by omega)
    refine priceAt_ok ?_
    rw [at0_lst fee hq, h.fee']
    exact inB_yes (by omega) (by omega))
  have e4 : firstErr (fun i => firstErr (aboveAt rows (lst N job) (lst m fee) i) m) rows.length = 0 := firstErr_ok (fun i hi => firstErr_ok (fun j hj => by
    unfold aboveAt
    rw [at0_lst job (by omega), at0_lst fee hj, h.job', h.fee', if_neg]
    have := h.p0.feas.le (i + 1) (j + 1) (by omega) (by omega) (by omega) (by omega)
    omega))
  have e5 : firstErr (positiveAt (lst m fee)) m = 0 := firstErr_ok (fun j hj => by
    unfold positiveAt
    rw [at0_lst fee hj, h.fee', if_neg]
    have := h.p0.feas.vneg (j + 1) (by omega) (by omega)
    omega)
  rw [proofErr_6 hl e1 e2 e3 e4 e5, if_neg]
  have c1 : cost = costOf rows (lst N press) rows.length := by
    rw [h.costN, ← hN]
    exact sumN_congr (fun q hq => by rw [at0_lst press hq])
  have c2 : cost = sumN (at0 (lst N job)) rows.length + sumN (at0 (lst m fee)) m := by
    rw [h.sumsN, ← hN]
    congr 1
    · exact sumN_congr (fun q hq => (at0_lst job hq).symm)
    · exact sumN_congr (fun q hq => (at0_lst fee hq).symm)
  omega
/-- No assignment is cheaper: columns from 0. -/
theorem IsPlan.leastN (h : IsPlan N m (cOf rows) u v pr press job fee cost) (q : Nat → Nat) (hq : ∀ i, i < N → q i < m) (hi : ∀ i i', i < N → i' < N → q i = q i' → i = i') : cost ≤ sumN (fun i => cOf rows (i + 1) (q i + 1)) N := by
  have h1 := h.p0.least (fun r => q (r - 1) + 1) (fun r r1 r2 => by have := hq (r - 1) (by omega); omega) (fun r r' r1 r2 r1' r2' e => by
    have := hi (r - 1) (r' - 1) (by omega) (by omega) (by omega)
    omega)
  rw [h.cost', sumN_sumTo]
  refine Int.le_trans h1 (Int.le_of_eq (sumTo_congr (fun r r1 r2 => ?_)))
  have e : r - 1 + 1 = r := by omega
  rw [e]
/-- The columns of a shift are different. -/
theorem shift_inj {m s i i' : Nat} (hi : i < m) (hi' : i' < m) (h : (i + s) % m = (i' + s) % m) : i = i' := by
  have h1 := Nat.div_add_mod (i + s) m
  have h2 := Nat.div_add_mod (i' + s) m
  rw [h] at h1
  by_cases e : (i + s) / m = (i' + s) / m
  · rw [e] at h1; omega
  · rcases Nat.lt_or_ge ((i + s) / m) ((i' + s) / m) with hl | hl
    · have := Nat.mul_le_mul_left m (show (i + s) / m + 1 ≤ (i' + s) / m by omega)
      rw [Nat.mul_add, Nat.mul_one] at this
      omega
    · have := Nat.mul_le_mul_left m (show (i' + s) / m + 1 ≤ (i + s) / m by omega)
      rw [Nat.mul_add, Nat.mul_one] at this
      omega
theorem IsPlan.shifted (h : IsPlan N m (cOf rows) u v pr press job fee cost) (hN : N ≤ m) (s : Nat) : cost ≤ sumN (fun i => cOf rows (i + 1) ((i + s) % m + 1)) N :=
  h.leastN (fun i => (i + s) % m) (fun i hi => Nat.mod_lt _ (by omega)) (fun i i' hi hi' e => shift_inj (by omega) (by omega) e)
end
end Go.Proofs.Ytjggcnpnjnmamaa
