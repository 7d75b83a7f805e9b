/-
  The cheapest order without its first job; and sets as numbers. Plain. No program in sight. Own text.
-/
import Derived.Test.YtjggcnpnjnmamaaWashV
namespace Go.Proofs.Ytjggcnpnjnmamaa
set_option linter.unusedVariables false
/-- The jobs without job a: their numbers before. -/
def skp (a j : Nat) : Nat := if j < a then j else j + 1
theorem skp_ne {a j : Nat} : skp a j ≠ a := by unfold skp; split <;> omega
theorem skp_inj {a i j : Nat} (h : skp a i = skp a j) : i = j := by
  unfold skp at h
  split at h <;> split at h <;> omega
theorem skp_lt {a j n : Nat} (h : j < n) : skp a j < n + 1 := by unfold skp; split <;> omega
def skI (a : Nat) (x : Int) : Int := if x < a then x else x + 1
theorem skI_nat {a j : Nat} : skI a (j : Int) = (skp a j : Nat) := by
  unfold skI skp
  by_cases h : j < a
  · rw [if_pos h, if_pos (by omega)]
  · rw [if_neg h, if_neg (by omega)]; rfl
/-- The table without job a, as the program makes it. -/
structure Without (first : List Int) (W : List (List Int)) (n a : Nat) (f' : List Int) (W' : List (List Int)) : Prop where
  f : ∀ j, j < n → at0 f' j = cOf W (a + 1) (skp a j + 1)
  w : ∀ i j, i < n → j < n → cOf W' (i + 1) (j + 1) = cOf W (skp a i + 1) (skp a j + 1)
theorem wshTo_skip {used used' : Nat → Bool} {c c' : Nat → Int} {r r' : Nat → Int × List Int} {a n : Nat} (ha : a ≤ n) (hu : used a = true) (hu' : ∀ j, used' j = used (skp a j))
    (hc : ∀ j, j < n → c' j = c (skp a j)) (hr : ∀ j, j < n → used' j = false → r (skp a j) = ((r' j).1, (r' j).2.map (skI a))) :
    ∀ q, q ≤ n → wshTo used c r (if q ≤ a then q else q + 1) = ((wshTo used' c' r' q).1, (wshTo used' c' r' q).2.map (skI a)) := by
  have key : ∀ q, q < n → wshTo used c r (skp a q) = ((wshTo used' c' r' q).1, (wshTo used' c' r' q).2.map (skI a)) → wshTo used c r (skp a q + 1) = ((wshTo used' c' r' (q + 1)).1, (wshTo used' c' r' (q + 1)).2.map (skI a)) := by
    intro q hq h
    simp only [wshTo]
    rw [h, hu' q]
    by_cases e : used (skp a q) = true
    · rw [if_pos e, if_pos e]
    · rw [if_neg e, if_neg e, hr q hq (by rw [hu' q]; simpa using e), ← hc q hq]
      simp only
      split
      · simp [skI_nat]
      · rfl
  intro q
  induction q with
  | zero => intro _; simp [wshTo]
  | succ q ih =>
    intro hq
    have ih := ih (by omega)
    by_cases h1 : q < a
    · rw [if_pos (by omega)] at ih ⊢
      have e : skp a q = q := by unfold skp; rw [if_pos h1]
      have := key q (by omega) (by rw [e]; exact ih)
      rw [e] at this
      exact this
    · have e : skp a q = q + 1 := by unfold skp; rw [if_neg h1]
      rw [if_neg (by omega)]
      have h2 : wshTo used c r (q + 1) = ((wshTo used' c' r' q).1, (wshTo used' c' r' q).2.map (skI a)) := by
        by_cases e2 : q = a
        · rw [if_pos (by omega)] at ih
          rw [← ih]
          simp only [wshTo]
          rw [if_pos (by rw [e2]; exact hu)]
        · rw [if_neg (by omega)] at ih
          exact ih
      have := key q (by omega) (by rw [e]; exact h2)
      rw [e] at this
      exact this
/-- Behind the first job, the order is that of the table without it. -/
theorem wsh_skip {first : List Int} {W : List (List Int)} {f' : List Int} {W' : List (List Int)} {a n : Nat} (ha : a ≤ n) (hW : Without first W n a f' W') :
    ∀ (d : Nat) (used used' : Nat → Bool) (l l' : Int), used a = true → (∀ j, used' j = used (skp a j)) → ((l' = -1 ∧ l = a) ∨ ∃ i : Nat, i < n ∧ l' = i ∧ l = (skp a i : Nat)) →
    wsh first W (n + 1) d used l = ((wsh f' W' n d used' l').1, (wsh f' W' n d used' l').2.map (skI a)) := by
  intro d
  induction d with
  | zero => intro used used' l l' _ _ _; rfl
  | succ d ih =>
    intro used used' l l' hu hu' hl
    simp only [wsh]
    have h := wshTo_skip (used := used) (used' := used') (c := cst first W l) (c' := cst f' W' l') (r := fun j => wsh first W (n + 1) d (useC used j) j) (r' := fun j => wsh f' W' n d (useC used' j) j) (n := n) ha hu hu' (fun j hj => by
      unfold cst
      rcases hl with ⟨h1, h2⟩ | ⟨i, i0, h1, h2⟩
      · subst h1 h2
        rw [if_pos (by decide), if_neg (by omega), hW.f j hj]
        simp
      · subst h1 h2
        rw [if_neg (by omega), if_neg (by omega)]
        simp only [Int.toNat_natCast]
        exact hW.w i j i0 hj) (fun j hj hf => by
      refine ih (useC used (skp a j)) (useC used' j) _ _ ?_ (fun i => ?_) (.inr ⟨j, hj, rfl, rfl⟩)
      · unfold useC
        rw [if_neg (fun e => skp_ne e.symm)]
        exact hu
      · unfold useC
        by_cases e : i = j
        · rw [if_pos e, if_pos (by rw [e])]
        · rw [if_neg e, if_neg (fun e2 => e (skp_inj e2))]
          exact hu' i) n (Nat.le_refl _)
    rw [← h]
    by_cases e : n = a
    · subst e
      rw [if_pos (Nat.le_refl _)]
      simp only [wshTo]
      rw [if_pos hu]
    · rw [if_neg (by omega)]
/-! ### Sets as numbers -/
def bits (s : Nat) (j : Nat) : Bool := s.testBit j
theorem bits_or {s k : Nat} : bits (s ||| 2 ^ k) = useC (bits s) k := by
  funext i
  unfold bits useC
  rw [Nat.testBit_or, Nat.testBit_two_pow]
  by_cases e : i = k
  · rw [if_pos e]; simp [e]
  · rw [if_neg e]
    have : ¬ k = i := fun h => e h.symm
    simp [this]
theorem bits_or_lt {s k n : Nat} (hs : s < 2 ^ n) (hk : k < n) : s ||| 2 ^ k < 2 ^ n := Nat.or_lt_two_pow hs (Nat.pow_lt_pow_right (by omega) hk)
theorem bits_or_gt {s k : Nat} (h : bits s k = false) : s < s ||| 2 ^ k := by
  have h1 : s ≤ s ||| 2 ^ k := Nat.left_le_or
  have h2 : s ≠ s ||| 2 ^ k := by
    intro e
    have h3 : bits s k = bits (s ||| 2 ^ k) k := by rw [← e]
    rw [bits_or, h] at h3
    unfold useC at h3
    rw [if_pos rfl] at h3
    cases h3
  omega
theorem bits_zero : bits 0 = fun _ => false := by funext i; simp [bits]
theorem freeN_zero {n : Nat} : freeN (bits 0) n = n := by
  rw [bits_zero]
  induction n with
  | zero => rfl
  | succ n ih => simp [freeN, ih]
/-- Nothing is left: the set is full. -/
theorem freeN_full {s n : Nat} (hs : s < 2 ^ n) (h : freeN (bits s) n = 0) : s = 2 ^ n - 1 := by
  have h1 : ∀ q, freeN (bits s) q = 0 → ∀ j, j < q → bits s j = true := by
    intro q
    induction q with
    | zero => intro _ j hj; omega
    | succ q ih =>
      intro h j hj
      simp only [freeN] at h
      by_cases e : j = q
      · subst e
        by_cases hb : bits s j = true
        · exact hb
        · rw [if_neg hb] at h; omega
      · exact ih (by omega) j (by omega)
  apply Nat.eq_of_testBit_eq
  intro i
  rw [Nat.testBit_two_pow_sub_one]
  by_cases e : i < n
  · have := h1 n h i e
    unfold bits at this
    rw [this]; simp [e]
  · have hp : 2 ^ n ≤ 2 ^ i := Nat.pow_le_pow_right (by omega) (by omega)
    rw [Nat.testBit_lt_two_pow (by omega)]
    simp [e]
theorem freeN_all {n : Nat} : freeN (bits (2 ^ n - 1)) n = 0 := by
  have : ∀ q, q ≤ n → freeN (bits (2 ^ n - 1)) q = 0 := by
    intro q
    induction q with
    | zero => intro _; rfl
    | succ q ih =>
      intro h
      simp only [freeN]
      rw [ih (by omega)]
      have : bits (2 ^ n - 1) q = true := by unfold bits; rw [Nat.testBit_two_pow_sub_one]; simp; omega
      rw [if_pos this]
  exact this n (Nat.le_refl _)
end Go.Proofs.Ytjggcnpnjnmamaa
