/-
  The reference's cost of plates, and insertion sorts walked: plain laws. No program in sight. Own text.
-/
import Derived.Test.YtobmpleddhcloaaDivV
namespace Go.Proofs.Ytobmpleddhcloaa
open Go.RowKit
set_option linter.unusedVariables false
/-! ### An insertion under way -/
section
variable {α : Type} [Inhabited α]
structure Ins (lt : α → α → Bool) (x : α) (L R : List α) (j : Nat) (A : List α) : Prop where
  eq : A = insAt x L j ++ R
  to' : slot lt x L j = slot lt x L L.length
  le : j ≤ L.length
variable {lt : α → α → Bool} {x : α} {L R A : List α} {j : Nat}
theorem Ins.start : Ins lt x L R L.length (L ++ x :: R) := ⟨by rw [insAt_end]; simp, rfl, Nat.le_refl _⟩
theorem Ins.len (h : Ins lt x L R j A) : A.length = L.length + 1 + R.length := by rw [h.eq, List.length_append, insAt_len]
theorem Ins.at' (h : Ins lt x L R j A) : A[j]? = some x := by rw [h.eq]; exact insAt_at x L R j h.le
theorem Ins.prev (h : Ins lt x L R (j + 1) A) (hj : j < L.length) : A[j]? = some L[j] := by rw [h.eq]; exact insAt_prev x L R j hj
theorem Ins.step (h : Ins lt x L R (j + 1) A) (hj : j < L.length) (hl : lt x L[j] = true) : Ins lt x L R j ((A.set (j + 1) L[j]).set j x) := by
  refine ⟨by rw [h.eq]; exact insAt_swap x L R j hj, ?_, by omega⟩
  rw [← h.to']
  show _ = if lt x (L.getD j default) then slot lt x L j else j + 1
  rw [getD_at hj, if_pos hl]
theorem Ins.stop (h : Ins lt x L R (j + 1) A) (hj : j < L.length) (hl : ¬ lt x L[j] = true) : A = insL lt x L ++ R := by
  have e : slot lt x L (j + 1) = j + 1 := by
    show (if lt x (L.getD j default) then slot lt x L j else j + 1) = _
    rw [getD_at hj, if_neg hl]
  unfold insL
  rw [← h.to', e]
  exact h.eq
theorem Ins.zero (h : Ins lt x L R 0 A) : A = insL lt x L ++ R := by
  unfold insL
  rw [← h.to']
  exact h.eq
end
theorem getElem_of {α : Type} {l : List α} {i : Nat} {x : α} (h : l[i]? = some x) : ∃ h' : i < l.length, l[i] = x := List.getElem?_eq_some_iff.1 h
/-! ### Masks -/
/-- The plates that a mask cuts, up to job i: cost, where the plate under way begins, whether all of them fit. -/
def cutTo (V : List Int) (s p : Int) (f : Nat → Bool) : Nat → Int × Nat × Bool
  | 0 => (0, 0, true)
  | i + 1 => if i + 1 < V.length ∧ f i = false then cutTo V s p f i
      else ((cutTo V s p f i).1 + (p + runV V s (cutTo V s p f i).2.1 (i + 1)), i + 1, (cutTo V s p f i).2.2 && decide (0 < runV V s (cutTo V s p f i).2.1 (i + 1)))
theorem cutTo_skip {V : List Int} {s p : Int} {f : Nat → Bool} {i : Nat} (h : i + 1 < V.length) (hf : f i = false) : cutTo V s p f (i + 1) = cutTo V s p f i := if_pos ⟨h, hf⟩
theorem cutTo_cut {V : List Int} {s p : Int} {f : Nat → Bool} {i : Nat} (h : ¬ (i + 1 < V.length ∧ f i = false)) : cutTo V s p f (i + 1) = ((cutTo V s p f i).1 + (p + runV V s (cutTo V s p f i).2.1 (i + 1)), i + 1, (cutTo V s p f i).2.2 && decide (0 < runV V s (cutTo V s p f i).2.1 (i + 1))) := if_neg h
theorem cutTo_congr {V : List Int} {s p : Int} {f g : Nat → Bool} (h : ∀ i, i + 1 < V.length → f i = g i) : ∀ i, cutTo V s p f i = cutTo V s p g i := by
  intro i
  induction i with
  | zero => rfl
  | succ i ih =>
    by_cases hi : i + 1 < V.length
    · by_cases hf : f i = false
      · rw [cutTo_skip hi hf, cutTo_skip hi (by rw [← h i hi]; exact hf), ih]
      · rw [cutTo_cut (fun e => hf e.2), cutTo_cut (fun e => hf (by rw [h i hi]; exact e.2)), ih]
    · rw [cutTo_cut (fun e => hi e.1), cutTo_cut (fun e => hi e.1), ih]
theorem runV_fit {V : List Int} {s : Int} (hd : Demands V) {i k : Nat} (h1 : i ≤ k) (h2 : k ≤ V.length) : 0 ≤ runV V s i k ∧ runV V s i k ≤ 1048576 ∧ (0 < runV V s i k → ((k - i : Nat) : Int) ≤ s) := by
  by_cases h : s < ((k - i : Nat) : Int)
  · rw [runV_zero h1 h2 h]
    omega
  · have := runV_least hd h1 h2 (by omega : ((k - i : Nat) : Int) ≤ s)
    omega
theorem cutTo_bd {V : List Int} {s p : Int} (hd : Demands V) (hp : 0 ≤ p ∧ p ≤ 1048576) (f : Nat → Bool) : ∀ i, i ≤ V.length → (cutTo V s p f i).2.1 ≤ i ∧ 0 ≤ (cutTo V s p f i).1 ∧ (cutTo V s p f i).1 ≤ i * 2097152 := by
  intro i
  induction i with
  | zero => intro _; exact ⟨Nat.le_refl _, Int.le_refl _, Int.le_refl _⟩
  | succ i ih =>
    intro h
    obtain ⟨h1, h2, h3⟩ := ih (by omega)
    by_cases hc : i + 1 < V.length ∧ f i = false
    · rw [cutTo_skip hc.1 hc.2]; omega
    · rw [cutTo_cut hc]
      have hr := runV_fit (s := s) hd (show (cutTo V s p f i).2.1 ≤ i + 1 by omega) h
      show i + 1 ≤ i + 1 ∧ 0 ≤ (cutTo V s p f i).1 + _ ∧ (cutTo V s p f i).1 + _ ≤ _
      generalize runV V s (cutTo V s p f i).2.1 (i + 1) = r at *
      omega
theorem cutTo_div {V : List Int} {s p : Int} (hd : Demands V) (hp : 0 ≤ p ∧ p ≤ 1048576) (f : Nat → Bool) : ∀ i, i ≤ V.length → (cutTo V s p f i).2.2 = true → ∀ c, DivFrom V s p (cutTo V s p f i).2.1 c → DivFrom V s p 0 ((cutTo V s p f i).1 + c) := by
  intro i
  induction i with
  | zero =>
    intro _ _ c h
    have e : (0 : Int) + c = c := by omega
    show DivFrom V s p 0 (0 + c)
    rw [e]; exact h
  | succ i ih =>
    intro h hok c hc
    obtain ⟨h1, _, _⟩ := cutTo_bd (s := s) hd hp f i (by omega)
    by_cases hk : i + 1 < V.length ∧ f i = false
    · rw [cutTo_skip hk.1 hk.2] at hok hc ⊢
      exact ih (by omega) hok c hc
    · rw [cutTo_cut hk] at hok hc ⊢
      simp only [Bool.and_eq_true, decide_eq_true_eq] at hok
      have hr := runV_fit (s := s) hd (show (cutTo V s p f i).2.1 ≤ i + 1 by omega) h
      have := ih (by omega) hok.1 _ (DivFrom.cons (by omega) h (hr.2.2 hok.2) hc)
      have e : (cutTo V s p f i).1 + (p + runV V s (cutTo V s p f i).2.1 (i + 1)) + c = (cutTo V s p f i).1 + (p + runV V s (cutTo V s p f i).2.1 (i + 1) + c) := by omega
      show DivFrom V s p 0 ((cutTo V s p f i).1 + (p + runV V s (cutTo V s p f i).2.1 (i + 1)) + c)
      rw [e]
      exact this
theorem cutTo_from {V : List Int} {s p : Int} (f : Nat → Bool) (h : 1 ≤ V.length) : (cutTo V s p f V.length).2.1 = V.length := by
  obtain ⟨m, hm⟩ : ∃ m, V.length = m + 1 := ⟨V.length - 1, by omega⟩
  have e := cutTo_cut (V := V) (s := s) (p := p) (f := f) (i := m) (by omega)
  rw [hm, e]
theorem cut_div {V : List Int} {s p : Int} (hd : Demands V) (hp : 0 ≤ p ∧ p ≤ 1048576) (h : 1 ≤ V.length) (f : Nat → Bool) (hok : (cutTo V s p f V.length).2.2 = true) : DivFrom V s p 0 (cutTo V s p f V.length).1 := by
  have h1 := cutTo_div (s := s) hd hp f V.length (Nat.le_refl _) hok 0 (by rw [cutTo_from f h]; exact .nil)
  have e : (cutTo V s p f V.length).1 + 0 = (cutTo V s p f V.length).1 := by omega
  rwa [e] at h1
/-- Where the best plate of job i begins. -/
def beg (N : Nat → Nat) : Nat → Nat
  | 0 => 0
  | i + 1 => if N (beg N i) = i + 1 then i + 1 else beg N i
theorem beg_le (N : Nat → Nat) : ∀ i, beg N i ≤ i := by
  intro i
  induction i with
  | zero => exact Nat.le_refl _
  | succ i ih => unfold beg; split <;> omega
theorem beg_next {V : List Int} {s p : Int} {B : Nat → Int} {N : Nat → Nat} (hB : BestFrom V s p B N 0) : ∀ i, i < V.length → i < N (beg N i) := by
  intro i
  induction i with
  | zero => intro h; exact (hB.at' 0 (Nat.le_refl _) h).lo
  | succ i ih =>
    intro h
    have h1 := ih (by omega)
    unfold beg
    split
    · exact (hB.at' (i + 1) (by omega) h).lo
    · omega
theorem best_cut {V : List Int} {s p : Int} {B : Nat → Int} {N : Nat → Nat} (hd : Demands V) (hB : BestFrom V s p B N 0) : ∀ i, i ≤ V.length → cutTo V s p (fun i => decide (N (beg N i) = i + 1)) i = (B 0 - B (beg N i), beg N i, true) := by
  intro i
  induction i with
  | zero => intro _; show (0, 0, true) = (B 0 - B 0, 0, true); rw [Int.sub_self]
  | succ i ih =>
    intro h
    have h1 := ih (by omega)
    have h2 := beg_next hB i (by omega)
    have h3 := beg_le N i
    have h4 := hB.at' (beg N i) (by omega) (by omega)
    have h5 := h4.hi
    have h6 := h4.eq
    have h7 := runV_least hd (Nat.le_of_lt h4.lo) h5 h4.fit
    unfold costV at h6
    by_cases hc : N (beg N i) = i + 1
    · have e : beg N (i + 1) = i + 1 := if_pos hc
      rw [cutTo_cut (by simp [hc]), h1, e]
      rw [hc] at h6 h7
      refine Prod.ext ?_ (Prod.ext rfl ?_)
      · show B 0 - B (beg N i) + (p + runV V s (beg N i) (i + 1)) = B 0 - B (i + 1)
        omega
      · show (true && decide (0 < runV V s (beg N i) (i + 1))) = true
        have : 0 < runV V s (beg N i) (i + 1) := by omega
        simp [this]
    · have e : beg N (i + 1) = beg N i := if_neg hc
      rw [cutTo_skip (by omega) (by simp [hc]), h1, e]
theorem bits_exist (f : Nat → Bool) : ∀ n, ∃ q, q < 2 ^ n ∧ ∀ i, i < n → q.testBit i = f i := by
  intro n
  induction n with
  | zero => exact ⟨0, by omega, fun i h => by omega⟩
  | succ n ih =>
    obtain ⟨q, hq, hb⟩ := ih
    cases hf : f n with
    | false =>
      refine ⟨q, by omega, fun i hi => ?_⟩
      by_cases e : i = n
      · subst e; rw [hf]; exact Nat.testBit_lt_two_pow hq
      · exact hb i (by omega)
    | true =>
      refine ⟨q ||| 2 ^ n, Nat.or_lt_two_pow (by omega) (by omega), fun i hi => ?_⟩
      rw [Nat.testBit_or, Nat.testBit_two_pow]
      by_cases e : i = n
      · subst e; rw [hf]; simp
      · rw [hb i (by omega)]
        simp [show ¬ n = i by omega]
/-- The best of the first k masks. -/
def MaskBest (V : List Int) (s p : Int) (k : Nat) (b : Int) : Prop :=
  (b = -1 ∧ ∀ q, q < k → (cutTo V s p q.testBit V.length).2.2 = false) ∨
  (0 ≤ b ∧ b ≤ V.length * 2097152 ∧ DivFrom V s p 0 b ∧ ∀ q, q < k → (cutTo V s p q.testBit V.length).2.2 = true → b ≤ (cutTo V s p q.testBit V.length).1)
theorem MaskBest.start (V : List Int) (s p : Int) : MaskBest V s p 0 (-1) := .inl ⟨rfl, fun q h => by omega⟩
theorem MaskBest.no {V : List Int} {s p : Int} {k : Nat} {b : Int} (h : MaskBest V s p k b) (hk : (cutTo V s p k.testBit V.length).2.2 = false) : MaskBest V s p (k + 1) b := by
  rcases h with ⟨h1, h2⟩ | ⟨h1, h2, h3, h4⟩
  · refine .inl ⟨h1, fun q hq => ?_⟩
    by_cases e : q = k
    · subst e; exact hk
    · exact h2 q (by omega)
  · refine .inr ⟨h1, h2, h3, fun q hq ho => ?_⟩
    by_cases e : q = k
    · subst e; rw [hk] at ho; cases ho
    · exact h4 q (by omega) ho
theorem MaskBest.take {V : List Int} {s p : Int} {k : Nat} {b : Int} (hd : Demands V) (hp : 0 ≤ p ∧ p ≤ 1048576) (h0 : 1 ≤ V.length) (h : MaskBest V s p k b) (hk : (cutTo V s p k.testBit V.length).2.2 = true) (hb : b < 0 ∨ (cutTo V s p k.testBit V.length).1 < b) : MaskBest V s p (k + 1) (cutTo V s p k.testBit V.length).1 := by
  obtain ⟨_, c1, c2⟩ := cutTo_bd (s := s) hd hp k.testBit V.length (Nat.le_refl _)
  refine .inr ⟨c1, c2, cut_div hd hp h0 _ hk, fun q hq ho => ?_⟩
  by_cases e : q = k
  · subst e; exact Int.le_refl _
  · rcases h with ⟨h1, h2⟩ | ⟨h1, h2, h3, h4⟩
    · rw [h2 q (by omega)] at ho; cases ho
    · have := h4 q (by omega) ho
      omega
theorem MaskBest.keep {V : List Int} {s p : Int} {k : Nat} {b : Int} (h : MaskBest V s p k b) (hb0 : 0 ≤ b) (hb : b ≤ (cutTo V s p k.testBit V.length).1) : MaskBest V s p (k + 1) b := by
  rcases h with ⟨h1, h2⟩ | ⟨h1, h2, h3, h4⟩
  · omega
  · refine .inr ⟨h1, h2, h3, fun q hq ho => ?_⟩
    by_cases e : q = k
    · subst e; exact hb
    · exact h4 q (by omega) ho
theorem MaskBest.bd {V : List Int} {s p : Int} {k : Nat} {b : Int} (h : MaskBest V s p k b) : -1 ≤ b ∧ b ≤ V.length * 2097152 ∧ (b < 0 → b = -1) := by
  rcases h with ⟨h1, h2⟩ | ⟨h1, h2, h3, h4⟩ <;> omega
/-- All masks tried: the least cost. -/
theorem MaskBest.done {V : List Int} {s p : Int} {B : Nat → Int} {N : Nat → Nat} {b : Int} (hd : Demands V) (h0 : 1 ≤ V.length) (hB : BestFrom V s p B N 0) (h : MaskBest V s p (2 ^ (V.length - 1)) b) : b = B 0 := by
  obtain ⟨q, hq, hqb⟩ := bits_exist (fun i => decide (N (beg N i) = i + 1)) (V.length - 1)
  have e := cutTo_congr (V := V) (s := s) (p := p) (f := q.testBit) (g := fun i => decide (N (beg N i) = i + 1)) (fun i hi => hqb i (by omega)) V.length
  rw [best_cut hd hB V.length (Nat.le_refl _)] at e
  have hf := cutTo_from (V := V) (s := s) (p := p) q.testBit h0
  rw [e] at hf
  have hf' : beg N V.length = V.length := hf
  rw [hf', hB.last, Int.sub_zero] at e
  rcases h with ⟨h1, h2⟩ | ⟨h1, h2, h3, h4⟩
  · have := h2 q hq
    rw [e] at this
    cases this
  · have := h4 q hq (by rw [e])
    rw [e] at this
    have := hB.div_le h3
    have h5 : b ≤ B 0 := by assumption
    omega
end Go.Proofs.Ytobmpleddhcloaa
