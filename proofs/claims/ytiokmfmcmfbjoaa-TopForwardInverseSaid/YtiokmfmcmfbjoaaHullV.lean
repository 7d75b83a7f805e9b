/-
  The nodes of a box, one behind the other. No program in sight. Own text.
-/
import Derived.Test.YtiokmfmcmfbjoaaFwd
namespace Go.Proofs.Ytiokmfmcmfbjoaa
open Go.RowKit
set_option linter.unusedVariables false
theorem least_of {p : Nat → Prop} (h : ∃ i, p i) : ∃ i, p i ∧ ∀ j, j < i → ¬ p j := by
  obtain ⟨i, hi⟩ := h
  induction i using Nat.strongRecOn with
  | ind i ih =>
    by_cases hn : ∃ j, j < i ∧ p j
    · obtain ⟨j, hj, hpj⟩ := hn
      exact ih j hj hpj
    · exact ⟨i, hi, fun j hj hp => hn ⟨j, hj, hp⟩⟩
/-- In the box. -/
def InB (d : Nat) (F T c : Nat → Int) : Prop := ∀ i, i < d → F i ≤ c i ∧ c i ≤ T i
/-- Ahead of. -/
def LexB (d : Nat) (c' c : Nat → Int) : Prop := ∃ i, i < d ∧ (∀ j, j < i → c' j = c j) ∧ c' i < c i
def SameB (d : Nat) (c' c : Nat → Int) : Prop := ∀ i, i < d → c' i = c i
theorem lexB_first {d : Nat} {F T c' : Nat → Int} (h : InB d F T c') : ¬ LexB d c' F := fun ⟨i, hi, _, hlt⟩ => by
  have := (h i hi).1
  omega
theorem lexB_last {d : Nat} {F T c c' : Nat → Int} (h : InB d F T c') (hc : ∀ i, i < d → c i = T i) : LexB d c' c ∨ SameB d c' c := by
  by_cases hs : SameB d c' c
  · exact .inr hs
  · left
    have hex : ∃ i, i < d ∧ c' i ≠ c i := by
      by_cases hn : ∃ i, i < d ∧ c' i ≠ c i
      · exact hn
      · exact absurd (fun i hi => by
          by_cases e : c' i = c i
          · exact e
          · exact absurd ⟨i, hi, e⟩ hn) hs
    obtain ⟨i, ⟨hi, hne⟩, hmin⟩ := least_of hex
    refine ⟨i, hi, fun j hj => ?_, ?_⟩
    · by_cases e : c' j = c j
      · exact e
      · exact absurd ⟨by omega, e⟩ (hmin j hj)
    · have := (h i hi).2
      have := hc i hi
      omega
/-- The node behind c: digit k is one more, those behind it are at their start. -/
def nextB (F c : Nat → Int) (k : Nat) : Nat → Int := fun i => if i < k then c i else if i = k then c i + 1 else F i
theorem lexB_next {d : Nat} {F T c c' : Nat → Int} {k : Nat} (hk : k < d) (h : InB d F T c') (hc : ∀ i, k < i → i < d → c i = T i) (hl : LexB d c' (nextB F c k)) : LexB d c' c ∨ SameB d c' c := by
  obtain ⟨i, hi, hj, hlt⟩ := hl
  have below : ∀ j, j < k → nextB F c k j = c j := fun j hj => if_pos hj
  have at' : nextB F c k k = c k + 1 := by unfold nextB; rw [if_neg (by omega), if_pos rfl]
  have above : ∀ j, k < j → nextB F c k j = F j := fun j hj => by unfold nextB; rw [if_neg (by omega), if_neg (by omega)]
  by_cases e : i < k
  · rw [below i e] at hlt
    exact .inl ⟨i, hi, fun j hj' => by rw [hj j hj', below j (by omega)], hlt⟩
  · by_cases e2 : i = k
    · subst e2
      rw [at'] at hlt
      by_cases e3 : c' i < c i
      · exact .inl ⟨i, hi, fun j hj' => by rw [hj j hj', below j hj'], e3⟩
      · have e4 : c' i = c i := by omega
        -- behind i: c is at its end
        have hc2 : ∀ j, j < d → j < i + 1 ∨ c j = T j := fun j hj' => by
          by_cases e5 : i < j
          · exact .inr (hc j e5 hj')
          · exact .inl (by omega)
        have hag : ∀ j, j < i + 1 → c' j = c j := fun j hj' => by
          by_cases e5 : j = i
          · subst e5; exact e4
          · rw [hj j (by omega), below j (by omega)]
        by_cases hs : SameB d c' c
        · exact .inr hs
        · left
          have hex : ∃ m, m < d ∧ c' m ≠ c m := by
            by_cases hn : ∃ m, m < d ∧ c' m ≠ c m
            · exact hn
            · exact absurd (fun m hm => by
                by_cases e : c' m = c m
                · exact e
                · exact absurd ⟨m, hm, e⟩ hn) hs
          obtain ⟨m, ⟨hm, hne⟩, hmin⟩ := least_of hex
          refine ⟨m, hm, fun j hj' => ?_, ?_⟩
          · by_cases e : c' j = c j
            · exact e
            · exact absurd ⟨by omega, e⟩ (hmin j hj')
          · rcases hc2 m hm with h1 | h1
            · exact absurd (hag m h1) hne
            · have := (h m hm).2
              omega
    · rw [above i (by omega)] at hlt
      have := (h i hi).1
      omega
theorem nextB_in {d : Nat} {F T c : Nat → Int} {k : Nat} (hk : k < d) (h : InB d F T c) (hF : ∀ i, i < d → F i ≤ T i) (hne : c k ≠ T k) : InB d F T (nextB F c k) := fun i hi => by
  have h1 := h i hi
  have h2 := hF i hi
  unfold nextB
  by_cases e : i < k
  · rw [if_pos e]; exact h1
  · rw [if_neg e]
    by_cases e2 : i = k
    · subst e2; rw [if_pos rfl]; omega
    · rw [if_neg e2]; omega
/-- The number of a node of d digits. -/
def numB (size : Int) (d : Nat) (c : Nat → Int) : Int := nodeV size ((List.range d).map c)
theorem numB_succ (size : Int) (d : Nat) (c : Nat → Int) : numB size (d + 1) c = numB size d c * size + c d := by
  unfold numB nodeV
  rw [List.range_succ, List.map_append, List.foldl_append]
  rfl
theorem numB_congr {size : Int} {c c' : Nat → Int} : ∀ d, (∀ i, i < d → c i = c' i) → numB size d c = numB size d c' := by
  intro d h
  unfold numB
  congr 1
  exact List.map_congr_left fun i hi => h i (List.mem_range.1 hi)
theorem numB_next {size : Int} (hs : 1 ≤ size) {F c : Nat → Int} {k : Nat} : ∀ m, (∀ i, i < k + 1 + m → 0 ≤ F i ∧ c i ≤ size - 1) → numB size (k + 1 + m) c + 1 ≤ numB size (k + 1 + m) (nextB F c k) := by
  intro m
  induction m with
  | zero =>
    intro h
    show numB size (k + 1) c + 1 ≤ numB size (k + 1) _
    rw [numB_succ, numB_succ]
    have e : numB size k (nextB F c k) = numB size k c := numB_congr k fun i hi => if_pos hi
    have e2 : nextB F c k k = c k + 1 := by unfold nextB; rw [if_neg (by omega), if_pos rfl]
    rw [e, e2]
    omega
  | succ m ih =>
    intro h
    have h1 := ih (fun i hi => h i (by omega))
    have h2 := h (k + 1 + m) (by omega)
    rw [show k + 1 + (m + 1) = k + 1 + m + 1 by omega, numB_succ, numB_succ]
    have e2 : nextB F c k (k + 1 + m) = F (k + 1 + m) := by unfold nextB; rw [if_neg (by omega), if_neg (by omega)]
    rw [e2]
    have h3 : (numB size (k + 1 + m) c + 1) * size ≤ numB size (k + 1 + m) (nextB F c k) * size := Int.mul_le_mul_of_nonneg_right h1 (by omega)
    rw [Int.add_mul, Int.one_mul] at h3
    omega
theorem numB_bd {size : Int} (hs : 1 ≤ size) (hs9 : size ≤ 9) {d : Nat} (hd : d ≤ 4) {c : Nat → Int} (h : ∀ i, i < d → 0 ≤ c i ∧ c i ≤ size - 1) : 0 ≤ numB size d c ∧ numB size d c ≤ 6560 := by
  have h1 := nodeV_bd (size := size) hs (idx := (List.range d).map c) (fun i hi => by
    rw [List.length_map, List.length_range] at hi
    rw [List.getElem_map, List.getElem_range]
    exact h i hi) d (by simp)
  rw [List.take_of_length_le (by simp)] at h1
  have h2 := pw_bd hs hs9 d hd
  unfold numB
  omega
/-- The bounds of what has been seen. -/
def Cov (d : Nat) (F T : Nat → Int) (V : Nat → (Nat → Int) → Int) (S : (Nat → Int) → Prop) (lo hi : Nat → Int) : Prop := ∀ c', InB d F T c' → S c' → ∀ o, o < 3 → lo o ≤ V o c' ∧ V o c' ≤ hi o
def loV (f : Bool) (l v : Int) : Int := if f = true ∨ v < l then v else l
def hiV (f : Bool) (l v : Int) : Int := if f = true ∨ l < v then v else l
theorem loV_le (f : Bool) (l v : Int) : loV f l v ≤ v := by
  unfold loV
  by_cases h : f = true ∨ v < l
  · rw [if_pos h]; exact Int.le_refl _
  · rw [if_neg h]; exact Int.not_lt.1 fun e => h (.inr e)
theorem hiV_ge (f : Bool) (l v : Int) : v ≤ hiV f l v := by
  unfold hiV
  by_cases h : f = true ∨ l < v
  · rw [if_pos h]; exact Int.le_refl _
  · rw [if_neg h]; exact Int.not_lt.1 fun e => h (.inr e)
theorem loV_old (l v : Int) : loV false l v ≤ l := by unfold loV; simp only [Bool.false_eq_true, false_or]; split <;> omega
theorem hiV_old (l v : Int) : l ≤ hiV false l v := by unfold hiV; simp only [Bool.false_eq_true, false_or]; split <;> omega
theorem Cov.see {d : Nat} {F T : Nat → Int} {V : Nat → (Nat → Int) → Int} {c lo hi : Nat → Int} {f : Bool} (hf : f = true → ∀ c', InB d F T c' → ¬ LexB d c' c) (h : Cov d F T V (fun c' => LexB d c' c) lo hi ∨ f = true) (hV : ∀ o c', SameB d c' c → V o c' = V o c) :
    Cov d F T V (fun c' => LexB d c' c ∨ SameB d c' c) (fun o => loV f (lo o) (V o c)) (fun o => hiV f (hi o) (V o c)) := by
  intro c' hin hs o ho
  rcases hs with hs | hs
  · rcases f with _ | _
    · rcases h with h | h
      · have h1 := h c' hin hs o ho
        have h2 := loV_old (lo o) (V o c)
        have h3 := hiV_old (hi o) (V o c)
        exact ⟨Int.le_trans h2 h1.1, Int.le_trans h1.2 h3⟩
      · cases h
    · exact absurd hs (hf rfl c' hin)
  · rw [hV o c' hs]
    exact ⟨loV_le _ _ _, hiV_ge _ _ _⟩
end Go.Proofs.Ytiokmfmcmfbjoaa
