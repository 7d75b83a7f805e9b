/-
  Insertion sort as a function of lists, at any test. No program in sight. Own text.
-/
import Derived.Sort.WalkA
import Derived.Shelf.SlSortCmp.Insertion
namespace Go.Proofs.Ytiokmfmcmfbjoaa
open Go.Sort
set_option linter.unusedVariables false
section
variable {α : Type}
def insAt (x : α) (L : List α) (j : Nat) : List α := L.take j ++ x :: L.drop j
theorem insAt_len (x : α) (L : List α) (j : Nat) : (insAt x L j).length = L.length + 1 := by
  unfold insAt
  rw [List.length_append, List.length_cons, List.length_take, List.length_drop]
  omega
theorem insAt_end (x : α) (L : List α) : insAt x L L.length = L ++ [x] := by
  unfold insAt
  rw [List.take_length, List.drop_length]
theorem insAt_perm (x : α) (L : List α) (j : Nat) : (insAt x L j).Perm (x :: L) := by
  unfold insAt
  refine List.perm_middle.trans ?_
  rw [List.take_append_drop]
/-- A step of the walk: x and its neighbour change places. -/
theorem insAt_swap (x : α) (L R : List α) (j : Nat) (h : j < L.length) : ((insAt x L (j + 1) ++ R).set (j + 1) L[j]).set j x = insAt x L j ++ R := by
  unfold insAt
  have e1 : L.take (j + 1) = L.take j ++ [L[j]] := List.take_succ_eq_append_getElem h
  have e2 : L.drop j = L[j] :: L.drop (j + 1) := List.drop_eq_getElem_cons h
  have hl : (L.take j).length = j := by rw [List.length_take]; omega
  rw [e1, e2]
  simp only [List.append_assoc, List.cons_append]
  rw [List.set_append_right _ _ (by omega), List.set_append_right _ _ (by omega), hl]
  simp
theorem insAt_at (x : α) (L R : List α) (j : Nat) (h : j ≤ L.length) : (insAt x L j ++ R)[j]? = some x := by
  unfold insAt
  have hl : (L.take j).length = j := by rw [List.length_take]; omega
  rw [List.append_assoc, List.getElem?_append_right (by omega), hl]
  simp
theorem insAt_prev (x : α) (L R : List α) (j : Nat) (h : j < L.length) : (insAt x L (j + 1) ++ R)[j]? = some L[j] := by
  unfold insAt
  have hl : (L.take (j + 1)).length = j + 1 := by rw [List.length_take]; omega
  rw [List.append_assoc, List.getElem?_append_left (by omega), List.getElem?_take]
  simp [h]
variable [Inhabited α]
theorem getD_at {l : List α} {i : Nat} (h : i < l.length) : l.getD i default = l[i] := by
  rw [List.getD_eq_getElem?_getD, List.getElem?_eq_getElem h]
  rfl
/-- Where x comes to stand ahead of L's last elements, from place j down. -/
def slot (lt : α → α → Bool) (x : α) (L : List α) : Nat → Nat
  | 0 => 0
  | j + 1 => if lt x (L.getD j default) then slot lt x L j else j + 1
theorem slot_le (lt : α → α → Bool) (x : α) (L : List α) : ∀ j, slot lt x L j ≤ j := by
  intro j
  induction j with
  | zero => exact Nat.le_refl _
  | succ j ih => unfold slot; split <;> omega
def insL (lt : α → α → Bool) (x : α) (L : List α) : List α := insAt x L (slot lt x L L.length)
def sortTo (lt : α → α → Bool) (xs : List α) : Nat → List α
  | 0 => []
  | k + 1 => insL lt (xs.getD k default) (sortTo lt xs k)
theorem sortTo_len (lt : α → α → Bool) (xs : List α) : ∀ k, (sortTo lt xs k).length = k := by
  intro k
  induction k with
  | zero => rfl
  | succ k ih => show (insL lt _ _).length = _; unfold insL; rw [insAt_len, ih]
theorem sortTo_perm (lt : α → α → Bool) (xs : List α) : ∀ k, k ≤ xs.length → (sortTo lt xs k).Perm (xs.take k) := by
  intro k
  induction k with
  | zero => intro _; simp [sortTo]
  | succ k ih =>
    intro h
    have h1 := ih (by omega)
    have e : xs.getD k default = xs[k] := getD_at (by omega)
    show (insL lt _ _).Perm _
    unfold insL
    rw [e, List.take_succ_eq_append_getElem h]
    exact (insAt_perm _ _ _).trans ((List.Perm.cons _ h1).trans (List.perm_append_singleton _ _).symm)
/-- The library's inner loop. -/
theorem insInner_list (lt : α → α → Bool) (x : α) (L R : List α) : ∀ j (A : Array α), j ≤ L.length → A.toList = insAt x L j ++ R → (insInner lt 0 j A).toList = insAt x L (slot lt x L j) ++ R := by
  intro j
  induction j with
  | zero => intro A _ hA; exact hA
  | succ j ih =>
    intro A hj hA
    have g1 : A[j + 1]! = x := by
      have := insAt_at x L R (j + 1) hj
      rw [← hA, Array.getElem?_toList] at this
      rw [getElem!_def, this]
    have g0 : A[j]! = L[j] := by
      have := insAt_prev x L R j (by omega)
      rw [← hA, Array.getElem?_toList] at this
      rw [getElem!_def, this]
    have e : L.getD j default = L[j] := getD_at (by omega)
    unfold insInner slot
    rw [g1, g0, e]
    by_cases hc : lt x L[j] = true
    · rw [if_pos (by simp [hc]), if_pos hc]
      refine ih _ (by omega) ?_
      unfold swp
      rw [g1, g0, Array.toList_setIfInBounds, Array.toList_setIfInBounds, hA]
      exact insAt_swap x L R j (by omega)
    · rw [if_neg (by simp [hc]), if_neg hc]
      exact hA
theorem insOuter_list (lt : α → α → Bool) (xs : List α) : ∀ m i (A : Array α), i + m = xs.length → A.toList = sortTo lt xs i ++ xs.drop i → (insOuter lt 0 xs.length i A).toList = sortTo lt xs xs.length := by
  intro m
  induction m with
  | zero =>
    intro i A hi hA
    obtain rfl : i = xs.length := by omega
    rw [insOuter_stop _ _ _ _ _ (by omega), hA, List.drop_length, List.append_nil]
  | succ m ih =>
    intro i A hi hA
    rw [insOuter_go _ _ _ _ _ (by omega)]
    refine ih (i + 1) _ (by omega) ?_
    have hl := sortTo_len lt xs i
    have hlt : i < xs.length := by omega
    have e : xs.getD i default = xs[i] := getD_at (by omega)
    have hA' : A.toList = insAt (xs.getD i default) (sortTo lt xs i) i ++ xs.drop (i + 1) := by
      have e3 : insAt (xs.getD i default) (sortTo lt xs i) i = sortTo lt xs i ++ [xs.getD i default] := by
        have := insAt_end (xs.getD i default) (sortTo lt xs i)
        rw [hl] at this
        exact this
      rw [hA, e3, List.append_assoc, List.singleton_append, List.drop_eq_getElem_cons hlt, e]
    have := insInner_list lt (xs.getD i default) (sortTo lt xs i) (xs.drop (i + 1)) i A (by omega) hA'
    rw [this]
    show _ = insL lt _ _ ++ _
    unfold insL
    rw [hl]
/-- The library's sort of a whole row. -/
theorem insertionSort_list (lt : α → α → Bool) (xs : List α) (h : 0 < xs.length) (A : Array α) (hA : A.toList = xs) : (insertionSort lt A 0 xs.length).toList = sortTo lt xs xs.length := by
  unfold insertionSort
  refine insOuter_list lt xs (xs.length - 1) 1 A (by omega) ?_
  cases xs with
  | nil => simp at h
  | cons x l => rw [hA]; simp [sortTo, insL, insAt, slot]
/-- A sort through a map. -/
theorem slot_map {β : Type} [Inhabited β] {lt : α → α → Bool} {lt' : β → β → Bool} {f : α → β} (hf : ∀ x y, lt x y = lt' (f x) (f y)) (x : α) (L : List α) : ∀ j, j ≤ L.length → slot lt' (f x) (L.map f) j = slot lt x L j := by
  intro j
  induction j with
  | zero => intro _; rfl
  | succ j ih =>
    intro h
    have e : L.getD j default = L[j] := getD_at (by omega)
    have e' : (L.map f).getD j default = f L[j] := by rw [getD_at (by rw [List.length_map]; omega), List.getElem_map]
    unfold slot
    rw [e, e', ← hf, ih (by omega)]
theorem sortTo_map {β : Type} [Inhabited β] {lt : α → α → Bool} {lt' : β → β → Bool} {f : α → β} (hf : ∀ x y, lt x y = lt' (f x) (f y)) (xs : List α) : ∀ k, k ≤ xs.length → (sortTo lt xs k).map f = sortTo lt' (xs.map f) k := by
  intro k
  induction k with
  | zero => intro _; rfl
  | succ k ih =>
    intro h
    have e : xs.getD k default = xs[k] := getD_at (by omega)
    have e' : (xs.map f).getD k default = f xs[k] := by rw [getD_at (by rw [List.length_map]; omega), List.getElem_map]
    show (insL lt _ _).map f = insL lt' _ _
    unfold insL insAt
    rw [e, e', ← ih (by omega), List.length_map, slot_map hf _ _ _ (Nat.le_refl _), List.map_append, List.map_cons, List.map_take, List.map_drop]
end
end Go.Proofs.Ytiokmfmcmfbjoaa
