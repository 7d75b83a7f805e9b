/-
  What plates make beyond the demands: the plain laws. No program in sight. Own text.
-/
import Derived.Test.YtimofofaeedcoaaGangV
namespace Go.Proofs.Ytimofofaeedcoaa
/-- A list by its index. -/
def tab (n : Nat) (g : Nat → Int) : List Int := (List.range n).map g
theorem tab_length (n : Nat) (g : Nat → Int) : (tab n g).length = n := by simp [tab]
theorem tab_get (n : Nat) (g : Nat → Int) (i : Nat) (h : i < (tab n g).length) : (tab n g)[i] = g i := by simp [tab]
theorem tab_set (n : Nat) (g g' : Nat → Int) (i : Nat) (y : Int) (hy : g' i = y) (hg : ∀ j, j ≠ i → g' j = g j) : (tab n g).set i y = tab n g' := by
  apply List.ext_getElem
  · simp [tab]
  · intro j h1 h2
    rw [List.getElem_set]
    split
    · rename_i h; subst h; simp [tab, hy]
    · rename_i h; simp [tab, hg j (fun e => h e.symm)]
theorem tab_congr {n : Nat} {g g' : Nat → Int} (h : ∀ i, i < n → g i = g' i) : tab n g = tab n g' := by
  unfold tab
  exact List.map_congr_left fun i hi => h i (List.mem_range.1 hi)
structure Form where
  jobs : List Int
  ups : List Int
  run : Int
def itemOk (n : Nat) (p : Int × Int) : Bool := decide (0 ≤ p.1 ∧ p.1 < n ∧ 0 ≤ p.2 ∧ p.2 ≤ 64)
def Form.pairs (f : Form) : List (Int × Int) := f.jobs.zip f.ups
/-- The first error of a plate. -/
def formErr (n : Nat) (f : Form) : Int :=
  if f.jobs.length ≠ f.ups.length ∨ 12 < f.jobs.length then 4 else if ¬ (0 ≤ f.run ∧ f.run ≤ 1048576) then 3 else if f.pairs.all (itemOk n) then 0 else 3
def formsFirst (n : Nat) : List Form → Int
  | [] => 0
  | f :: r => if formErr n f ≠ 0 then formErr n f else formsFirst n r
def fchk (ds : List Int) (forms : List Form) : Int := if gchk ds 1 ≠ 0 then gchk ds 1 else if 12 < forms.length then 2 else formsFirst ds.length forms
theorem formsFirst_err {n : Nat} {fs : List Form} {k : Nat} (h : k < fs.length) (hz : ∀ j (hj : j < fs.length), j < k → formErr n fs[j] = 0) (he : formErr n fs[k] ≠ 0) : formsFirst n fs = formErr n fs[k] := by
  induction fs generalizing k with
  | nil => simp at h
  | cons f r ih =>
    cases k with
    | zero =>
      have he' : formErr n f ≠ 0 := he
      show formsFirst n (f :: r) = formErr n f
      simp only [formsFirst]
      rw [if_pos he']
    | succ k =>
      have h0 := hz 0 (by simp) (by omega)
      have h0' : formErr n f = 0 := h0
      simp only [formsFirst]
      rw [if_neg (by rw [h0']; omega)]
      exact ih (k := k) (by simpa using h) (fun j hj hjk => hz (j + 1) (by simpa using hj) (by omega)) he
theorem formsFirst_ok {n : Nat} {fs : List Form} (hz : ∀ j (hj : j < fs.length), formErr n fs[j] = 0) : formsFirst n fs = 0 := by
  induction fs with
  | nil => rfl
  | cons f r ih =>
    have h0 : formErr n f = 0 := hz 0 (by simp)
    simp only [formsFirst]
    rw [if_neg (by rw [h0]; omega)]
    exact ih (fun j hj => hz (j + 1) (by simpa using hj))
theorem formsFirst_zero {n : Nat} {fs : List Form} (h : formsFirst n fs = 0) : ∀ j (hj : j < fs.length), formErr n fs[j] = 0 := by
  induction fs with
  | nil => intro j hj; simp at hj
  | cons f r ih =>
    simp only [formsFirst] at h
    split at h
    · rename_i h1; exact absurd h h1
    · rename_i h1
      intro j hj
      cases j with
      | zero => exact Decidable.not_not.1 h1
      | succ j => exact ih h j (by simpa using hj)
theorem formErr_zero {n : Nat} {f : Form} (h : formErr n f = 0) : f.jobs.length = f.ups.length ∧ f.jobs.length ≤ 12 ∧ 0 ≤ f.run ∧ f.run ≤ 1048576 ∧ f.pairs.all (itemOk n) = true := by
  unfold formErr at h
  split at h
  · omega
  · split at h
    · omega
    · split at h
      · rename_i h1 h2 h3
        exact ⟨by omega, by omega, by omega, by omega, h3⟩
      · omega
theorem pairs_length {f : Form} (h : f.jobs.length = f.ups.length) : f.pairs.length = f.jobs.length := by unfold Form.pairs; rw [List.length_zip]; omega
theorem pairs_get {f : Form} {i : Nat} (h : i < f.pairs.length) (h1 : i < f.jobs.length) (h2 : i < f.ups.length) : f.pairs[i] = (f.jobs[i], f.ups[i]) := by simp [Form.pairs]
/-- What a plate makes: job and number of copies. -/
def Form.items (f : Form) : List (Int × Int) := f.pairs.map fun p => (p.1, p.2 * f.run)
def allItems (fs : List Form) : List (Int × Int) := fs.flatMap Form.items
/-- How many copies of a job are among the items. -/
def sumAt (l : List (Int × Int)) (j : Int) : Int := ((l.filter fun p => p.1 == j).map (·.2)).sum
theorem sumAt_snoc (l : List (Int × Int)) (p : Int × Int) (j : Int) : sumAt (l ++ [p]) j = sumAt l j + if p.1 = j then p.2 else 0 := by
  unfold sumAt
  rw [List.filter_append, List.map_append, List.sum_append]
  congr 1
  by_cases h : p.1 = j <;> simp [h]
theorem sumAt_bd {l : List (Int × Int)} (h : ∀ p ∈ l, 0 ≤ p.2 ∧ p.2 ≤ 67108864) (j : Int) : 0 ≤ sumAt l j ∧ sumAt l j ≤ l.length * 67108864 := by
  induction l with
  | nil => simp [sumAt]
  | cons p l ih =>
    have h1 := h p (by simp)
    have h2 := ih (fun q hq => h q (by simp [hq]))
    have e : sumAt (p :: l) j = (if p.1 = j then p.2 else 0) + sumAt l j := by
      unfold sumAt
      by_cases h : p.1 = j <;> simp [h]
    rw [e, List.length_cons]
    split <;> omega
def made (n : Nat) (l : List (Int × Int)) : List Int := tab n fun j => sumAt l j
theorem made_nil (n : Nat) : made n [] = List.replicate n 0 := by
  apply List.ext_getElem
  · simp [made, tab]
  · intro i h1 h2
    simp [made, tab, sumAt]
theorem made_set (n m : Nat) (l : List (Int × Int)) (x : Int) : (made n l).set m (sumAt l m + x) = made n (l ++ [((m : Int), x)]) := by
  refine tab_set n _ _ m _ ?_ ?_
  · rw [sumAt_snoc, if_pos rfl]
  · intro j hj
    rw [sumAt_snoc, if_neg (fun h => hj (by have h2 : (m : Int) = (j : Int) := h; omega))]
    omega
/-- The items of the first a plates and of the first b pairs of the next one. -/
def gItemsTo (fs : List Form) (a : Nat) (f : Form) (b : Nat) : List (Int × Int) := allItems (fs.take a) ++ f.items.take b
theorem itemsTo_zero (fs : List Form) (a : Nat) (f : Form) : gItemsTo fs a f 0 = allItems (fs.take a) := by simp [gItemsTo]
theorem gItemsTo_succ {fs : List Form} {a : Nat} {f : Form} {b : Nat} (hl : f.jobs.length = f.ups.length) (h1 : b < f.jobs.length) (h2 : b < f.ups.length) :
    gItemsTo fs a f (b + 1) = gItemsTo fs a f b ++ [(f.jobs[b], f.ups[b] * f.run)] := by
  have hp := pairs_length hl
  have hi : b < f.items.length := by simp [Form.items, hp, h1]
  unfold gItemsTo
  rw [List.take_succ_eq_append_getElem hi, ← List.append_assoc]
  congr 2
  simp [Form.items, Form.pairs]
theorem itemsTo_all {fs : List Form} {a : Nat} (ha : a < fs.length) {b : Nat} (hb : fs[a].jobs.length ≤ b) : gItemsTo fs a fs[a] b = allItems (fs.take (a + 1)) := by
  unfold gItemsTo allItems
  rw [List.take_succ_eq_append_getElem ha, List.flatMap_append]
  congr 1
  rw [List.take_of_length_le]
  · simp
  · simp [Form.items, Form.pairs, List.length_zip]
    omega
theorem items_bd {f : Form} {n : Nat} (h : formErr n f = 0) : f.items.length ≤ 12 ∧ ∀ p ∈ f.items, 0 ≤ p.2 ∧ p.2 ≤ 67108864 := by
  obtain ⟨h1, h2, h3, h4, h5⟩ := formErr_zero h
  refine ⟨by simp [Form.items, pairs_length h1, h2], fun p hp => ?_⟩
  obtain ⟨q, hq, rfl⟩ := List.mem_map.1 hp
  obtain ⟨_, _, h6, h7⟩ := of_decide_eq_true (List.all_eq_true.1 h5 q hq)
  have := mul_bd q.2 f.run 64 1048576 h6 h7 h3 h4
  exact ⟨this.1, by have := this.2; show q.2 * f.run ≤ _; omega⟩
theorem allItems_bd {fs : List Form} {n : Nat} (h : ∀ f ∈ fs, formErr n f = 0) : (allItems fs).length ≤ 12 * fs.length ∧ ∀ p ∈ allItems fs, 0 ≤ p.2 ∧ p.2 ≤ 67108864 := by
  induction fs with
  | nil => simp [allItems]
  | cons f r ih =>
    have h1 := items_bd (h f (by simp))
    have h2 := ih (fun g hg => h g (by simp [hg]))
    unfold allItems at *
    rw [List.flatMap_cons, List.length_append, List.length_cons]
    refine ⟨by omega, fun p hp => ?_⟩
    rcases List.mem_append.1 hp with hp | hp
    · exact h1.2 p hp
    · exact h2.2 p hp
theorem itemsTo_sum_bd {fs : List Form} {n a : Nat} (ha : a ≤ 12) (h : ∀ j (hj : j < fs.length), j < a → formErr n fs[j] = 0) {f : Form} (hf : formErr n f = 0) (b : Nat) (j : Int) :
    0 ≤ sumAt (gItemsTo fs a f b) j ∧ sumAt (gItemsTo fs a f b) j ≤ 156 * 67108864 := by
  have h1 := allItems_bd (fs := fs.take a) (n := n) (fun g hg => by
    obtain ⟨i, hi, rfl⟩ := List.mem_iff_getElem.1 hg
    have hi2 : i < a ∧ i < fs.length := by rw [List.length_take] at hi; omega
    rw [List.getElem_take]
    exact h i hi2.2 hi2.1)
  have h2 := items_bd hf
  have hl : (gItemsTo fs a f b).length ≤ 156 := by
    have h3 : (fs.take a).length ≤ 12 := by rw [List.length_take]; omega
    unfold gItemsTo
    rw [List.length_append, List.length_take]
    omega
  have h3 := sumAt_bd (l := gItemsTo fs a f b) (fun p hp => by
    unfold gItemsTo at hp
    rcases List.mem_append.1 hp with hp | hp
    · exact h1.2 p hp
    · exact h2.2 p (List.mem_of_mem_take hp)) j
  omega
/-- The table behind k subtractions. -/
def subTo (ds : List Int) (l : List (Int × Int)) (k : Nat) : List Int := tab ds.length fun j => if j < k then sumAt l j - ds.getD j 0 else sumAt l j
theorem subTo_zero (ds : List Int) (l : List (Int × Int)) : subTo ds l 0 = made ds.length l := tab_congr fun i _ => by simp
theorem subTo_set {ds : List Int} {l : List (Int × Int)} {k : Nat} (h : k < ds.length) : (subTo ds l k).set k (sumAt l k - ds[k]) = subTo ds l (k + 1) := by
  refine tab_set ds.length _ _ k _ ?_ ?_
  · simp [h]
  · intro j hj
    have : (j < k + 1) ↔ (j < k) := by omega
    simp [this]
def surV (ds : List Int) (fs : List Form) : List Int := subTo ds (allItems fs) ds.length
def shortB (ds : List Int) (fs : List Form) : Bool := (surV ds fs).all fun x => decide (0 ≤ x)
end Go.Proofs.Ytimofofaeedcoaa
