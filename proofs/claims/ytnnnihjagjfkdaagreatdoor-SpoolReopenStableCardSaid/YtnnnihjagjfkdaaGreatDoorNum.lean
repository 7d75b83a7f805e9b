/-
  Plain facts on whole numbers: remainders, products. No program in sight. Own text.
-/
namespace Go.Proofs.YtnnnihjagjfkdaaGreatDoor
theorem tmod_bd (x n : Int) (hn : 0 < n) : -n < x.tmod n ∧ x.tmod n < n := by
  constructor
  · have := Int.tmod_eq_emod (a := x) (b := n)
    have h1 := Int.emod_nonneg x (b := n) (by omega)
    have h2 := Int.emod_lt_of_pos x hn
    rw [this]; split <;> omega
  · exact Int.tmod_lt_of_pos _ hn
def wi (x lo hi : Int) : Int := lo + x.tmod (hi - lo + 1) % (hi - lo + 1)
theorem wi_bd (x lo hi : Int) (h : lo ≤ hi) : lo ≤ wi x lo hi ∧ wi x lo hi ≤ hi := by
  unfold wi
  have h1 := Int.emod_nonneg (x.tmod (hi - lo + 1)) (b := (hi - lo + 1)) (by omega)
  have h2 := Int.emod_lt_of_pos (x.tmod (hi - lo + 1)) (b := (hi - lo + 1)) (by omega)
  omega
theorem mul_bd (a b A B : Int) (h0 : 0 ≤ a) (h1 : a ≤ A) (h2 : 0 ≤ b) (h3 : b ≤ B) : 0 ≤ a * b ∧ a * b ≤ A * B :=
  ⟨Int.mul_nonneg h0 h2, Int.mul_le_mul h1 h3 h2 (by omega)⟩
def inB (x lo hi : Int) : Bool := decide (lo ≤ x ∧ x ≤ hi)
theorem inB_yes {x lo hi : Int} (h : lo ≤ x) (h2 : x ≤ hi) : inB x lo hi = true := decide_eq_true ⟨h, h2⟩
theorem inB_no {x lo hi : Int} (h : ¬ (lo ≤ x ∧ x ≤ hi)) : inB x lo hi = false := decide_eq_false h
theorem inB_true {x lo hi : Int} (h : inB x lo hi = true) : lo ≤ x ∧ x ≤ hi := of_decide_eq_true h
theorem inB_false {x lo hi : Int} (h : inB x lo hi = false) : ¬ (lo ≤ x ∧ x ≤ hi) := of_decide_eq_false h
/-- The first k elements all pass. -/
def AllTo {α : Type} (p : α → Bool) (xs : List α) (k : Nat) : Prop := ∀ j (h : j < xs.length), j < k → p xs[j] = true
theorem AllTo.zero {α : Type} (p : α → Bool) (xs : List α) : AllTo p xs 0 := fun j _ hj => by omega
theorem AllTo.succ {α : Type} {p : α → Bool} {xs : List α} {k : Nat} (h : AllTo p xs k) (hk : k < xs.length) (hp : p xs[k] = true) : AllTo p xs (k + 1) := by
  intro j hj hj2
  by_cases e : j = k
  · subst e; exact hp
  · exact h j hj (by omega)
theorem AllTo.all {α : Type} {p : α → Bool} {xs : List α} {k : Nat} (h : AllTo p xs k) (hk : xs.length ≤ k) : xs.all p = true := by
  rw [List.all_eq_true]
  intro x hx
  obtain ⟨i, hi, rfl⟩ := List.mem_iff_getElem.1 hx
  exact h i hi (by omega)
theorem all_no {α : Type} {p : α → Bool} {xs : List α} {k : Nat} (hk : k < xs.length) (hp : p xs[k] = false) : xs.all p = false := by
  rw [List.all_eq_false]
  exact ⟨xs[k], List.getElem_mem hk, by simp [hp]⟩
/-- How many sheets are certainly good after a step. -/
def afterV (s p x : Int) : Int := if x ≤ s then 0 else (x - s) - ((x - s) * p + 1000 - 1) / 1000
theorem after_bd (s p x : Int) (h0 : 0 ≤ s) (h2 : 0 ≤ p) (h3 : p ≤ 999) (h4 : 0 ≤ x) : 0 ≤ afterV s p x ∧ afterV s p x ≤ x := by
  unfold afterV
  split
  · omega
  · have a1 : 0 ≤ (x - s) * p := Int.mul_nonneg (by omega) h2
    have a2 : (x - s) * p ≤ (x - s) * 999 := Int.mul_le_mul_of_nonneg_left h3 (by omega)
    generalize (x - s) * p = q at *
    omega
theorem foldl_take_succ {α β : Type} (f : β → α → β) (a : β) (xs : List α) (k : Nat) (h : k < xs.length) : (xs.take (k + 1)).foldl f a = f ((xs.take k).foldl f a) xs[k] := by
  rw [List.take_succ_eq_append_getElem h, List.foldl_append]
  rfl
def stepOk (x : Int × Int) : Bool := decide (0 ≤ x.1 ∧ x.1 ≤ 1073741824 ∧ 0 ≤ x.2 ∧ x.2 < 1000)
def chk (xs : List (Int × Int)) : Int := if 16 < xs.length then 2 else if xs.all stepOk then 0 else 3
theorem chk_zero {xs : List (Int × Int)} (h : chk xs = 0) : xs.length ≤ 16 ∧ ∀ x ∈ xs, 0 ≤ x.1 ∧ x.1 ≤ 1073741824 ∧ 0 ≤ x.2 ∧ x.2 ≤ 999 := by
  unfold chk at h
  split at h
  · omega
  · split at h
    · rename_i h1 h2
      refine ⟨by omega, fun x hx => ?_⟩
      have := of_decide_eq_true (List.all_eq_true.1 h2 x hx)
      omega
    · omega
theorem chk_range (xs : List (Int × Int)) : 0 ≤ chk xs ∧ chk xs ≤ 3 := by
  unfold chk
  split
  · omega
  · split <;> omega
/-- How many sheets are certainly good after all steps. -/
def yieldV (xs : List (Int × Int)) (n : Int) : Int := xs.foldl (fun n s => afterV s.1 s.2 n) n
theorem yield_bd {xs : List (Int × Int)} (hx : ∀ x ∈ xs, 0 ≤ x.1 ∧ x.1 ≤ 1073741824 ∧ 0 ≤ x.2 ∧ x.2 ≤ 999) {n : Int} (h : 0 ≤ n) : 0 ≤ yieldV xs n ∧ yieldV xs n ≤ n := by
  unfold yieldV
  induction xs generalizing n with
  | nil => exact ⟨h, Int.le_refl _⟩
  | cons x xs ih =>
    have h1 := hx x (by simp)
    have h2 := after_bd x.1 x.2 n h1.1 h1.2.2.1 h1.2.2.2 h
    have h3 := ih (fun y hy => hx y (by simp [hy])) h2.1
    rw [List.foldl_cons]
    omega
theorem yield_step {xs : List (Int × Int)} {k : Nat} (h : k < xs.length) (n : Int) : yieldV (xs.take (k + 1)) n = afterV xs[k].1 xs[k].2 (yieldV (xs.take k) n) := foldl_take_succ _ _ _ _ h
/-- How many sheets each step may waste. -/
def wasteV : List (Int × Int) → Int → List Int
  | [], _ => []
  | s :: r, n => (n - afterV s.1 s.2 n) :: wasteV r (afterV s.1 s.2 n)
theorem wasteV_append (xs ys : List (Int × Int)) (n : Int) : wasteV (xs ++ ys) n = wasteV xs n ++ wasteV ys (yieldV xs n) := by
  induction xs generalizing n with
  | nil => rfl
  | cons x xs ih => simp only [List.cons_append, wasteV, ih]; rfl
theorem wasteV_length (xs : List (Int × Int)) (n : Int) : (wasteV xs n).length = xs.length := by
  induction xs generalizing n with
  | nil => rfl
  | cons x xs ih => simp [wasteV, ih]
theorem waste_step {xs : List (Int × Int)} {k : Nat} (h : k < xs.length) (n : Int) :
    wasteV (xs.take (k + 1)) n = wasteV (xs.take k) n ++ [yieldV (xs.take k) n - afterV xs[k].1 xs[k].2 (yieldV (xs.take k) n)] := by
  rw [List.take_succ_eq_append_getElem h, wasteV_append]
  rfl
theorem ceil_div {a b : Int} (hb : 1 ≤ b) : (a + b - 1) / b = if a / b * b < a then a / b + 1 else a / b := by
  have h1 := Int.mul_ediv_add_emod a b
  have h2 := Int.emod_lt_of_pos a (show 0 < b by omega)
  have h3 := Int.emod_nonneg a (show b ≠ 0 by omega)
  rw [Int.mul_comm] at h1
  generalize hq : a / b = q at *
  generalize hr : a % b = r at *
  have ha : a = q * b + r := h1.symm
  split
  · rename_i h
    have e : a + b - 1 = (r - 1) + (q + 1) * b := by rw [ha, Int.add_mul]; omega
    rw [e, Int.add_mul_ediv_right _ _ (by omega), Int.ediv_eq_zero_of_lt (by omega) (by omega)]
    omega
  · rename_i h
    have e : a + b - 1 = (b - 1) + q * b := by omega
    rw [e, Int.add_mul_ediv_right _ _ (by omega), Int.ediv_eq_zero_of_lt (by omega) (by omega)]
    omega
theorem ceil_bd {a b : Int} (h0 : 0 ≤ a) (hb : 1 ≤ b) : 0 ≤ a / b ∧ a / b ≤ a ∧ 0 ≤ a / b * b ∧ a / b * b ≤ a := by
  have h1 := Int.mul_ediv_add_emod a b
  have h3 := Int.emod_nonneg a (show b ≠ 0 by omega)
  rw [Int.mul_comm] at h1
  have h4 : 0 ≤ a / b := Int.ediv_nonneg h0 (by omega)
  have h5 : a / b * 1 ≤ a / b * b := Int.mul_le_mul_of_nonneg_left hb h4
  have h6 : 0 ≤ a / b * b := Int.mul_nonneg h4 (by omega)
  omega
def sameB {α : Type} [DecidableEq α] (xs ys : List α) : Bool := decide (xs = ys)
theorem sameB_self {α : Type} [DecidableEq α] (xs : List α) : sameB xs xs = true := decide_eq_true rfl
theorem sameB_len {α : Type} [DecidableEq α] {xs ys : List α} (h : xs.length ≠ ys.length) : sameB xs ys = false := decide_eq_false (fun e => h (by rw [e]))
theorem sameB_at {α : Type} [DecidableEq α] {xs ys : List α} {k : Nat} (h1 : k < xs.length) (h2 : k < ys.length) (h : xs[k] ≠ ys[k]) : sameB xs ys = false := decide_eq_false (fun e => h (by subst e; rfl))
/-- The first k elements of two lists are the same. -/
def SameTo {α : Type} (xs ys : List α) (k : Nat) : Prop := ∀ j (h1 : j < xs.length) (h2 : j < ys.length), j < k → xs[j] = ys[j]
theorem SameTo.zero {α : Type} (xs ys : List α) : SameTo xs ys 0 := fun j _ _ hj => by omega
theorem SameTo.succ {α : Type} {xs ys : List α} {k : Nat} (h : SameTo xs ys k) (hk : k < xs.length) (hk2 : k < ys.length) (hp : xs[k] = ys[k]) : SameTo xs ys (k + 1) := by
  intro j h1 h2 hj
  by_cases e : j = k
  · subst e; exact hp
  · exact h j h1 h2 (by omega)
theorem SameTo.all {α : Type} [DecidableEq α] {xs ys : List α} {k : Nat} (h : SameTo xs ys k) (hl : xs.length = ys.length) (hk : xs.length ≤ k) : sameB xs ys = true :=
  decide_eq_true (List.ext_getElem hl fun j h1 h2 => h j h1 h2 (by omega))
end Go.Proofs.YtnnnihjagjfkdaaGreatDoor
