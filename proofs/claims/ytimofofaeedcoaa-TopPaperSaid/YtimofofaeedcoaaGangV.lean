/-
  Jobs on plates: the plain laws. No program in sight. Own text.
-/
import Derived.Test.YtimofofaeedcoaaNeedV
namespace Go.Proofs.Ytimofofaeedcoaa
/-- A quotient, rounded up. -/
def cl (d r : Int) : Int := (d + r - 1) / r
theorem cl_le {d r c : Int} (hr : 1 ≤ r) : cl d r ≤ c ↔ d ≤ c * r := ceil_le hr
theorem cl_bd {d r : Int} (hd : 1 ≤ d) (hr : 1 ≤ r) : 1 ≤ cl d r ∧ cl d r ≤ d := by
  have h := up_bd (a := d) (b := r) (by omega) hr
  have h2 := cl_le (d := d) (r := r) (c := 0) hr
  unfold cl at *
  omega
theorem cl_anti {d r r' : Int} (hd : 0 ≤ d) (hr : 1 ≤ r) (h : r ≤ r') : cl d r' ≤ cl d r := by
  rw [cl_le (by omega)]
  have h1 := (cl_le (d := d) hr).1 (Int.le_refl _)
  have h2 : 0 ≤ cl d r := (up_bd hd hr).1
  have h3 : cl d r * r ≤ cl d r * r' := Int.mul_le_mul_of_nonneg_left h h2
  omega
/-- The places of all jobs. -/
def needV (xs : List Int) (r : Int) : Int := (xs.map (fun d => cl d r)).sum
def Demands (xs : List Int) : Prop := ∀ d ∈ xs, 1 ≤ d ∧ d ≤ 1048576
theorem needV_cons (x : Int) (xs : List Int) (r : Int) : needV (x :: xs) r = cl x r + needV xs r := by simp [needV]
theorem needV_bd {xs : List Int} (hx : Demands xs) {r : Int} (hr : 1 ≤ r) : (xs.length : Int) ≤ needV xs r ∧ needV xs r ≤ xs.length * 1048576 := by
  induction xs with
  | nil => simp [needV]
  | cons x xs ih =>
    have h1 := hx x (by simp)
    have h2 := cl_bd h1.1 hr
    have h3 := ih (fun d hd => hx d (by simp [hd]))
    rw [needV_cons, List.length_cons]
    omega
theorem needV_take (xs : List Int) (k : Nat) (h : k < xs.length) (r : Int) : needV (xs.take (k + 1)) r = needV (xs.take k) r + cl xs[k] r := by
  unfold needV
  rw [List.take_succ_eq_append_getElem h, List.map_append, List.sum_append]
  simp
theorem needV_anti {xs : List Int} (hx : Demands xs) {r r' : Int} (hr : 1 ≤ r) (h : r ≤ r') : needV xs r' ≤ needV xs r := by
  induction xs with
  | nil => simp [needV]
  | cons x xs ih =>
    have h1 := hx x (by simp)
    have h2 := cl_anti (d := x) (by omega) hr h
    have h3 := ih (fun d hd => hx d (by simp [hd]))
    rw [needV_cons, needV_cons]
    omega
theorem needV_most {xs : List Int} (hx : Demands xs) {r : Int} (hr : 1 ≤ r) (h : ∀ d ∈ xs, d ≤ r) : needV xs r = xs.length := by
  induction xs with
  | nil => simp [needV]
  | cons x xs ih =>
    have h1 := hx x (by simp)
    have h2 := cl_bd h1.1 hr
    have h3 := (cl_le (d := x) (c := 1) hr).2 (by have := h x (by simp); omega)
    have h4 := ih (fun d hd => hx d (by simp [hd])) (fun d hd => h d (by simp [hd]))
    rw [needV_cons, h4, List.length_cons]
    omega
def dOk (d : Int) : Bool := decide (1 ≤ d ∧ d ≤ 1048576)
/-- The first error of demands and places. -/
def gchk (xs : List Int) (slots : Int) : Int := if xs.length < 1 ∨ 12 < xs.length then 2 else if xs.all dOk then (if 1 ≤ slots ∧ slots ≤ 64 then 0 else 3) else 3
theorem gchk_zero {xs : List Int} {slots : Int} (h : gchk xs slots = 0) : 1 ≤ xs.length ∧ xs.length ≤ 12 ∧ Demands xs ∧ 1 ≤ slots ∧ slots ≤ 64 := by
  unfold gchk at h
  split at h
  · omega
  · split at h
    · split at h
      · rename_i h1 h2 h3
        refine ⟨by omega, by omega, fun d hd => ?_, h3.1, h3.2⟩
        exact of_decide_eq_true (List.all_eq_true.1 h2 d hd)
      · omega
    · omega
theorem gchk_ok {xs : List Int} {slots : Int} (h1 : 1 ≤ xs.length) (h2 : xs.length ≤ 12) (h3 : Demands xs) (h4 : 1 ≤ slots) (h5 : slots ≤ 64) : gchk xs slots = 0 := by
  unfold gchk
  rw [if_neg (by omega), if_pos, if_pos ⟨h4, h5⟩]
  rw [List.all_eq_true]
  intro d hd
  exact decide_eq_true (h3 d hd)
/-- The least number from r on that passes. -/
def leastFrom (p : Int → Bool) : Nat → Int → Int
  | 0, r => r
  | n + 1, r => if p r then r else leastFrom p n (r + 1)
theorem leastFrom_spec {p : Int → Bool} : ∀ (n : Nat) (r : Int), (∃ s, r ≤ s ∧ s < r + n ∧ p s = true) → r ≤ leastFrom p n r ∧ p (leastFrom p n r) = true ∧ ∀ s, r ≤ s → s < leastFrom p n r → p s = false
  | 0, r, ⟨s, h1, h2, _⟩ => by omega
  | n + 1, r, ⟨s, h1, h2, h3⟩ => by
    unfold leastFrom
    split
    · rename_i h
      exact ⟨Int.le_refl _, h, fun s h1 h2 => by omega⟩
    · rename_i h
      have hne : s ≠ r := fun e => h (e ▸ h3)
      have ih := leastFrom_spec n (r + 1) ⟨s, by omega, by omega, h3⟩
      refine ⟨by omega, ih.2.1, fun t h4 h5 => ?_⟩
      by_cases e : t = r
      · subst e; simpa using h
      · exact ih.2.2 t (by omega) h5
/-- The shortest run for jobs on one plate, or 0. -/
def leastV (xs : List Int) (slots : Int) : Int := if slots < xs.length then 0 else leastFrom (fun r => decide (needV xs r ≤ slots)) 1048576 1
/-- r is the shortest run. -/
def IsLeast (xs : List Int) (slots r : Int) : Prop := 1 ≤ r ∧ needV xs r ≤ slots ∧ (r = 1 ∨ slots < needV xs (r - 1))
theorem isLeast_unique {xs : List Int} (hx : Demands xs) {slots r s : Int} (hr : IsLeast xs slots r) (hs : IsLeast xs slots s) : r = s := by
  obtain ⟨a1, a2, a3⟩ := hr
  obtain ⟨b1, b2, b3⟩ := hs
  rcases Int.lt_trichotomy r s with h | h | h
  · rcases b3 with b3 | b3
    · omega
    · have := needV_anti hx a1 (show r ≤ s - 1 by omega)
      omega
  · exact h
  · rcases a3 with a3 | a3
    · omega
    · have := needV_anti hx b1 (show s ≤ r - 1 by omega)
      omega
theorem leastV_isLeast {xs : List Int} (hx : Demands xs) {slots : Int} (h : (xs.length : Int) ≤ slots) : IsLeast xs slots (leastV xs slots) ∧ leastV xs slots ≤ 1048576 := by
  unfold leastV
  rw [if_neg (by omega)]
  have hm := needV_most hx (r := 1048576) (by omega) (fun d hd => (hx d hd).2)
  have hs := leastFrom_spec (p := fun r => decide (needV xs r ≤ slots)) 1048576 1 ⟨1048576, by omega, by omega, decide_eq_true (by omega)⟩
  generalize leastFrom (fun r => decide (needV xs r ≤ slots)) 1048576 1 = r at *
  obtain ⟨h1, h2, h3⟩ := hs
  refine ⟨⟨h1, of_decide_eq_true h2, ?_⟩, ?_⟩
  · by_cases e : r = 1
    · exact .inl e
    · have := of_decide_eq_false (h3 (r - 1) (by omega) (by omega))
      exact .inr (by omega)
  · by_cases e : r ≤ 1048576
    · exact e
    · have := of_decide_eq_false (h3 1048576 (by omega) (by omega))
      omega
theorem leastV_eq {xs : List Int} (hx : Demands xs) {slots r : Int} (h : (xs.length : Int) ≤ slots) (hr : IsLeast xs slots r) : leastV xs slots = r :=
  isLeast_unique hx (leastV_isLeast hx h).1 hr
theorem leastV_zero {xs : List Int} {slots : Int} (h : slots < xs.length) : leastV xs slots = 0 := if_pos h
/-- The greatest element. -/
def maxV (xs : List Int) : Int := xs.foldl max (xs.headD 0)
theorem foldl_max (xs : List Int) : ∀ a : Int, a ≤ xs.foldl max a ∧ (∀ x ∈ xs, x ≤ xs.foldl max a) ∧ (xs.foldl max a = a ∨ xs.foldl max a ∈ xs) := by
  induction xs with
  | nil => intro a; simp
  | cons x xs ih =>
    intro a
    have h := ih (max a x)
    rw [List.foldl_cons]
    refine ⟨by omega, fun y hy => ?_, ?_⟩
    · rcases List.mem_cons.1 hy with rfl | hy
      · omega
      · exact h.2.1 y hy
    · rcases h.2.2 with h1 | h1
      · rcases Int.le_total a x with h2 | h2
        · right
          rw [h1, Int.max_eq_right h2]
          simp
        · left
          rw [h1, Int.max_eq_left h2]
      · right
        exact List.mem_cons_of_mem _ h1
theorem maxV_spec {xs : List Int} (h : 1 ≤ xs.length) : (∀ x ∈ xs, x ≤ maxV xs) ∧ maxV xs ∈ xs := by
  cases xs with
  | nil => simp at h
  | cons x xs =>
    have h1 := foldl_max (x :: xs) x
    unfold maxV
    rw [List.headD_cons]
    refine ⟨h1.2.1, ?_⟩
    rcases h1.2.2 with h2 | h2
    · rw [h2]; simp
    · exact h2
/-- The greatest of the first k elements. -/
def maxTo (xs : List Int) (k : Nat) : Int := (xs.take k).foldl max (xs.headD 0)
theorem maxTo_one {xs : List Int} (h : 0 < xs.length) : maxTo xs 1 = xs[0] := by
  cases xs with
  | nil => simp at h
  | cons x r => simp [maxTo]
theorem maxTo_succ {xs : List Int} {k : Nat} (h : k < xs.length) : maxTo xs (k + 1) = max (maxTo xs k) xs[k] := foldl_take_succ _ _ _ _ h
theorem maxTo_all {xs : List Int} {k : Nat} (h : xs.length ≤ k) : maxTo xs k = maxV xs := by
  unfold maxTo maxV
  rw [List.take_of_length_le h]
end Go.Proofs.Ytimofofaeedcoaa
