/-
  The cheapest order of jobs with washing between them: the reference's recursion, plain. No program in sight. Own text.
-/
import Derived.Test.YtjggcnpnjnmamaaAsgV
namespace Go.Proofs.Ytjggcnpnjnmamaa
set_option linter.unusedVariables false
/-- What it costs to do job j behind job 'last' (-1: none). -/
def cst (first : List Int) (W : List (List Int)) (last : Int) (j : Nat) : Int := if last < 0 then at0 first j else cOf W (last.toNat + 1) (j + 1)
/-- The cheapest of the jobs below q that are not done, with the order behind it. -/
def wshTo (used : Nat → Bool) (c : Nat → Int) (r : Nat → Int × List Int) : Nat → Int × List Int
  | 0 => (-1, [])
  | q + 1 => if used q = true then wshTo used c r q else if (wshTo used c r q).1 < 0 ∨ c q + (r q).1 < (wshTo used c r q).1 then (c q + (r q).1, (q : Int) :: (r q).2) else wshTo used c r q
/-- The least cost of d jobs that are left behind job 'last', and the first such order. -/
def wsh (first : List Int) (W : List (List Int)) (n : Nat) : Nat → (Nat → Bool) → Int → Int × List Int
  | 0, _, _ => (0, [])
  | d + 1, used, last => wshTo used (cst first W last) (fun j => wsh first W n d (useC used j) j) n
/-- The program's search: the step and its cost. -/
def stpTo (used : Nat → Bool) (x : Nat → Int) : Nat → Int × Int
  | 0 => (-1, 0)
  | q + 1 => if used q = true then stpTo used x q else if (stpTo used x q).1 < 0 ∨ x q < (stpTo used x q).2 then ((q : Int), x q) else stpTo used x q
theorem wshTo_fst {used : Nat → Bool} {c : Nat → Int} {r : Nat → Int × List Int} : ∀ {q : Nat}, (wshTo used c r q).1 = asgTo used (fun j => c j + (r j).1) q := by
  intro q
  induction q with
  | zero => rfl
  | succ q ih =>
    simp only [wshTo, asgTo]
    rw [← ih]
    split
    · rfl
    · split <;> rfl
theorem stpTo_spec {used : Nat → Bool} {c : Nat → Int} {r : Nat → Int × List Int} {x : Nat → Int} : ∀ {q : Nat}, (∀ j, j < q → used j = false → x j = c j + (r j).1) → (∀ j, j < q → used j = false → 0 ≤ x j) →
    (stpTo used x q = (-1, 0) ∧ wshTo used c r q = (-1, []) ∧ ∀ j, j < q → used j = true) ∨ ∃ j : Nat, j < q ∧ used j = false ∧ stpTo used x q = ((j : Int), x j) ∧ wshTo used c r q = (x j, (j : Int) :: (r j).2) := by
  intro q
  induction q with
  | zero => intro _ _; exact .inl ⟨rfl, rfl, fun j h => by omega⟩
  | succ q ih =>
    intro hx h0
    have ih := ih (fun j hj hu => hx j (by omega) hu) (fun j hj hu => h0 j (by omega) hu)
    simp only [stpTo, wshTo]
    by_cases hu : used q = true
    · rw [if_pos hu, if_pos hu]
      rcases ih with ⟨a, b, d⟩ | ⟨j, a, b, d, e⟩
      · refine .inl ⟨a, b, fun j hj => ?_⟩
        by_cases e : j = q
        · rw [e]; exact hu
        · exact d j (by omega)
      · exact .inr ⟨j, by omega, b, d, e⟩
    · have hu' : used q = false := by simpa using hu
      rw [if_neg hu, if_neg hu, ← hx q (by omega) hu']
      rcases ih with ⟨a, b, d⟩ | ⟨j, a, b, d, e⟩
      · rw [a, b, if_pos (.inl (by simp)), if_pos (.inl (by simp))]
        exact .inr ⟨q, by omega, hu', rfl, rfl⟩
      · have hj := h0 j (by omega) b
        rw [d, e]
        by_cases hl : x q < x j
        · rw [if_pos (.inr hl), if_pos (.inr hl)]
          exact .inr ⟨q, by omega, hu', rfl, rfl⟩
        · have n1 : ¬ (((j : Int), x j).1 < 0 ∨ x q < ((j : Int), x j).2) := by
            intro h
            rcases h with h | h
            · have h9 : (j : Int) < 0 := h
              omega
            · exact hl h
          have n2 : ¬ ((x j, (j : Int) :: (r j).2).1 < 0 ∨ x q < (x j, (j : Int) :: (r j).2).1) := by
            intro h
            rcases h with h | h
            · have h9 : x j < 0 := h
              omega
            · exact hl h
          rw [if_neg n1, if_neg n2]
          exact .inr ⟨j, by omega, b, rfl, rfl⟩
theorem stpTo_bd {used : Nat → Bool} {x : Nat → Int} {B : Int} (hB : 0 ≤ B) (h : ∀ j, used j = false → 0 ≤ x j ∧ x j ≤ B) : ∀ {q : Nat}, -1 ≤ (stpTo used x q).1 ∧ (stpTo used x q).1 < q ∧ 0 ≤ (stpTo used x q).2 ∧ (stpTo used x q).2 ≤ B := by
  intro q
  induction q with
  | zero => simp only [stpTo]; omega
  | succ q ih =>
    simp only [stpTo]
    split
    · omega
    · rename_i hu
      have := h q (by simpa using hu)
      split
      · simp only; omega
      · omega
theorem cst_bd {first : List Int} {W : List (List Int)} (hf : ∀ j, 0 ≤ at0 first j ∧ at0 first j ≤ 1048576) (hW : ∀ i j, 0 ≤ cOf W i j ∧ cOf W i j ≤ 1048576) (last : Int) (j : Nat) : 0 ≤ cst first W last j ∧ cst first W last j ≤ 1048576 := by
  unfold cst
  split
  · exact hf j
  · exact hW _ _
theorem wshTo_bd {used : Nat → Bool} {c : Nat → Int} {r : Nat → Int × List Int} {n : Nat} {B : Int} (h : ∀ j, j < n → used j = false → 0 ≤ c j + (r j).1 ∧ c j + (r j).1 ≤ B) (hf : 0 < freeN used n) : 0 ≤ (wshTo used c r n).1 ∧ (wshTo used c r n).1 ≤ B := by
  rw [wshTo_fst]
  rcases asgTo_spec (used := used) (x := fun j => c j + (r j).1) (q := n) (fun j hj hu => (h j hj hu).1) with ⟨a, _⟩ | ⟨j, a, b, d, _⟩
  · obtain ⟨j, h1, h2⟩ := freeN_pos hf
    have := a j h1
    rw [h2] at this; cases this
  · rw [d]
    exact h j a b
/-- The cost of d jobs is small. -/
theorem wsh_bd {first : List Int} {W : List (List Int)} {n : Nat} (hf : ∀ j, 0 ≤ at0 first j ∧ at0 first j ≤ 1048576) (hW : ∀ i j, 0 ≤ cOf W i j ∧ cOf W i j ≤ 1048576) : ∀ {d : Nat} {used : Nat → Bool} {last : Int}, freeN used n = d → 0 ≤ (wsh first W n d used last).1 ∧ (wsh first W n d used last).1 ≤ 1048576 * d := by
  intro d
  induction d with
  | zero => intro used last _; simp [wsh]
  | succ d ih =>
    intro used last h
    simp only [wsh]
    refine wshTo_bd (fun j hj hu => ?_) (by omega)
    have h1 := cst_bd hf hW last j
    have h2 := ih (used := useC used j) (last := (j : Int)) (by have := freeN_use hu hj; omega)
    omega
theorem wshTo_congr {used : Nat → Bool} {c c' : Nat → Int} {r r' : Nat → Int × List Int} : ∀ {q : Nat}, (∀ j, j < q → used j = false → c j = c' j ∧ r j = r' j) → wshTo used c r q = wshTo used c' r' q := by
  intro q
  induction q with
  | zero => intro _; rfl
  | succ q ih =>
    intro h
    simp only [wshTo]
    rw [ih (fun j hj hu => h j (by omega) hu)]
    by_cases hu : used q = true
    · rw [if_pos hu, if_pos hu]
    · obtain ⟨h1, h2⟩ := h q (by omega) (by simpa using hu)
      rw [h1, h2]
/-- The order has d jobs, each of them a job. -/
theorem wsh_len {first : List Int} {W : List (List Int)} {n : Nat} (hf : ∀ j, 0 ≤ at0 first j ∧ at0 first j ≤ 1048576) (hW : ∀ i j, 0 ≤ cOf W i j ∧ cOf W i j ≤ 1048576) : ∀ {d : Nat} {used : Nat → Bool} {last : Int}, freeN used n = d → (wsh first W n d used last).2.length = d ∧ ∀ x ∈ (wsh first W n d used last).2, 0 ≤ x ∧ x < n := by
  intro d
  induction d with
  | zero => intro used last _; simp [wsh]
  | succ d ih =>
    intro used last h
    simp only [wsh]
    have hne : ∀ j, used j = false → j < n → freeN (useC used j) n = d := fun j hu hj => by have := freeN_use hu hj; omega
    have key : ∀ q, q ≤ n → (wshTo used (cst first W last) (fun j => wsh first W n d (useC used j) j) q = (-1, []) ∧ ∀ j, j < q → used j = true) ∨ ((wshTo used (cst first W last) (fun j => wsh first W n d (useC used j) j) q).2.length = d + 1 ∧ 0 ≤ (wshTo used (cst first W last) (fun j => wsh first W n d (useC used j) j) q).1 ∧ ∀ x ∈ (wshTo used (cst first W last) (fun j => wsh first W n d (useC used j) j) q).2, 0 ≤ x ∧ x < n) := by
      intro q
      induction q with
      | zero => intro _; exact .inl ⟨rfl, fun j h => by omega⟩
      | succ q ihq =>
        intro hq
        simp only [wshTo]
        have ihq := ihq (by omega)
        by_cases hu : used q = true
        · rw [if_pos hu]
          rcases ihq with ⟨a, b⟩ | a
          · refine .inl ⟨a, fun j hj => ?_⟩
            by_cases e : j = q
            · rw [e]; exact hu
            · exact b j (by omega)
          · exact .inr a
        · rw [if_neg hu]
          have hu' : used q = false := by simpa using hu
          have h1 := ih (used := useC used q) (last := (q : Int)) (hne q hu' (by omega))
          have h2 := wsh_bd hf hW (d := d) (used := useC used q) (last := (q : Int)) (hne q hu' (by omega))
          have h3 := cst_bd hf hW last q
          have hnew : ((cst first W last q + (wsh first W n d (useC used q) q).1, (q : Int) :: (wsh first W n d (useC used q) q).2) : Int × List Int).2.length = d + 1 ∧ 0 ≤ ((cst first W last q + (wsh first W n d (useC used q) q).1, (q : Int) :: (wsh first W n d (useC used q) q).2) : Int × List Int).1 ∧ ∀ x ∈ ((cst first W last q + (wsh first W n d (useC used q) q).1, (q : Int) :: (wsh first W n d (useC used q) q).2) : Int × List Int).2, 0 ≤ x ∧ x < n := by
            refine ⟨by simp [h1.1], by simp only; omega, fun x hx => ?_⟩
            rcases List.mem_cons.1 hx with e | e
            · rw [e]; omega
            · exact h1.2 x e
          split
          · exact .inr hnew
          · rename_i hc
            rcases ihq with ⟨a, b⟩ | a
            · exfalso; rw [a] at hc; exact hc (.inl (by simp))
            · exact .inr a
    rcases key n (Nat.le_refl _) with ⟨a, b⟩ | ⟨a, _, b⟩
    · obtain ⟨j, h1, h2⟩ := freeN_pos (used := used) (q := n) (by omega)
      have := b j h1
      rw [h2] at this; cases this
    · exact ⟨a, b⟩
end Go.Proofs.Ytjggcnpnjnmamaa
