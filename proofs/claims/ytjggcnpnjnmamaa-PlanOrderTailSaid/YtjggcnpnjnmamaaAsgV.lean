/-
  The reference's Assigned as a function; it is the least cost. No program in sight. Own text.
-/
import Derived.Test.YtjggcnpnjnmamaaPlanLaw
namespace Go.Proofs.Ytjggcnpnjnmamaa
set_option linter.unusedVariables false
/-- The least of x j over the columns below q that are not used; -1: none. -/
def asgTo (used : Nat → Bool) (x : Nat → Int) : Nat → Int
  | 0 => -1
  | q + 1 => if used q = true then asgTo used x q else if asgTo used x q < 0 ∨ x q < asgTo used x q then x q else asgTo used x q
/-- One column more is used. -/
def useC (used : Nat → Bool) (j i : Nat) : Bool := if i = j then true else used i
/-- The least cost of the last f rows. -/
def asg (rows : List (List Int)) (N m : Nat) : Nat → (Nat → Bool) → Int
  | 0, _ => 0
  | f + 1, used => asgTo used (fun j => cOf rows (N - (f + 1) + 1) (j + 1) + asg rows N m f (useC used j)) m
def freeN (used : Nat → Bool) : Nat → Nat
  | 0 => 0
  | q + 1 => freeN used q + if used q = true then 0 else 1
theorem freeN_use_out {used : Nat → Bool} {j : Nat} : ∀ {q : Nat}, q ≤ j → freeN (useC used j) q = freeN used q := by
  intro q
  induction q with
  | zero => intro _; rfl
  | succ q ih =>
    intro h
    simp only [freeN]
    rw [ih (by omega)]
    unfold useC
    rw [if_neg (show ¬ q = j by omega)]
theorem freeN_use {used : Nat → Bool} {j : Nat} (hj : used j = false) : ∀ {q : Nat}, j < q → freeN (useC used j) q + 1 = freeN used q := by
  intro q
  induction q with
  | zero => intro h; omega
  | succ q ih =>
    intro h
    simp only [freeN]
    by_cases e : j = q
    · subst e
      rw [freeN_use_out (Nat.le_refl _)]
      unfold useC
      rw [if_pos rfl, hj]
      simp
    · have := ih (by omega)
      have e2 : useC used j q = used q := by unfold useC; rw [if_neg (fun e' => e e'.symm)]
      rw [e2]
      omega
theorem freeN_pos {used : Nat → Bool} : ∀ {q : Nat}, 0 < freeN used q → ∃ j, j < q ∧ used j = false := by
  intro q
  induction q with
  | zero => intro h; simp [freeN] at h
  | succ q ih =>
    intro h
    simp only [freeN] at h
    by_cases e : used q = true
    · rw [if_pos e] at h
      obtain ⟨j, h1, h2⟩ := ih (by omega)
      exact ⟨j, by omega, h2⟩
    · exact ⟨q, by omega, by simpa using e⟩
theorem asgTo_spec {used : Nat → Bool} {x : Nat → Int} : ∀ {q : Nat}, (∀ j, j < q → used j = false → 0 ≤ x j) →
    ((∀ j, j < q → used j = true) ∧ asgTo used x q = -1) ∨ ∃ j, j < q ∧ used j = false ∧ asgTo used x q = x j ∧ ∀ j', j' < q → used j' = false → x j ≤ x j' := by
  intro q
  induction q with
  | zero => intro _; exact .inl ⟨fun j h => by omega, rfl⟩
  | succ q ih =>
    intro h
    simp only [asgTo]
    have h1 := ih (fun j hj hu => h j (by omega) hu)
    by_cases e : used q = true
    · rw [if_pos e]
      rcases h1 with ⟨a, b⟩ | ⟨j, a, b, c, d⟩
      · refine .inl ⟨fun j hj => ?_, b⟩
        by_cases ej : j = q
        · rw [ej]; exact e
        · exact a j (by omega)
      · refine .inr ⟨j, by omega, b, c, fun j' hj' hu => ?_⟩
        by_cases ej : j' = q
        · rw [ej, e] at hu; cases hu
        · exact d j' (by omega) hu
    · have e' : used q = false := by simpa using e
      rw [if_neg e]
      have hq := h q (by omega) e'
      rcases h1 with ⟨a, b⟩ | ⟨j, a, b, c, d⟩
      · rw [b, if_pos (.inl (by omega))]
        refine .inr ⟨q, by omega, e', rfl, fun j' hj' hu => ?_⟩
        by_cases ej : j' = q
        · rw [ej]; exact Int.le_refl _
        · have := a j' (by omega)
          rw [this] at hu; cases hu
      · have hj := h j (by omega) b
        rw [c]
        by_cases hl : x q < x j
        · rw [if_pos (.inr hl)]
          refine .inr ⟨q, by omega, e', rfl, fun j' hj' hu => ?_⟩
          by_cases ej : j' = q
          · rw [ej]; exact Int.le_refl _
          · have := d j' (by omega) hu
            omega
        · rw [if_neg (by omega)]
          refine .inr ⟨j, by omega, b, rfl, fun j' hj' hu => ?_⟩
          by_cases ej : j' = q
          · rw [ej]; omega
          · exact d j' (by omega) hu
theorem asgTo_range {used : Nat → Bool} {x : Nat → Int} {B : Int} : ∀ {q : Nat}, (∀ j, j < q → used j = false → 0 ≤ x j ∧ x j ≤ B) → -1 ≤ B → -1 ≤ asgTo used x q ∧ asgTo used x q ≤ B := by
  intro q
  induction q with
  | zero => intro _ h; simp only [asgTo]; omega
  | succ q ih =>
    intro h hB
    have h1 := ih (fun j hj hu => h j (by omega) hu) hB
    simp only [asgTo]
    split
    · exact h1
    · rename_i e
      have h2 := h q (by omega) (by simpa using e)
      split <;> omega
/-- The cost of the last f rows at the columns q. -/
def sumF (rows : List (List Int)) (N : Nat) (q : Nat → Nat) : Nat → Int
  | 0 => 0
  | f + 1 => cOf rows (N - (f + 1) + 1) (q (N - (f + 1)) + 1) + sumF rows N q f
/-- The last f rows have different columns that are not used. -/
def ValidF (N m f : Nat) (used : Nat → Bool) (q : Nat → Nat) : Prop := (∀ i, N - f ≤ i → i < N → q i < m ∧ used (q i) = false) ∧ ∀ i i', N - f ≤ i → i < N → N - f ≤ i' → i' < N → q i = q i' → i = i'
section
variable {rows : List (List Int)} {N m : Nat}
theorem asg_bd (hc : ∀ r j, 0 ≤ cOf rows r j ∧ cOf rows r j ≤ 1048576) : ∀ {f : Nat} {used : Nat → Bool}, f ≤ freeN used m → 0 ≤ asg rows N m f used ∧ asg rows N m f used ≤ 1048576 * f := by
  intro f
  induction f with
  | zero => intro used _; simp [asg]
  | succ f ih =>
    intro used h
    have hx : ∀ j, j < m → used j = false → 0 ≤ cOf rows (N - (f + 1) + 1) (j + 1) + asg rows N m f (useC used j) ∧ cOf rows (N - (f + 1) + 1) (j + 1) + asg rows N m f (useC used j) ≤ 1048576 * (f + 1) := fun j hj hu => by
      have h1 := ih (used := useC used j) (by have := freeN_use hu hj; omega)
      have h2 := hc (N - (f + 1) + 1) (j + 1)
      omega
    simp only [asg]
    rcases asgTo_spec (used := used) (x := fun j => cOf rows (N - (f + 1) + 1) (j + 1) + asg rows N m f (useC used j)) (fun j hj hu => (hx j hj hu).1) with ⟨a, b⟩ | ⟨j, a, b, c, d⟩
    · obtain ⟨j, h1, h2⟩ := freeN_pos (used := used) (q := m) (by omega)
      have := a j h1
      rw [this] at h2; cases h2
    · have := hx j a b
      rw [c]
      omega
theorem sumF_congr {q q' : Nat → Nat} : ∀ {f : Nat}, f ≤ N → (∀ i, N - f ≤ i → i < N → q i = q' i) → sumF rows N q f = sumF rows N q' f := by
  intro f
  induction f with
  | zero => intro _ _; rfl
  | succ f ih =>
    intro hf h
    simp only [sumF]
    rw [h (N - (f + 1)) (Nat.le_refl _) (by omega), ih (by omega) (fun i h1 h2 => h i (by omega) h2)]
/-- The least is the cost of some choice. -/
theorem asg_some (hc : ∀ r j, 0 ≤ cOf rows r j ∧ cOf rows r j ≤ 1048576) : ∀ {f : Nat} {used : Nat → Bool}, f ≤ N → f ≤ freeN used m → ∃ q, ValidF N m f used q ∧ asg rows N m f used = sumF rows N q f := by
  intro f
  induction f with
  | zero => intro used _ _; exact ⟨fun _ => 0, ⟨fun i h1 h2 => by omega, fun i i' h1 h2 => by omega⟩, rfl⟩
  | succ f ih =>
    intro used hf h
    have hx : ∀ j, j < m → used j = false → 0 ≤ cOf rows (N - (f + 1) + 1) (j + 1) + asg rows N m f (useC used j) := fun j hj hu => by
      have h1 := asg_bd (N := N) hc (f := f) (used := useC used j) (m := m) (by have := freeN_use hu hj; omega)
      have h2 := hc (N - (f + 1) + 1) (j + 1)
      omega
    rcases asgTo_spec (used := used) (x := fun j => cOf rows (N - (f + 1) + 1) (j + 1) + asg rows N m f (useC used j)) hx with ⟨a, b⟩ | ⟨j, a, b, c, d⟩
    · obtain ⟨j, h1, h2⟩ := freeN_pos (used := used) (q := m) (by omega)
      have := a j h1
      rw [this] at h2; cases h2
    · obtain ⟨q, ⟨v1, v2⟩, hq⟩ := ih (used := useC used j) (by omega) (by have := freeN_use b a; omega)
      refine ⟨fun i => if i = N - (f + 1) then j else q i, ⟨fun i h1 h2 => ?_, fun i i' h1 h2 h1' h2' e => ?_⟩, ?_⟩
      · by_cases e : i = N - (f + 1)
        · simp only [if_pos e]; exact ⟨a, b⟩
        · simp only [if_neg e]
          obtain ⟨w1, w2⟩ := v1 i (by omega) h2
          refine ⟨w1, ?_⟩
          unfold useC at w2
          split at w2
          · cases w2
          · exact w2
      · by_cases e1 : i = N - (f + 1)
        · by_cases e2 : i' = N - (f + 1)
          · omega
          · simp only [if_pos e1, if_neg e2] at e
            have := (v1 i' (by omega) h2').2
            rw [← e] at this
            unfold useC at this
            rw [if_pos rfl] at this
            cases this
        · by_cases e2 : i' = N - (f + 1)
          · simp only [if_neg e1, if_pos e2] at e
            have := (v1 i (by omega) h2).2
            rw [e] at this
            unfold useC at this
            rw [if_pos rfl] at this
            cases this
          · simp only [if_neg e1, if_neg e2] at e
            exact v2 i i' (by omega) h2 (by omega) h2' e
      · simp only [asg, sumF, if_pos]
        rw [c, hq]
        congr 1
        exact sumF_congr (by omega) (fun i h1 h2 => (if_neg (by omega)).symm)
/-- No choice costs less. -/
theorem asg_le (hc : ∀ r j, 0 ≤ cOf rows r j ∧ cOf rows r j ≤ 1048576) : ∀ {f : Nat} {used : Nat → Bool} {q : Nat → Nat}, f ≤ N → f ≤ freeN used m → ValidF N m f used q → asg rows N m f used ≤ sumF rows N q f := by
  intro f
  induction f with
  | zero => intro used q _ _ _; exact Int.le_refl _
  | succ f ih =>
    intro used q hf h hv
    have hx : ∀ j, j < m → used j = false → 0 ≤ cOf rows (N - (f + 1) + 1) (j + 1) + asg rows N m f (useC used j) := fun j hj hu => by
      have h1 := asg_bd (N := N) hc (f := f) (used := useC used j) (m := m) (by have := freeN_use hu hj; omega)
      have h2 := hc (N - (f + 1) + 1) (j + 1)
      omega
    obtain ⟨p1, p2⟩ := hv.1 (N - (f + 1)) (Nat.le_refl _) (by omega)
    rcases asgTo_spec (used := used) (x := fun j => cOf rows (N - (f + 1) + 1) (j + 1) + asg rows N m f (useC used j)) hx with ⟨a, b⟩ | ⟨j, a, b, c, d⟩
    · have := a _ p1
      rw [this] at p2; cases p2
    · have h1 := d _ p1 p2
      have h2 := ih (used := useC used (q (N - (f + 1)))) (q := q) (by omega) (by have := freeN_use p2 p1; omega) ⟨fun i i1 i2 => by
        obtain ⟨w1, w2⟩ := hv.1 i (by omega) i2
        refine ⟨w1, ?_⟩
        unfold useC
        rw [if_neg (fun e => by have := hv.2 i (N - (f + 1)) (by omega) i2 (Nat.le_refl _) (by omega) e; omega)]
        exact w2, fun i i' i1 i2 i1' i2' e => hv.2 i i' (by omega) i2 (by omega) i2' e⟩
      simp only [asg, sumF]
      rw [c]
      omega
theorem sumF_sumN {q : Nat → Nat} : ∀ {f : Nat}, f ≤ N → sumN (fun i => cOf rows (i + 1) (q i + 1)) (N - f) + sumF rows N q f = sumN (fun i => cOf rows (i + 1) (q i + 1)) N := by
  intro f
  induction f with
  | zero => intro _; simp [sumF]
  | succ f ih =>
    intro hf
    have h1 := ih (by omega)
    have e : N - f = N - (f + 1) + 1 := by omega
    rw [e] at h1
    simp only [sumN] at h1
    simp only [sumF]
    omega
theorem freeN_none : ∀ q, freeN (fun _ => false) q = q := by
  intro q
  induction q with
  | zero => rfl
  | succ q ih => simp only [freeN, ih]; simp
variable {u v : Nat → Int} {pr : Nat → Nat} {press job fee : Nat → Int} {cost : Int}
/-- The plan costs what the reference says. -/
theorem IsPlan.asg (h : IsPlan N m (cOf rows) u v pr press job fee cost) (hN : N ≤ m) (hc : ∀ r j, 0 ≤ cOf rows r j ∧ cOf rows r j ≤ 1048576) : asg rows N m N (fun _ => false) = cost := by
  have hf : N ≤ freeN (fun _ => false) m := by rw [freeN_none]; exact hN
  obtain ⟨q, ⟨v1, v2⟩, hq⟩ := asg_some (N := N) hc (Nat.le_refl N) hf
  have h1 := h.leastN q (fun i hi => (v1 i (by omega) hi).1) (fun i i' hi hi' e => v2 i i' (by omega) hi (by omega) hi' e)
  have h2 := sumF_sumN (rows := rows) (N := N) (q := q) (Nat.le_refl N)
  rw [Nat.sub_self] at h2
  simp only [sumN] at h2
  have hp : ∀ i, i < N → (press i).toNat < m ∧ (press i).toNat + 1 = pr (i + 1) := fun i hi => by
    obtain ⟨a1, a2, a3, a4⟩ := h.pressN hi
    exact ⟨by omega, a4⟩
  have h3 := asg_le (N := N) hc (Nat.le_refl N) hf (q := fun i => (press i).toNat) ⟨fun i i1 i2 => ⟨(hp i i2).1, rfl⟩, fun i i' i1 i2 i1' i2' e => by
    have a := hp i i2
    have b := hp i' i2'
    have e' : (press i).toNat = (press i').toNat := e
    have := h.p0.inj (i + 1) (i' + 1) (by omega) (by omega) (by omega) (by omega) (by omega)
    omega⟩
  have h4 := sumF_sumN (rows := rows) (N := N) (q := fun i => (press i).toNat) (Nat.le_refl N)
  rw [Nat.sub_self] at h4
  simp only [sumN] at h4
  have h5 := h.costN
  omega
end
end Go.Proofs.Ytjggcnpnjnmamaa
