/-
  What a machine that puts copies together does. Plain. Own text.
-/
import Derived.Test.YtcpjpmijfjdifaaGreatDoorNum
namespace Go.Proofs.YtcpjpmijfjdifaaGreatDoor
set_option linter.unusedVariables false
structure Pt where
  copy : Int
  spoil : Bool
structure Ft where
  cyc : Int
  fdr : Int
  dbl : Bool
def ptAt (fs : List (List Pt)) (k i : Nat) : Pt := (fs.getD k []).getD i ⟨0, false⟩
def cp (fs : List (List Pt)) (k i : Nat) : Int := (ptAt fs k i).copy
def sp (fs : List (List Pt)) (k i : Nat) : Bool := (ptAt fs k i).spoil
def ln (fs : List (List Pt)) (k : Nat) : Nat := (fs.getD k []).length
theorem ptAt_get (fs : List (List Pt)) (k i : Nat) (hk : k < fs.length) (hi : i < fs[k].length) : ptAt fs k i = fs[k][i] := by
  simp [ptAt, List.getD_eq_getElem?_getD, hk, hi]
theorem ln_get (fs : List (List Pt)) (k : Nat) (hk : k < fs.length) : ln fs k = fs[k].length := by
  unfold ln
  rw [List.getD_eq_getElem?_getD, List.getElem?_eq_getElem hk]
  rfl
def hasEmpty (fs : List (List Pt)) (a : Nat → Nat) : Bool := (List.range fs.length).any fun k => a k == ln fs k
def mostTo (fs : List (List Pt)) (a : Nat → Nat) (n : Nat) : Int := (List.range n).foldl (fun m k => max m (cp fs k (a k))) 0
def mostV (fs : List (List Pt)) (a : Nat → Nat) : Int := mostTo fs a fs.length
theorem mostTo_succ (fs : List (List Pt)) (a : Nat → Nat) (n : Nat) : mostTo fs a (n + 1) = max (mostTo fs a n) (cp fs n (a n)) := by
  unfold mostTo
  rw [List.range_succ, List.foldl_append]
  rfl
theorem mostTo_ge (fs : List (List Pt)) (a : Nat → Nat) (n k : Nat) (h : k < n) : cp fs k (a k) ≤ mostTo fs a n := by
  induction n with
  | zero => omega
  | succ n ih =>
    rw [mostTo_succ]
    by_cases e : k = n
    · subst e; omega
    · have := ih (by omega); omega
theorem mostTo_nonneg (fs : List (List Pt)) (a : Nat → Nat) (n : Nat) : 0 ≤ mostTo fs a n := by
  induction n with
  | zero => simp [mostTo]
  | succ n ih => rw [mostTo_succ]; omega
theorem mostTo_is (fs : List (List Pt)) (a : Nat → Nat) (n : Nat) : mostTo fs a n = 0 ∨ ∃ k, k < n ∧ mostTo fs a n = cp fs k (a k) := by
  induction n with
  | zero => exact .inl rfl
  | succ n ih =>
    rw [mostTo_succ]
    by_cases e : mostTo fs a n ≤ cp fs n (a n)
    · exact .inr ⟨n, by omega, by omega⟩
    · rcases ih with h | ⟨k, hk, h⟩
      · left; omega
      · exact .inr ⟨k, by omega, by omega⟩
def lag (fs : List (List Pt)) (m : Int) (a : Nat → Nat) (k : Nat) : Bool := !(cp fs k (a k) == 0) && decide (cp fs k (a k) < m)
def anyLag (fs : List (List Pt)) (a : Nat → Nat) : Bool := (List.range fs.length).any (lag fs (mostV fs a) a)
def bumpV (fs : List (List Pt)) (m : Int) (a : Nat → Nat) : Nat → Nat := fun k => if lag fs m a k then a k + 1 else a k
/-- Parts are taken away until all feeders agree on the next copy. -/
inductive Align (fs : List (List Pt)) : (Nat → Nat) → Option Int → (Nat → Nat) → Prop
  | stop (a : Nat → Nat) : hasEmpty fs a = true → Align fs a none a
  | same (a : Nat → Nat) : hasEmpty fs a = false → anyLag fs a = false → Align fs a (some (mostV fs a)) a
  | step (a a' : Nat → Nat) (r : Option Int) : hasEmpty fs a = false → anyLag fs a = true → Align fs (bumpV fs (mostV fs a) a) r a' → Align fs a r a'
theorem Align.det {fs : List (List Pt)} {a a1 a2 : Nat → Nat} {r1 r2 : Option Int} (h : Align fs a r1 a1) : Align fs a r2 a2 → r1 = r2 ∧ a1 = a2 := by
  induction h with
  | stop a he => intro h2; cases h2 <;> simp_all
  | same a he hl => intro h2; cases h2 <;> simp_all
  | step a a' r he hl _ ih =>
    intro h2
    cases h2 with
    | stop _ he2 => simp_all
    | same _ he2 hl2 => simp_all
    | step _ _ _ _ _ h3 => exact ih h3
def hit (c : Nat) (k : Nat) (x : Ft) : Bool := x.cyc == (c : Int) && x.fdr == (k : Int)
def fedOf (r : Nat) (l : List Ft) : Nat := l.foldl (fun _ x => if x.dbl then min 2 r else 0) 1
/-- How many parts feeder k feeds in cycle c. -/
def fedV (fs : List (List Pt)) (F : List Ft) (c : Nat) (a : Nat → Nat) (k : Nat) : Nat := fedOf (ln fs k - a k) (F.filter (hit c k))
def fineV (fs : List (List Pt)) (F : List Ft) (c : Nat) (a : Nat → Nat) : Bool := (List.range fs.length).all fun k => fedV fs F c a k == 1 && !sp fs k (a k)
def usedV (fs : List (List Pt)) (a : Nat → Nat) : List Int := (List.range fs.length).map fun (k : Nat) => (a k : Int)
def goOn (fs : List (List Pt)) (F : List Ft) (c : Nat) (a : Nat → Nat) : Nat → Nat := fun k => a k + fedV fs F c a k
/-- The machine's cycles. -/
inductive Runs (fs : List (List Pt)) (F : List Ft) : Nat → (Nat → Nat) → List Int → List (List Int) → Nat → (Nat → Nat) → List Int → List (List Int) → Prop
  | stop (c : Nat) (a a' : Nat → Nat) (g : List Int) (p : List (List Int)) : Align fs a none a' → Runs fs F c a g p c a' g p
  | good (c c' : Nat) (a a1 a' : Nat → Nat) (m : Int) (g g' : List Int) (p p' : List (List Int)) : Align fs a (some m) a1 → fineV fs F c a1 = true → Runs fs F (c + 1) (goOn fs F c a1) (g ++ [m]) (p ++ [usedV fs a1]) c' a' g' p' → Runs fs F c a g p c' a' g' p'
  | bad (c c' : Nat) (a a1 a' : Nat → Nat) (m : Int) (g g' : List Int) (p p' : List (List Int)) : Align fs a (some m) a1 → fineV fs F c a1 = false → Runs fs F (c + 1) (goOn fs F c a1) g p c' a' g' p' → Runs fs F c a g p c' a' g' p'
theorem Runs.det {fs : List (List Pt)} {F : List Ft} {c c1 c2 : Nat} {a a1 a2 : Nat → Nat} {g g1 g2 : List Int} {p p1 p2 : List (List Int)} (h : Runs fs F c a g p c1 a1 g1 p1) : Runs fs F c a g p c2 a2 g2 p2 → c1 = c2 ∧ a1 = a2 ∧ g1 = g2 ∧ p1 = p2 := by
  induction h with
  | stop c a a' g p h1 =>
    intro h2
    cases h2 with
    | stop _ _ _ _ _ h3 => exact ⟨rfl, (h1.det h3).2, rfl, rfl⟩
    | good _ _ _ _ _ _ _ _ _ _ h3 => have := (h1.det h3).1; cases this
    | bad _ _ _ _ _ _ _ _ _ _ h3 => have := (h1.det h3).1; cases this
  | good c c' a a1 a' m g g' p p' h1 hf _ ih =>
    intro h2
    cases h2 with
    | stop _ _ _ _ _ h3 => have := (h1.det h3).1; cases this
    | good _ _ _ _ _ _ _ _ _ _ h3 _ h4 =>
      obtain ⟨e1, rfl⟩ := h1.det h3
      cases e1
      exact ih h4
    | bad _ _ _ _ _ _ _ _ _ _ h3 hf2 _ =>
      obtain ⟨e1, rfl⟩ := h1.det h3
      rw [hf] at hf2; cases hf2
  | bad c c' a a1 a' m g g' p p' h1 hf _ ih =>
    intro h2
    cases h2 with
    | stop _ _ _ _ _ h3 => have := (h1.det h3).1; cases this
    | good _ _ _ _ _ _ _ _ _ _ h3 hf2 _ =>
      obtain ⟨e1, rfl⟩ := h1.det h3
      rw [hf] at hf2; cases hf2
    | bad _ _ _ _ _ _ _ _ _ _ h3 _ h4 =>
      obtain ⟨e1, rfl⟩ := h1.det h3
      cases e1
      exact ih h4
/-- Positions that are within the feeders. -/
def Within (fs : List (List Pt)) (a : Nat → Nat) : Prop := ∀ k, k < fs.length → a k ≤ ln fs k
theorem hasEmpty_no {fs : List (List Pt)} {a : Nat → Nat} (h : hasEmpty fs a = false) (hw : Within fs a) {k : Nat} (hk : k < fs.length) : a k < ln fs k := by
  have h1 := List.any_eq_false.1 h k (List.mem_range.2 hk)
  have := hw k hk
  simp at h1
  omega
theorem bump_within {fs : List (List Pt)} {a : Nat → Nat} (h : hasEmpty fs a = false) (hw : Within fs a) (m : Int) : Within fs (bumpV fs m a) := by
  intro k hk
  have := hasEmpty_no h hw hk
  unfold bumpV
  split <;> omega
theorem Align.within {fs : List (List Pt)} {a a' : Nat → Nat} {r : Option Int} (h : Align fs a r a') (hw : Within fs a) : Within fs a' ∧ ∀ k, a k ≤ a' k := by
  induction h with
  | stop a he => exact ⟨hw, fun k => Nat.le_refl _⟩
  | same a he hl => exact ⟨hw, fun k => Nat.le_refl _⟩
  | step a a' r he hl _ ih =>
    have := ih (bump_within he hw _)
    refine ⟨this.1, fun k => ?_⟩
    have h1 := this.2 k
    unfold bumpV at h1
    split at h1 <;> omega
theorem Align.some_at {fs : List (List Pt)} {a a' : Nat → Nat} {r : Option Int} (h : Align fs a r a') : ∀ m, r = some m → hasEmpty fs a' = false ∧ anyLag fs a' = false ∧ m = mostV fs a' := by
  induction h with
  | stop a he => intro m e; cases e
  | same a he hl => intro m e; cases e; exact ⟨he, hl, rfl⟩
  | step a a' r he hl _ ih => exact ih
theorem Align.none_at {fs : List (List Pt)} {a a' : Nat → Nat} {r : Option Int} (h : Align fs a r a') : r = none → hasEmpty fs a' = true := by
  induction h with
  | stop a he => intro _; exact he
  | same a he hl => intro e; cases e
  | step a a' r he hl _ ih => exact ih
theorem fedOf_le (r : Nat) (l : List Ft) (h : 1 ≤ r) : fedOf r l ≤ r := by
  unfold fedOf
  suffices ∀ (l : List Ft) (n : Nat), n ≤ r → l.foldl (fun _ x => if x.dbl then min 2 r else 0) n ≤ r from this l 1 h
  intro l
  induction l with
  | nil => intro n hn; exact hn
  | cons x l ih =>
    intro n hn
    refine ih _ ?_
    show (if x.dbl = true then min 2 r else 0) ≤ r
    split <;> omega
theorem goOn_within {fs : List (List Pt)} {F : List Ft} {c : Nat} {a : Nat → Nat} (h : hasEmpty fs a = false) (hw : Within fs a) : Within fs (goOn fs F c a) := by
  intro k hk
  have h1 := hasEmpty_no h hw hk
  have h2 := fedOf_le (ln fs k - a k) (F.filter (hit c k)) (by omega)
  show a k + fedV fs F c a k ≤ _
  unfold fedV
  omega
theorem anyLag_no {fs : List (List Pt)} {a : Nat → Nat} (h : anyLag fs a = false) {k : Nat} (hk : k < fs.length) : cp fs k (a k) = 0 ∨ cp fs k (a k) = mostV fs a := by
  have h1 := List.any_eq_false.1 h k (List.mem_range.2 hk)
  have h2 : cp fs k (a k) ≤ mostV fs a := mostTo_ge fs a _ k hk
  unfold lag at h1
  simp at h1
  by_cases e : cp fs k (a k) = 0
  · exact .inl e
  · have := h1 e
    right; omega
/-! ### What holds at the end -/
/-- A copy that left the machine. -/
structure CopyOk (fs : List (List Pt)) (last : Nat → Int) (m : Int) (u : List Int) : Prop where
  len : u.length = fs.length
  at' : ∀ k (h : k < u.length), ∃ i : Nat, u[k] = i ∧ last k ≤ i ∧ i < ln fs k ∧ sp fs k i = false ∧ (cp fs k i = 0 ∨ cp fs k i = m)
  most : m = mostTo fs (fun k => (u.getD k 0).toNat) fs.length
end Go.Proofs.YtcpjpmijfjdifaaGreatDoor
