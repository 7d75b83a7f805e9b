/-
  What holds behind a machine's run: the laws of copies and counts. Plain. Own text.
-/
import Derived.Test.YtcpjpmijfjdifaaGreatDoorCollV
namespace Go.Proofs.YtcpjpmijfjdifaaGreatDoor
set_option linter.unusedVariables false
def lastAt (p : List (List Int)) : Nat → Nat → Int
  | 0, _ => 0
  | i + 1, k => (p.getD i []).getD k 0 + 1
theorem lastAt_app (p q : List (List Int)) (i k : Nat) (h : i ≤ p.length) : lastAt (p ++ q) i k = lastAt p i k := by
  cases i with
  | zero => rfl
  | succ i =>
    show ((p ++ q).getD i []).getD k 0 + 1 = (p.getD i []).getD k 0 + 1
    have e : (p ++ q).getD i [] = p.getD i [] := by
      rw [List.getD_eq_getElem?_getD, List.getElem?_append_left (by omega), ← List.getD_eq_getElem?_getD]
    rw [e]
structure RunInv (fs : List (List Pt)) (c : Nat) (a : Nat → Nat) (g : List Int) (p : List (List Int)) : Prop where
  win : Within fs a
  cyc : g.length ≤ c
  len : p.length = g.length
  used : ∀ k, k < fs.length → g.length ≤ a k
  last : ∀ k, k < fs.length → lastAt p p.length k ≤ a k
  ok : ∀ i (h : i < g.length) (h' : i < p.length), CopyOk fs (lastAt p i) g[i] p[i]
  mem : ∀ x ∈ g, x = 0 ∨ ∃ k i, k < fs.length ∧ i < ln fs k ∧ cp fs k i = x
theorem RunInv.align {fs : List (List Pt)} {c : Nat} {a a' : Nat → Nat} {g : List Int} {p : List (List Int)} {r : Option Int} (h : RunInv fs c a g p) (h1 : Align fs a r a') : RunInv fs c a' g p := by
  have h2 := h1.within h.win
  refine ⟨h2.1, h.cyc, h.len, fun k hk => Nat.le_trans (h.used k hk) (h2.2 k), fun k hk => ?_, h.ok, h.mem⟩
  have := h.last k hk
  have := h2.2 k
  omega
theorem fed_one {fs : List (List Pt)} {F : List Ft} {c : Nat} {a : Nat → Nat} (h : fineV fs F c a = true) {k : Nat} (hk : k < fs.length) : fedV fs F c a k = 1 ∧ sp fs k (a k) = false := by
  have := List.all_eq_true.1 h k (List.mem_range.2 hk)
  simpa using this
theorem usedV_len (fs : List (List Pt)) (a : Nat → Nat) : (usedV fs a).length = fs.length := by simp [usedV]
theorem usedV_get (fs : List (List Pt)) (a : Nat → Nat) (k : Nat) (h : k < (usedV fs a).length) : (usedV fs a)[k] = a k := by simp [usedV]
theorem usedV_getD (fs : List (List Pt)) (a : Nat → Nat) (k : Nat) (h : k < fs.length) : (usedV fs a).getD k 0 = a k := by
  rw [List.getD_eq_getElem?_getD, List.getElem?_eq_getElem (by rw [usedV_len]; exact h), Option.getD_some, usedV_get]
theorem mostTo_congr (fs : List (List Pt)) (a b : Nat → Nat) (n : Nat) (h : ∀ k, k < n → a k = b k) : mostTo fs a n = mostTo fs b n := by
  induction n with
  | zero => rfl
  | succ n ih => rw [mostTo_succ, mostTo_succ, ih fun k hk => h k (by omega), h n (by omega)]
theorem RunInv.good {fs : List (List Pt)} {F : List Ft} {c : Nat} {a : Nat → Nat} {g : List Int} {p : List (List Int)} (h : RunInv fs c a g p) (he : hasEmpty fs a = false) (hl : anyLag fs a = false) (hf : fineV fs F c a = true) : RunInv fs (c + 1) (goOn fs F c a) (g ++ [mostV fs a]) (p ++ [usedV fs a]) := by
  have hg : ∀ k, k < fs.length → goOn fs F c a k = a k + 1 := fun k hk => by show a k + fedV fs F c a k = _; rw [(fed_one hf hk).1]
  refine ⟨goOn_within he h.win, ?_, ?_, ?_, ?_, ?_, ?_⟩
  · have := h.cyc; simp; omega
  · have := h.len; simp; omega
  · intro k hk
    have := h.used k hk
    rw [hg k hk]; simp; omega
  · intro k hk
    rw [List.length_append, hg k hk]
    show ((p ++ [usedV fs a]).getD p.length []).getD k 0 + 1 ≤ _
    have e : (p ++ [usedV fs a]).getD p.length [] = usedV fs a := by simp
    rw [e, usedV_getD fs a k hk]
    omega
  · intro i hi hi'
    by_cases e : i < g.length
    · have e' : i < p.length := by rw [h.len]; exact e
      rw [List.getElem_append_left e, List.getElem_append_left e']
      have h1 := h.ok i e e'
      refine ⟨h1.len, fun k hk => ?_, h1.most⟩
      rw [lastAt_app p _ i k (by omega)]
      exact h1.at' k hk
    · obtain rfl : i = g.length := by simp at hi; omega
      have hp := h.len
      rw [List.getElem_append_right (Nat.le_refl _), List.getElem_append_right (by omega)]
      have e2 : (p ++ [usedV fs a]).length = p.length + 1 := by simp
      simp only [Nat.sub_self, List.getElem_cons_zero, hp]
      refine ⟨usedV_len fs a, fun k hk => ?_, ?_⟩
      · have hk' : k < fs.length := by rw [usedV_len] at hk; exact hk
        refine ⟨a k, usedV_get fs a k hk, ?_, hasEmpty_no he h.win hk', (fed_one hf hk').2, anyLag_no hl hk'⟩
        rw [lastAt_app p _ _ k (by omega), ← hp]
        exact h.last k hk'
      · exact mostTo_congr fs _ _ _ fun k hk => by rw [usedV_getD fs a k hk]; simp
  · intro x hx
    rcases List.mem_append.1 hx with hx | hx
    · exact h.mem x hx
    · obtain rfl := List.mem_singleton.1 hx
      rcases mostTo_is fs a fs.length with e | ⟨k, hk, e⟩
      · exact .inl e
      · exact .inr ⟨k, a k, hk, hasEmpty_no he h.win hk, e.symm⟩
theorem RunInv.bad {fs : List (List Pt)} {F : List Ft} {c : Nat} {a : Nat → Nat} {g : List Int} {p : List (List Int)} (h : RunInv fs c a g p) (he : hasEmpty fs a = false) : RunInv fs (c + 1) (goOn fs F c a) g p := by
  refine ⟨goOn_within he h.win, by have := h.cyc; omega, h.len, fun k hk => ?_, fun k hk => ?_, h.ok, h.mem⟩
  · have := h.used k hk
    show _ ≤ a k + fedV fs F c a k
    omega
  · have := h.last k hk
    show _ ≤ ((a k + fedV fs F c a k : Nat) : Int)
    omega
theorem Runs.inv {fs : List (List Pt)} {F : List Ft} {c c' : Nat} {a a' : Nat → Nat} {g g' : List Int} {p p' : List (List Int)} (h : Runs fs F c a g p c' a' g' p') (h0 : RunInv fs c a g p) : RunInv fs c' a' g' p' ∧ hasEmpty fs a' = true := by
  induction h with
  | stop c a a' g p h1 => exact ⟨h0.align h1, h1.none_at rfl⟩
  | good c c' a a1 a' m g g' p p' h1 hf _ ih =>
    obtain ⟨e1, e2, e3⟩ := h1.some_at m rfl
    subst e3
    exact ih ((h0.align h1).good e1 e2 hf)
  | bad c c' a a1 a' m g g' p p' h1 hf _ ih =>
    obtain ⟨e1, e2, e3⟩ := h1.some_at m rfl
    exact ih ((h0.align h1).bad e1)
theorem RunInv.zero (fs : List (List Pt)) : RunInv fs 0 (fun _ => 0) [] [] :=
  ⟨fun k _ => Nat.zero_le _, Nat.le_refl _, rfl, fun _ _ => Nat.le_refl _, fun _ _ => Int.le_refl _, fun i h _ => by simp at h, fun x h => by cases h⟩
/-- The copies that are missing. -/
def IsMissing (fs : List (List Pt)) (g : List Int) (ms : List Int) : Prop := ms.Pairwise (· < ·) ∧ ∀ c, c ∈ ms ↔ c ≠ 0 ∧ c ∉ g ∧ ∃ l ∈ fs, ∃ x ∈ l, x.copy = c
theorem sorted_unique : ∀ (l m : List Int), l.Pairwise (· < ·) → m.Pairwise (· < ·) → (∀ x, x ∈ l ↔ x ∈ m) → l = m
  | [], [], _, _, _ => rfl
  | [], y :: m, _, _, h => by have := (h y).2 (by simp); simp at this
  | x :: l, [], _, _, h => by have := (h x).1 (by simp); simp at this
  | x :: l, y :: m, h1, h2, h => by
    obtain ⟨h3, h4⟩ := List.pairwise_cons.1 h1
    obtain ⟨h5, h6⟩ := List.pairwise_cons.1 h2
    have e : x = y := by
      have hx := (h x).1 (by simp)
      have hy := (h y).2 (by simp)
      rcases List.mem_cons.1 hx with e | hx
      · exact e
      · rcases List.mem_cons.1 hy with e | hy
        · exact e.symm
        · have := h5 x hx
          have := h3 y hy
          omega
    subst e
    rw [sorted_unique l m h4 h6 fun z => ?_]
    constructor
    · intro hz
      have := (h z).1 (by simp [hz])
      rcases List.mem_cons.1 this with e | hz2
      · have := h3 z hz; omega
      · exact hz2
    · intro hz
      have := (h z).2 (by simp [hz])
      rcases List.mem_cons.1 this with e | hz2
      · have := h5 z hz; omega
      · exact hz2
theorem IsMissing.unique {fs : List (List Pt)} {g ms ns : List Int} (h : IsMissing fs g ms) (k : IsMissing fs g ns) : ms = ns :=
  sorted_unique ms ns h.1 k.1 fun x => by rw [h.2, k.2]
end Go.Proofs.YtcpjpmijfjdifaaGreatDoor
