/-
  What a machine's run leaves: the bound of its cycles, the copies that all feeders have, the copies made again. Plain. Own text.
-/
import Derived.Test.YtcpjpmijfjdifaaGreatDoorRunV
namespace Go.Proofs.YtcpjpmijfjdifaaGreatDoor
open Go.RowKit
set_option linter.unusedVariables false
/-! ### How long a run is -/
def later (F : List Ft) (c : Nat) : Nat := F.countP fun x => decide ((c : Int) ≤ x.cyc)
theorem countP_lt {α : Type} {p q : α → Bool} (h : ∀ x, q x = true → p x = true) : ∀ (F : List α), (∃ x ∈ F, p x = true ∧ q x = false) → F.countP q < F.countP p
  | [], h2 => by obtain ⟨x, hx, _⟩ := h2; cases hx
  | x :: F, h2 => by
    have hle : F.countP q ≤ F.countP p := List.countP_mono_left fun y _ hy => h y hy
    simp only [List.countP_cons]
    by_cases e : p x = true ∧ q x = false
    · rw [if_pos e.1, if_neg (by rw [e.2]; decide)]; omega
    · obtain ⟨y, hy, e2⟩ := h2
      have hy : y ∈ F := by
        rcases List.mem_cons.1 hy with rfl | hy
        · exact absurd e2 e
        · exact hy
      have := countP_lt h F ⟨y, hy, e2⟩
      by_cases h1 : q x = true
      · rw [if_pos h1, if_pos (h x h1)]; omega
      · rw [if_neg h1]; split <;> omega
theorem later_le (c : Nat) (F : List Ft) : later F (c + 1) ≤ later F c := by
  refine List.countP_mono_left fun x _ h => ?_
  simp at h ⊢
  omega
theorem later_lt (c : Nat) (F : List Ft) (h : ∃ x ∈ F, x.cyc = (c : Int)) : later F (c + 1) < later F c := by
  obtain ⟨x, hx, e⟩ := h
  refine countP_lt (fun y hy => ?_) F ⟨x, hx, ?_, ?_⟩
  · simp at hy ⊢; omega
  · simp; omega
  · simp; omega
theorem step_less {fs : List (List Pt)} {F : List Ft} {c : Nat} {a : Nat → Nat} (he : hasEmpty fs a = false) (hw : Within fs a) (h1 : 1 ≤ fs.length) : remTo fs (goOn fs F c a) fs.length + later F (c + 1) < remTo fs a fs.length + later F c := by
  have hle := remTo_le fs a (goOn fs F c a) fs.length (fun k hk => Nat.le_add_right _ _)
  have hla := later_le c F
  by_cases e : F.filter (hit c 0) = []
  · have hfd : fedV fs F c a 0 = 1 := by
      unfold fedV
      rw [e]
      rfl
    have := remTo_lt fs a (goOn fs F c a) fs.length (fun k hk => Nat.le_add_right _ _) 0 (by omega) (hasEmpty_no he hw (by omega)) (by show a 0 < a 0 + fedV fs F c a 0; omega)
    omega
  · obtain ⟨x, hx⟩ := List.exists_mem_of_ne_nil _ e
    obtain ⟨hx1, hx2⟩ := List.mem_filter.1 hx
    have hxc : x.cyc = c := by
      unfold hit at hx2
      simp at hx2
      exact hx2.1
    have := later_lt c F ⟨x, hx1, hxc⟩
    omega
theorem Runs.bound {fs : List (List Pt)} {F : List Ft} {c c' : Nat} {a a' : Nat → Nat} {g g' : List Int} {p p' : List (List Int)} (h : Runs fs F c a g p c' a' g' p') (h1 : 1 ≤ fs.length) : Within fs a → c ≤ c' ∧ c' ≤ c + (remTo fs a fs.length + later F c) := by
  induction h with
  | stop c a a' g p h2 => intro _; exact ⟨Nat.le_refl _, by omega⟩
  | good c c' a a1 a' m g g' p p' h2 hf _ ih =>
    intro hw
    obtain ⟨e1, _, _⟩ := h2.some_at m rfl
    have hw1 := h2.within hw
    have h3 := ih (goOn_within e1 hw1.1)
    have h4 := step_less (F := F) (c := c) e1 hw1.1 h1
    have h5 := remTo_le fs a a1 fs.length (fun k hk => hw1.2 k)
    omega
  | bad c c' a a1 a' m g g' p p' h2 hf _ ih =>
    intro hw
    obtain ⟨e1, _, _⟩ := h2.some_at m rfl
    have hw1 := h2.within hw
    have h3 := ih (goOn_within e1 hw1.1)
    have h4 := step_less (F := F) (c := c) e1 hw1.1 h1
    have h5 := remTo_le fs a a1 fs.length (fun k hk => hw1.2 k)
    omega
theorem remTo_cap (fs : List (List Pt)) (a : Nat → Nat) (h : ∀ k, ln fs k ≤ 512) : ∀ n, remTo fs a n ≤ 512 * n
  | 0 => by simp [remTo]
  | n + 1 => by
    have := remTo_cap fs a h n
    have := h n
    rw [remTo_succ]
    omega
theorem Runs.cap {fs : List (List Pt)} {F : List Ft} {c' : Nat} {a' : Nat → Nat} {g' : List Int} {p' : List (List Int)} (h : Runs fs F 0 (fun _ => 0) [] [] c' a' g' p') (hf : FeedOk fs) (hF : F.length ≤ 512) : c' ≤ 4608 := by
  have h1 := (h.bound hf.one fun k _ => Nat.zero_le _).2
  have h2 := remTo_cap fs (fun _ => 0) (fun k => hf.low k) fs.length
  have h3 : later F 0 ≤ F.length := List.countP_le_length
  have := hf.few
  omega
/-! ### The copies that are missing, by the document's way -/
def known (fs : List (List Pt)) (c : Int) : Bool := fs.any fun l => l.any fun x => x.copy == c
def missV (fs : List (List Pt)) (g : List Int) (n : Nat) : List Int := ((List.range n).map fun (i : Nat) => (i : Int) + 1).filter fun c => !g.contains c && known fs c
theorem missV_succ (fs : List (List Pt)) (g : List Int) (n : Nat) : missV fs g (n + 1) = missV fs g n ++ (if (!g.contains ((n : Int) + 1) && known fs ((n : Int) + 1)) = true then [(n : Int) + 1] else []) := by
  unfold missV
  rw [List.range_succ, List.map_append, List.filter_append]
  congr 1
  simp only [List.map_cons, List.map_nil, List.filter_cons, List.filter_nil]
theorem missV_len (fs : List (List Pt)) (g : List Int) (n : Nat) : (missV fs g n).length ≤ n := by
  unfold missV
  refine Nat.le_trans (List.length_filter_le _ _) ?_
  simp
theorem missV_is {fs : List (List Pt)} (hf : FeedOk fs) (g : List Int) : IsMissing fs g (missV fs g 9999) := by
  refine ⟨?_, fun c => ?_⟩
  · unfold missV
    refine List.Pairwise.filter _ ?_
    rw [List.pairwise_map]
    refine List.pairwise_lt_range.imp fun h => ?_
    omega
  · unfold missV
    rw [List.mem_filter, List.mem_map]
    constructor
    · rintro ⟨⟨i, hi, rfl⟩, h⟩
      simp [known] at h
      obtain ⟨h1, l, hl, x, hx, e⟩ := h
      exact ⟨by omega, h1, l, hl, x, hx, e⟩
    · rintro ⟨h0, h1, l, hl, x, hx, e⟩
      have := (hf.rows l hl).rng x hx
      refine ⟨⟨(c - 1).toNat, List.mem_range.2 (by omega), by omega⟩, ?_⟩
      simp [known, h1]
      exact ⟨l, hl, x, hx, e⟩
/-! ### Rows of numbered copies -/
structure Inc (fs : List (List Pt)) : Prop where
  one : 1 ≤ fs.length
  pos : ∀ k, k < fs.length → ∀ i, i < ln fs k → 0 < cp fs k i
  inc : ∀ k, k < fs.length → ∀ i j, i < j → j < ln fs k → cp fs k i < cp fs k j
theorem Inc.le {fs : List (List Pt)} (h : Inc fs) {k i j : Nat} (hk : k < fs.length) (hij : i ≤ j) (hj : j < ln fs k) : cp fs k i ≤ cp fs k j := by
  by_cases e : i = j
  · subst e; exact Int.le_refl _
  · have := h.inc k hk i j (by omega) hj; omega
theorem cp_get (fs : List (List Pt)) (k i : Nat) (hk : k < fs.length) (hi : i < fs[k].length) : cp fs k i = fs[k][i].copy := by
  unfold cp
  rw [ptAt_get fs k i hk hi]
theorem inc_of {fs : List (List Pt)} (h : FeedOk fs) (hp : ∀ l ∈ fs, ∀ x ∈ l, 0 < x.copy) : Inc fs := by
  refine ⟨h.one, fun k hk i hi => ?_, fun k hk i j hij hj => ?_⟩
  · rw [ln_get fs k hk] at hi
    rw [cp_get fs k i hk hi]
    exact hp _ (List.getElem_mem hk) _ (List.getElem_mem hi)
  · rw [ln_get fs k hk] at hj
    rw [cp_get fs k i hk (by omega), cp_get fs k j hk hj]
    have h1 := List.pairwise_iff_getElem.1 (h.rows _ (List.getElem_mem hk)).inc i j (by omega) hj hij
    have := hp _ (List.getElem_mem hk) _ (List.getElem_mem hj)
    exact h1 (by omega)
/-- What is still in all feeders. -/
def remAll (fs : List (List Pt)) (a : Nat → Nat) (x : Int) : Prop := ∀ k, k < fs.length → ∃ i, a k ≤ i ∧ i < ln fs k ∧ cp fs k i = x
structure GInv (fs : List (List Pt)) (a : Nat → Nat) (g : List Int) : Prop where
  srt : g.Pairwise (· < ·)
  low : ∀ x ∈ g, ∀ k, k < fs.length → ∀ i, a k ≤ i → i < ln fs k → x < cp fs k i
theorem GInv.mono {fs : List (List Pt)} {a a' : Nat → Nat} {g : List Int} (h : GInv fs a g) (hm : ∀ k, k < fs.length → a k ≤ a' k) : GInv fs a' g :=
  ⟨h.srt, fun x hx k hk i h1 h2 => h.low x hx k hk i (Nat.le_trans (hm k hk) h1) h2⟩
theorem at_most {fs : List (List Pt)} (hI : Inc fs) {a : Nat → Nat} (he : hasEmpty fs a = false) (hw : Within fs a) (hl : anyLag fs a = false) {k : Nat} (hk : k < fs.length) : cp fs k (a k) = mostV fs a := by
  rcases anyLag_no hl hk with h | h
  · have := hI.pos k hk (a k) (hasEmpty_no he hw hk)
    omega
  · exact h
theorem GInv.good {fs : List (List Pt)} {F : List Ft} {c : Nat} (hI : Inc fs) {a : Nat → Nat} {g : List Int} (h : GInv fs a g) (he : hasEmpty fs a = false) (hw : Within fs a) (hl : anyLag fs a = false) (hf : fineV fs F c a = true) : GInv fs (goOn fs F c a) (g ++ [mostV fs a]) := by
  have h1 := hI.one
  refine ⟨List.pairwise_append.2 ⟨h.srt, List.pairwise_singleton _ _, fun x hx y hy => ?_⟩, fun x hx k hk i hi1 hi2 => ?_⟩
  · obtain rfl := List.mem_singleton.1 hy
    rw [← at_most hI he hw hl (k := 0) (by omega)]
    exact h.low x hx 0 (by omega) _ (Nat.le_refl _) (hasEmpty_no he hw (by omega))
  · have hg : goOn fs F c a k = a k + 1 := by show a k + fedV fs F c a k = _; rw [(fed_one hf hk).1]
    rw [hg] at hi1
    rcases List.mem_append.1 hx with hx | hx
    · exact h.low x hx k hk i (by omega) hi2
    · obtain rfl := List.mem_singleton.1 hx
      rw [← at_most hI he hw hl hk]
      exact hI.inc k hk _ _ (by omega) hi2
theorem Runs.ginv {fs : List (List Pt)} {F : List Ft} {c c' : Nat} {a a' : Nat → Nat} {g g' : List Int} {p p' : List (List Int)} (h : Runs fs F c a g p c' a' g' p') (hI : Inc fs) : Within fs a → GInv fs a g → GInv fs a' g' := by
  induction h with
  | stop c a a' g p h2 => intro hw h0; exact h0.mono fun k _ => (h2.within hw).2 k
  | good c c' a a1 a' m g g' p p' h2 hf _ ih =>
    intro hw h0
    obtain ⟨e1, e2, e3⟩ := h2.some_at m rfl
    have hw1 := h2.within hw
    subst e3
    exact ih (goOn_within e1 hw1.1) ((h0.mono fun k _ => hw1.2 k).good hI e1 hw1.1 e2 hf)
  | bad c c' a a1 a' m g g' p p' h2 hf _ ih =>
    intro hw h0
    obtain ⟨e1, e2, e3⟩ := h2.some_at m rfl
    have hw1 := h2.within hw
    exact ih (goOn_within e1 hw1.1) (h0.mono fun k _ => Nat.le_trans (hw1.2 k) (Nat.le_add_right _ _))
theorem Runs.srt {fs : List (List Pt)} {F : List Ft} {c' : Nat} {a' : Nat → Nat} {g' : List Int} {p' : List (List Int)} (h : Runs fs F 0 (fun _ => 0) [] [] c' a' g' p') (hI : Inc fs) : g'.Pairwise (· < ·) :=
  (h.ginv hI (fun k _ => Nat.zero_le _) ⟨List.Pairwise.nil, fun x hx => by cases hx⟩).srt
/-! ### Without faults -/
theorem remAll_bump {fs : List (List Pt)} (hI : Inc fs) {a : Nat → Nat} (he : hasEmpty fs a = false) (hw : Within fs a) (x : Int) : remAll fs (bumpV fs (mostV fs a) a) x ↔ remAll fs a x := by
  constructor
  · intro h k hk
    obtain ⟨i, h1, h2, h3⟩ := h k hk
    refine ⟨i, ?_, h2, h3⟩
    unfold bumpV at h1
    split at h1 <;> omega
  · intro h k hk
    obtain ⟨i, h1, h2, h3⟩ := h k hk
    refine ⟨i, ?_, h2, h3⟩
    unfold bumpV
    split
    · next hl =>
      have hx : mostV fs a ≤ x := by
        rcases mostTo_is fs a fs.length with e | ⟨j, hj, e⟩
        · have e' : mostV fs a = 0 := e
          have := hI.pos k hk i h2
          omega
        · have e' : mostV fs a = cp fs j (a j) := e
          obtain ⟨i', g1, g2, g3⟩ := h j hj
          have := hI.le hj g1 g2
          omega
      unfold lag at hl
      simp at hl
      have h4 : i ≠ a k := fun e => by rw [e] at h3; omega
      omega
    · exact h1
theorem remAll_align {fs : List (List Pt)} (hI : Inc fs) {a a' : Nat → Nat} {r : Option Int} (h : Align fs a r a') (x : Int) : Within fs a → (remAll fs a' x ↔ remAll fs a x) := by
  induction h with
  | stop a he => intro _; exact Iff.rfl
  | same a he hl => intro _; exact Iff.rfl
  | step a a' r he hl _ ih => intro hw; rw [ih (bump_within he hw _), remAll_bump hI he hw]
theorem remAll_next {fs : List (List Pt)} {c : Nat} (hI : Inc fs) {a : Nat → Nat} (he : hasEmpty fs a = false) (hw : Within fs a) (hl : anyLag fs a = false) (hf : fineV fs [] c a = true) (x : Int) : remAll fs a x ↔ x = mostV fs a ∨ remAll fs (goOn fs [] c a) x := by
  have hg : ∀ k, k < fs.length → goOn fs [] c a k = a k + 1 := fun k hk => by show a k + fedV fs [] c a k = _; rw [(fed_one hf hk).1]
  constructor
  · intro h
    by_cases e : x = mostV fs a
    · exact .inl e
    · refine .inr fun k hk => ?_
      obtain ⟨i, h1, h2, h3⟩ := h k hk
      refine ⟨i, ?_, h2, h3⟩
      rw [hg k hk]
      have : i ≠ a k := fun e2 => e (by rw [← h3, e2, at_most hI he hw hl hk])
      omega
  · rintro (rfl | h) k hk
    · exact ⟨a k, Nat.le_refl _, hasEmpty_no he hw hk, at_most hI he hw hl hk⟩
    · obtain ⟨i, h1, h2, h3⟩ := h k hk
      rw [hg k hk] at h1
      exact ⟨i, by omega, h2, h3⟩
theorem fine_no {fs : List (List Pt)} {c : Nat} {a : Nat → Nat} (hs : ∀ k, k < fs.length → ∀ i, i < ln fs k → sp fs k i = false) (he : hasEmpty fs a = false) (hw : Within fs a) : fineV fs [] c a = true := by
  unfold fineV
  rw [List.all_eq_true]
  intro k hk
  have hk := List.mem_range.1 hk
  have h1 : fedV fs [] c a k = 1 := rfl
  simp [h1, hs k hk _ (hasEmpty_no he hw hk)]
theorem Runs.all {fs : List (List Pt)} {c c' : Nat} {a a' : Nat → Nat} {g g' : List Int} {p p' : List (List Int)} (h : Runs fs [] c a g p c' a' g' p') (hI : Inc fs) (hs : ∀ k, k < fs.length → ∀ i, i < ln fs k → sp fs k i = false) (x : Int) : Within fs a → (x ∈ g' ↔ x ∈ g ∨ remAll fs a x) := by
  generalize hF : ([] : List Ft) = F at h
  induction h with
  | stop c a a' g p h2 =>
    intro hw
    constructor
    · exact fun h => .inl h
    · rintro (h | h)
      · exact h
      · exfalso
        have h3 := (remAll_align hI h2 x hw).2 h
        have h4 := h2.none_at rfl
        obtain ⟨k, hk, e⟩ := List.any_eq_true.1 h4
        have hk := List.mem_range.1 hk
        obtain ⟨i, i1, i2, _⟩ := h3 k hk
        simp at e
        omega
  | good c c' a a1 a' m g g' p p' h2 hf _ ih =>
    intro hw
    subst hF
    obtain ⟨e1, e2, e3⟩ := h2.some_at m rfl
    have hw1 := h2.within hw
    subst e3
    rw [ih (goOn_within e1 hw1.1), ← remAll_align hI h2 x hw, remAll_next hI e1 hw1.1 e2 hf x]
    simp only [List.mem_append, List.mem_singleton]
    constructor
    · rintro ((h | h) | h)
      · exact .inl h
      · exact .inr (.inl h)
      · exact .inr (.inr h)
    · rintro (h | h | h)
      · exact .inl (.inl h)
      · exact .inl (.inr h)
      · exact .inr h
  | bad c c' a a1 a' m g g' p p' h2 hf _ ih =>
    intro hw
    subst hF
    obtain ⟨e1, e2, e3⟩ := h2.some_at m rfl
    have hw1 := h2.within hw
    rw [fine_no hs e1 hw1.1] at hf
    cases hf
theorem Runs.alls {fs : List (List Pt)} {c' : Nat} {a' : Nat → Nat} {g' : List Int} {p' : List (List Int)} (h : Runs fs [] 0 (fun _ => 0) [] [] c' a' g' p') (hI : Inc fs) (hs : ∀ k, k < fs.length → ∀ i, i < ln fs k → sp fs k i = false) {l : List Int} (hl : l.Pairwise (· < ·)) (hm : ∀ x, x ∈ l ↔ remAll fs (fun _ => 0) x) : g' = l := by
  refine sorted_unique g' l (h.srt hI) hl fun x => ?_
  rw [h.all hI hs x fun k _ => Nat.zero_le _, hm]
  simp
end Go.Proofs.YtcpjpmijfjdifaaGreatDoor
