/-
  Divisions of the sorted jobs into plates and their costs: plain laws. No program in sight. Own text.
-/
import Derived.Test.YtimofofaeedcoaaFormsW
namespace Go.Proofs.Ytimofofaeedcoaa
open Go.RowKit
set_option linter.unusedVariables false
/-- A division of the jobs from place i on costs c. -/
inductive DivFrom (V : List Int) (s p : Int) : Nat → Int → Prop where
  | nil : DivFrom V s p V.length 0
  | cons {i k : Nat} {c : Int} (h1 : i < k) (h2 : k ≤ V.length) (h3 : ((k - i : Nat) : Int) ≤ s) (h : DivFrom V s p k c) : DivFrom V s p i (p + runV V s i k + c)
theorem DivFrom.le {V : List Int} {s p : Int} {i : Nat} {c : Int} (h : DivFrom V s p i c) : i ≤ V.length := by
  cases h with
  | nil => exact Nat.le_refl _
  | cons h1 h2 h3 h => omega
theorem BestFrom.div_le {V : List Int} {s p : Int} {B : Nat → Int} {N : Nat → Nat} (hB : BestFrom V s p B N 0) {i : Nat} {c : Int} (h : DivFrom V s p i c) : B i ≤ c := by
  induction h with
  | nil => rw [hB.last]; exact Int.le_refl _
  | @cons i k c h1 h2 h3 h ih =>
    have := (hB.at' i (Nat.zero_le _) (by omega)).le k h1 h2 h3
    unfold costV at this
    omega
theorem BestFrom.div {V : List Int} {s p : Int} {B : Nat → Int} {N : Nat → Nat} (hB : BestFrom V s p B N 0) : ∀ m i, i + m = V.length → DivFrom V s p i (B i) := by
  intro m
  induction m using Nat.strongRecOn with
  | ind m ih =>
    intro i hi
    by_cases h0 : m = 0
    · obtain rfl : i = V.length := by omega
      rw [hB.last]
      exact .nil
    · have h := hB.at' i (Nat.zero_le _) (by omega)
      have hlo := h.lo
      have hhi := h.hi
      rw [h.eq]
      exact .cons hlo hhi h.fit (ih (V.length - N i) (by omega) (N i) (by omega))
/-- c is the least cost of a division. -/
def IsCheap (V : List Int) (s p c : Int) : Prop := DivFrom V s p 0 c ∧ ∀ c', DivFrom V s p 0 c' → c ≤ c'
theorem BestFrom.cheap {V : List Int} {s p : Int} {B : Nat → Int} {N : Nat → Nat} (hB : BestFrom V s p B N 0) : IsCheap V s p (B 0) :=
  ⟨hB.div V.length 0 (by omega), fun c' h => hB.div_le h⟩
theorem IsCheap.unique {V : List Int} {s p c d : Int} (h : IsCheap V s p c) (h' : IsCheap V s p d) : c = d := by
  have := h.2 d h'.1
  have := h'.2 c h.1
  omega
/-- With more places the run is no longer. -/
theorem leastV_more {xs : List Int} (hx : Demands xs) {s s' : Int} (h : (xs.length : Int) ≤ s) (hs : s ≤ s') : leastV xs s' ≤ leastV xs s := by
  obtain ⟨⟨a1, a2, a3⟩, _⟩ := leastV_isLeast hx h
  obtain ⟨⟨b1, b2, b3⟩, _⟩ := leastV_isLeast hx (by omega : (xs.length : Int) ≤ s')
  generalize leastV xs s = r at *
  generalize leastV xs s' = r' at *
  rcases b3 with b3 | b3
  · omega
  · by_cases e : r' ≤ r
    · exact e
    · have := needV_anti hx a1 (show r ≤ r' - 1 by omega)
      omega
theorem runV_more {V : List Int} {s s' : Int} {i k : Nat} (hd : Demands V) (h1 : i ≤ k) (h2 : k ≤ V.length) (h : ((k - i : Nat) : Int) ≤ s) (hs : s ≤ s') : runV V s' i k ≤ runV V s i k :=
  leastV_more (fun d hx => hd d (seg_mem hx)) (by rw [seg_len h1 h2]; exact h) hs
theorem DivFrom.more {V : List Int} {s s' p : Int} (hd : Demands V) (hs : s ≤ s') {i : Nat} {c : Int} (h : DivFrom V s p i c) : ∃ c', c' ≤ c ∧ DivFrom V s' p i c' := by
  induction h with
  | nil => exact ⟨0, Int.le_refl _, .nil⟩
  | @cons i k c h1 h2 h3 h ih =>
    obtain ⟨c', h4, h5⟩ := ih
    have := runV_more hd (Nat.le_of_lt h1) h2 h3 hs
    exact ⟨_, by omega, .cons h1 h2 (by omega) h5⟩
theorem IsCheap.more {V : List Int} {s s' p c d : Int} (hd : Demands V) (hs : s ≤ s') (h : IsCheap V s p c) (h' : IsCheap V s' p d) : d ≤ c := by
  obtain ⟨c', h1, h2⟩ := h.1.more hd hs
  have := h'.2 c' h2
  omega
/-- With smaller demands the run is no longer. -/
theorem needV_set {xs : List Int} {r y : Int} {i : Nat} (hi : i < xs.length) (hy : y ≤ xs[i]) (hr : 1 ≤ r) : needV (xs.set i y) r ≤ needV xs r := by
  induction xs generalizing i with
  | nil => simp at hi
  | cons x xs ih =>
    cases i with
    | zero =>
      have h1 : cl y r ≤ cl x r := by
        rw [cl_le hr]
        have := (cl_le (d := x) (c := cl x r) hr).1 (Int.le_refl _)
        have hy' : y ≤ x := hy
        omega
      rw [List.set_cons_zero, needV_cons, needV_cons]
      omega
    | succ i =>
      have := ih (i := i) (by simpa using hi) (by simpa using hy)
      rw [List.set_cons_succ, needV_cons, needV_cons]
      omega
theorem leastV_le {xs ys : List Int} (hx : Demands xs) (hy : Demands ys) {s : Int} (h : (xs.length : Int) ≤ s) (hl : ys.length = xs.length) (hn : ∀ r, 1 ≤ r → needV ys r ≤ needV xs r) : leastV ys s ≤ leastV xs s := by
  obtain ⟨⟨a1, a2, a3⟩, _⟩ := leastV_isLeast hx h
  obtain ⟨⟨b1, b2, b3⟩, _⟩ := leastV_isLeast hy (by omega : (ys.length : Int) ≤ s)
  generalize leastV xs s = r at *
  generalize leastV ys s = r' at *
  rcases b3 with b3 | b3
  · omega
  · by_cases e : r' ≤ r
    · exact e
    · have h1 := needV_anti hx a1 (show r ≤ r' - 1 by omega)
      have h2 := hn (r' - 1) (by omega)
      omega
/-! ### Another order -/
theorem needV_perm {xs ys : List Int} (h : xs.Perm ys) (r : Int) : needV xs r = needV ys r := by
  induction h with
  | nil => rfl
  | cons x _ ih => rw [needV_cons, needV_cons, ih]
  | swap x y l => simp only [needV_cons]; omega
  | trans _ _ ih1 ih2 => exact ih1.trans ih2
theorem leastV_perm {xs ys : List Int} (h : xs.Perm ys) (s : Int) : leastV xs s = leastV ys s := by
  unfold leastV
  rw [h.length_eq]
  simp only [needV_perm h]
theorem demands_perm {xs ys : List Int} (h : xs.Perm ys) (hx : Demands xs) : Demands ys := fun d hd => hx d (h.mem_iff.2 hd)
/-- Greater ones first. -/
def gtB (x y : Int) : Bool := decide (y < x)
theorem insL_sorted (x : Int) (L : List Int) (h : L.Pairwise (fun a b => b ≤ a)) : (insL gtB x L).Pairwise (fun a b => b ≤ a) := by
  have key : ∀ j, j ≤ L.length → (∀ y ∈ L.drop j, y ≤ x) → (∀ y ∈ L.take (slot gtB x L j), x ≤ y) ∧ ∀ y ∈ L.drop (slot gtB x L j), y ≤ x := by
    intro j
    induction j with
    | zero =>
      intro _ h2
      exact ⟨fun y hy => by simp [slot] at hy, h2⟩
    | succ j ih =>
      intro hj h2
      have e : L.getD j default = L[j] := getD_at (by omega)
      unfold slot
      rw [e]
      by_cases hc : L[j] < x
      · rw [if_pos (show gtB x L[j] = true from decide_eq_true hc)]
        refine ih (by omega) fun y hy => ?_
        rw [List.drop_eq_getElem_cons (by omega : j < L.length)] at hy
        rcases List.mem_cons.1 hy with rfl | hy
        · omega
        · exact h2 y hy
      · rw [if_neg (by simpa [gtB] using hc)]
        refine ⟨fun y hy => ?_, h2⟩
        rw [List.take_succ_eq_append_getElem (by omega : j < L.length)] at hy
        rcases List.mem_append.1 hy with hy | hy
        · have h3 : L.Pairwise (fun a b => b ≤ a) := h
          rw [← List.take_append_drop j L, List.pairwise_append] at h3
          have := h3.2.2 y hy L[j] (by rw [List.drop_eq_getElem_cons (by omega : j < L.length)]; exact List.mem_cons_self)
          omega
        · simp only [List.mem_singleton] at hy
          omega
  obtain ⟨k1, k2⟩ := key L.length (Nat.le_refl _) (by simp)
  unfold insL insAt
  generalize slot gtB x L L.length = q at *
  have h3 := h
  rw [← List.take_append_drop q L, List.pairwise_append] at h3
  rw [List.pairwise_append]
  refine ⟨h3.1, List.pairwise_cons.2 ⟨fun y hy => k2 y hy, h3.2.1⟩, fun a ha b hb => ?_⟩
  rcases List.mem_cons.1 hb with rfl | hb
  · exact k1 a ha
  · exact h3.2.2 a ha b hb
theorem sortTo_sorted (xs : List Int) : ∀ k, (sortTo gtB xs k).Pairwise (fun a b => b ≤ a) := by
  intro k
  induction k with
  | zero => exact List.Pairwise.nil
  | succ k ih => exact insL_sorted _ _ ih
theorem vals_eq (ds : List Int) : vals ds = sortTo gtB ds ds.length := by
  have h := sortTo_map (lt := ltD ds) (lt' := gtB) (f := fun i => ds.getD i 0) (fun x y => rfl) (List.range ds.length) ds.length (by rw [List.length_range]; exact Nat.le_refl _)
  rw [range_map_getD] at h
  exact h
theorem vals_sorted (ds : List Int) : (vals ds).Pairwise (fun a b => b ≤ a) := by rw [vals_eq]; exact sortTo_sorted _ _
theorem vals_same {xs ys : List Int} (h : xs.Perm ys) : vals xs = vals ys :=
  List.Perm.eq_of_pairwise (fun a b _ _ h1 h2 => by omega) (vals_sorted xs) (vals_sorted ys) ((vals_perm xs).trans (h.trans (vals_perm ys).symm))
/-! ### All jobs on one plate, each on one -/
theorem IsCheap.one {V : List Int} {s p c : Int} (h : IsCheap V s p c) (h0 : 0 < V.length) (hs : (V.length : Int) ≤ s) : c ≤ p + leastV V s := by
  have h1 := h.2 _ (DivFrom.cons (V := V) (s := s) (p := p) (i := 0) (k := V.length) h0 (Nat.le_refl _) (by omega) .nil)
  unfold runV seg at h1
  rw [Nat.sub_zero, List.drop_zero, List.take_length] at h1
  omega
def aloneV (s p : Int) (xs : List Int) : Int := (xs.map fun d => p + leastV [d] s).sum
theorem aloneV_cons (s p x : Int) (xs : List Int) : aloneV s p (x :: xs) = p + leastV [x] s + aloneV s p xs := by simp [aloneV]
theorem aloneV_perm {s p : Int} {xs ys : List Int} (h : xs.Perm ys) : aloneV s p xs = aloneV s p ys := by
  induction h with
  | nil => rfl
  | cons x _ ih => rw [aloneV_cons, aloneV_cons, ih]
  | swap x y l => simp only [aloneV_cons]; omega
  | trans _ _ ih1 ih2 => exact ih1.trans ih2
theorem div_alone {V : List Int} {s p : Int} (hs : 1 ≤ s) : ∀ m i, i + m = V.length → DivFrom V s p i (aloneV s p (V.drop i)) := by
  intro m
  induction m with
  | zero =>
    intro i hi
    obtain rfl : i = V.length := by omega
    rw [List.drop_length]
    exact .nil
  | succ m ih =>
    intro i hi
    have h := DivFrom.cons (V := V) (s := s) (p := p) (i := i) (k := i + 1) (by omega) (by omega) (by omega) (ih (i + 1) (by omega))
    have e : seg V i (i + 1) = [V[i]] := by
      unfold seg
      rw [show i + 1 - i = 1 by omega, List.drop_eq_getElem_cons (by omega : i < V.length)]
      rfl
    unfold runV at h
    rw [e] at h
    rw [List.drop_eq_getElem_cons (by omega : i < V.length), aloneV_cons]
    exact h
theorem IsCheap.alone {V : List Int} {s p c : Int} (h : IsCheap V s p c) (hs : 1 ≤ s) : c ≤ aloneV s p V := h.2 _ (div_alone hs V.length 0 (by omega))
/-! ### The walk, as a cost -/
def RetCost (ds : List Int) (s p : Int) (w : World) (e : Ending) (w' : World) : Prop :=
  ∃ (c : Int) (oa : Option Addr) (m cap : Nat), e = .returned (.tuple #[.slice oa m cap, .int .i64 c, .int .i64 0]) ∧ IsCheap (vals ds) s p c ∧ Below w.heap.size w w'
end Go.Proofs.Ytimofofaeedcoaa
