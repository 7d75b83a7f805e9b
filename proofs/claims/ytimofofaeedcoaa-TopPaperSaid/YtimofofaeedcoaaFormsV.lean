/-
  The plates of gang.Forms: plain laws. No program in sight. Own text.
-/
import Derived.Test.YtimofofaeedcoaaSortI
import Derived.Test.YtimofofaeedcoaaGangV
import Derived.Test.YtimofofaeedcoaaGang2
import Derived.Test.YtimofofaeedcoaaSurV
namespace Go.Proofs.Ytimofofaeedcoaa
open Go.RowKit
set_option linter.unusedVariables false
/-- The demands by decreasing size. -/
def vals (ds : List Int) : List Int := (ordV ds).map fun i => ds.getD i 0
/-- A part of a list. -/
def seg {α : Type} (V : List α) (i k : Nat) : List α := (V.drop i).take (k - i)
theorem seg_len {α : Type} {V : List α} {i k : Nat} (h1 : i ≤ k) (h2 : k ≤ V.length) : (seg V i k).length = k - i := by
  unfold seg
  rw [List.length_take, List.length_drop]
  omega
theorem seg_get {α : Type} {V : List α} {i k j : Nat} (h1 : i ≤ k) (h2 : k ≤ V.length) (h : j < (seg V i k).length) : (seg V i k)[j] = V[i + j]'(by rw [seg_len h1 h2] at h; omega) := by
  simp only [seg, List.getElem_take, List.getElem_drop]
theorem seg_succ {α : Type} {V : List α} {i k : Nat} (h1 : i ≤ k) (h2 : k < V.length) : seg V i (k + 1) = seg V i k ++ [V[k]] := by
  unfold seg
  rw [show k + 1 - i = k - i + 1 by omega, List.take_succ_eq_append_getElem (by rw [List.length_drop]; omega), List.getElem_drop]
  simp only [show i + (k - i) = k by omega]
theorem seg_map {α β : Type} (f : α → β) (V : List α) (i k : Nat) : (seg V i k).map f = seg (V.map f) i k := by
  unfold seg
  rw [List.map_take, List.map_drop]
theorem seg_mem {α : Type} {V : List α} {i k : Nat} {x : α} (h : x ∈ seg V i k) : x ∈ V := List.mem_of_mem_drop (List.mem_of_mem_take h)
theorem vals_len (ds : List Int) : (vals ds).length = ds.length := by unfold vals; rw [List.length_map, ordV_len]
theorem ordV_perm (ds : List Int) : (ordV ds).Perm (List.range ds.length) := by
  have := sortTo_perm (ltD ds) (List.range ds.length) ds.length (by rw [List.length_range]; exact Nat.le_refl _)
  rwa [List.take_of_length_le (by rw [List.length_range]; exact Nat.le_refl _)] at this
theorem ordV_lt (ds : List Int) {i : Nat} (h : i ∈ ordV ds) : i < ds.length := by
  have := (ordV_perm ds).mem_iff.1 h
  simpa using this
theorem ordV_at (ds : List Int) {i : Nat} (h : i < ds.length) : (ordV ds).getD i 0 < ds.length ∧ (ordV ds).getD i 0 = (ordV ds)[i]'(by rw [ordV_len]; exact h) := by
  have e : (ordV ds).getD i 0 = (ordV ds)[i]'(by rw [ordV_len]; exact h) := by
    rw [List.getD_eq_getElem?_getD, List.getElem?_eq_getElem (by rw [ordV_len]; exact h)]
    rfl
  exact ⟨by rw [e]; exact ordV_lt ds (List.getElem_mem _), e⟩
theorem vals_get (ds : List Int) {i : Nat} (h : i < (vals ds).length) : (vals ds)[i] = ds[(ordV ds).getD i 0]'(ordV_at ds (by rw [vals_len] at h; exact h)).1 := by
  have h' : i < ds.length := by rw [vals_len] at h; exact h
  have ho := ordV_at ds h'
  simp only [vals, List.getElem_map]
  have e1 : ds.getD ((ordV ds)[i]'(by rw [ordV_len]; exact h')) 0 = ds.getD ((ordV ds).getD i 0) 0 := by rw [ho.2]
  have e2 : ds.getD ((ordV ds).getD i 0) 0 = ds[(ordV ds).getD i 0]'ho.1 := by
    rw [List.getD_eq_getElem?_getD, List.getElem?_eq_getElem ho.1]
    rfl
  exact e1.trans e2
theorem range_map_getD (l : List Int) : (List.range l.length).map (fun i => l.getD i 0) = l := by
  refine List.ext_getElem (by simp) (fun i h1 h2 => ?_)
  rw [List.getElem_map, List.getElem_range, List.getD_eq_getElem?_getD, List.getElem?_eq_getElem h2]
  rfl
theorem vals_perm (ds : List Int) : (vals ds).Perm ds := by
  have := (ordV_perm ds).map (fun i => ds.getD i 0)
  rwa [range_map_getD] at this
theorem vals_demands {ds : List Int} (h : Demands ds) : Demands (vals ds) := fun d hd => h d ((vals_perm ds).mem_iff.1 hd)
/-! ### Runs of parts -/
def runV (V : List Int) (s : Int) (i k : Nat) : Int := leastV (seg V i k) s
theorem runV_zero {V : List Int} {s : Int} {i k : Nat} (h1 : i ≤ k) (h2 : k ≤ V.length) (h : s < ((k - i : Nat) : Int)) : runV V s i k = 0 := leastV_zero (by rw [seg_len h1 h2]; exact h)
theorem runV_least {V : List Int} {s : Int} {i k : Nat} (hd : Demands V) (h1 : i ≤ k) (h2 : k ≤ V.length) (h : ((k - i : Nat) : Int) ≤ s) : IsLeast (seg V i k) s (runV V s i k) ∧ 1 ≤ runV V s i k ∧ runV V s i k ≤ 1048576 := by
  have := leastV_isLeast (xs := seg V i k) (slots := s) (fun d hx => hd d (seg_mem hx)) (by rw [seg_len h1 h2]; exact h)
  exact ⟨this.1, this.1.1, this.2⟩
/-! ### The tables of the least costs -/
/-- The cost of a plate from i to k, and of the best plates behind it. -/
def costV (V : List Int) (s p : Int) (B : Nat → Int) (i k : Nat) : Int := p + runV V s i k + B k
/-- The table at place i: the best first plate of the jobs from i on. -/
structure BestAt (V : List Int) (s p : Int) (B : Nat → Int) (N : Nat → Nat) (i : Nat) : Prop where
  lo : i < N i
  hi : N i ≤ V.length
  fit : ((N i - i : Nat) : Int) ≤ s
  eq : B i = costV V s p B i (N i)
  le : ∀ k, i < k → k ≤ V.length → ((k - i : Nat) : Int) ≤ s → B i ≤ costV V s p B i k
/-- The tables are right from place i on. -/
structure BestFrom (V : List Int) (s p : Int) (B : Nat → Int) (N : Nat → Nat) (i : Nat) : Prop where
  at' : ∀ j, i ≤ j → j < V.length → BestAt V s p B N j
  last : B V.length = 0
  zero : ∀ j, j < i → N j = 0
  bd : ∀ j, i ≤ j → j ≤ V.length → 0 ≤ B j ∧ B j ≤ 2097152 * ((V.length - j : Nat) : Int)
/-- Place i, the plates up to k (not k itself) tried. -/
structure Tried (V : List Int) (s p : Int) (B : Nat → Int) (N : Nat → Nat) (i k : Nat) : Prop where
  rest : ∀ j, i + 1 ≤ j → j < V.length → BestAt V s p B N j
  last : B V.length = 0
  zero : ∀ j, j < i → N j = 0
  bd : ∀ j, i + 1 ≤ j → j ≤ V.length → 0 ≤ B j ∧ B j ≤ 2097152 * ((V.length - j : Nat) : Int)
  none : k = i + 1 → N i = 0
  some : i + 1 < k → i < N i ∧ N i < k ∧ ((N i - i : Nat) : Int) ≤ s ∧ B i = costV V s p B i (N i) ∧ ∀ q, i < q → q < k → B i ≤ costV V s p B i q
def upd {α : Type} (f : Nat → α) (i : Nat) (y : α) : Nat → α := fun j => if j = i then y else f j
theorem upd_same {α : Type} (f : Nat → α) (i : Nat) (y : α) : upd f i y i = y := if_pos rfl
theorem upd_other {α : Type} (f : Nat → α) {i j : Nat} (y : α) (h : j ≠ i) : upd f i y j = f j := if_neg h
theorem costV_upd (V : List Int) (s p : Int) (B : Nat → Int) {i j k : Nat} (y : Int) (h : k ≠ i) : costV V s p (upd B i y) j k = costV V s p B j k := by unfold costV; rw [upd_other _ _ h]
theorem BestAt.upd {V : List Int} {s p : Int} {B : Nat → Int} {N : Nat → Nat} {i j : Nat} (h : BestAt V s p B N j) (hj : i < j) (y : Int) (z : Nat) : BestAt V s p (upd B i y) (upd N i z) j := by
  have e1 : Go.Proofs.Ytimofofaeedcoaa.upd N i z j = N j := upd_other _ _ (by omega)
  have e2 : Go.Proofs.Ytimofofaeedcoaa.upd B i y j = B j := upd_other _ _ (by omega)
  refine ⟨by rw [e1]; exact h.lo, by rw [e1]; exact h.hi, by rw [e1]; exact h.fit, ?_, fun k h1 h2 h3 => ?_⟩
  · have := h.lo
    rw [e1, e2, costV_upd _ _ _ _ _ (by omega)]
    exact h.eq
  · rw [e2, costV_upd _ _ _ _ _ (by omega)]
    exact h.le k h1 h2 h3
theorem Tried.start {V : List Int} {s p : Int} {B : Nat → Int} {N : Nat → Nat} {i : Nat} (h : BestFrom V s p B N (i + 1)) : Tried V s p B N i (i + 1) :=
  ⟨h.at', h.last, fun j hj => h.zero j (by omega), h.bd, fun _ => h.zero i (by omega), fun h => by omega⟩
/-- The plate up to k is better: it is taken. -/
theorem Tried.take {V : List Int} {s p : Int} {B : Nat → Int} {N : Nat → Nat} {i k : Nat} (h : Tried V s p B N i k) (hik : i < k) (hk : k ≤ V.length) (hs : ((k - i : Nat) : Int) ≤ s) (hc : N i = 0 ∨ costV V s p B i k < B i) :
    Tried V s p (upd B i (costV V s p B i k)) (upd N i k) i (k + 1) := by
  refine ⟨fun j h1 h2 => (h.rest j h1 h2).upd (by omega) _ _, ?_, fun j hj => ?_, fun j h1 h2 => ?_, fun e => by omega, fun _ => ?_⟩
  · rw [upd_other _ _ (by omega)]; exact h.last
  · rw [upd_other _ _ (by omega)]; exact h.zero j hj
  · rw [upd_other _ _ (by omega)]; exact h.bd j h1 h2
  · rw [upd_same, upd_same, costV_upd _ _ _ _ _ (by omega)]
    refine ⟨hik, by omega, hs, rfl, fun q h1 h2 => ?_⟩
    rw [costV_upd _ _ _ _ _ (by omega)]
    by_cases e : q = k
    · subst e; exact Int.le_refl _
    · obtain ⟨a1, a2, a3, a4, a5⟩ := h.some (by omega)
      have := a5 q h1 (by omega)
      rcases hc with hc | hc <;> omega
theorem Tried.keep {V : List Int} {s p : Int} {B : Nat → Int} {N : Nat → Nat} {i k : Nat} (h : Tried V s p B N i k) (hik : i < k) (hc : ¬ (N i = 0 ∨ costV V s p B i k < B i)) : Tried V s p B N i (k + 1) := by
  refine ⟨h.rest, h.last, h.zero, h.bd, fun e => by omega, fun _ => ?_⟩
  have h1 : i + 1 < k := by
    refine Nat.lt_of_not_le fun hk => hc (.inl (h.none (by omega)))
  obtain ⟨a1, a2, a3, a4, a5⟩ := h.some h1
  refine ⟨a1, by omega, a3, a4, fun q b1 b2 => ?_⟩
  by_cases e : q = k
  · subst e; omega
  · exact a5 q b1 (by omega)
/-- All plates from i are tried. -/
theorem Tried.done {V : List Int} {s p : Int} {B : Nat → Int} {N : Nat → Nat} {i k : Nat} (h : Tried V s p B N i k) (hd : Demands V) (hp : 0 ≤ p ∧ p ≤ 1048576) (hi : i < V.length) (hk : i + 1 < k) (hk2 : k ≤ V.length + 1) (hend : k = V.length + 1 ∨ s < ((k - i : Nat) : Int)) : BestFrom V s p B N i := by
  obtain ⟨a1, a2, a3, a4, a5⟩ := h.some hk
  have hb : BestAt V s p B N i := ⟨a1, by omega, a3, a4, fun q h1 h2 h3 => a5 q h1 (by rcases hend with e | e <;> omega)⟩
  refine ⟨fun j h1 h2 => ?_, h.last, h.zero, fun j h1 h2 => ?_⟩
  · by_cases e : j = i
    · subst e; exact hb
    · exact h.rest j (by omega) h2
  · by_cases e : j = i
    · subst e
      have hr := runV_least (s := s) hd (Nat.le_of_lt a1) (by omega : N j ≤ V.length) a3
      have hB := h.bd (N j) (by omega) (by omega)
      rw [a4]
      unfold costV
      omega
    · exact h.bd j (by omega) h2
theorem BestFrom.start {V : List Int} {s p : Int} : BestFrom V s p (fun _ => 0) (fun _ => 0) V.length :=
  ⟨fun j h1 h2 => by omega, rfl, fun _ _ => rfl, fun j h1 h2 => by simp; omega⟩
end Go.Proofs.Ytimofofaeedcoaa
