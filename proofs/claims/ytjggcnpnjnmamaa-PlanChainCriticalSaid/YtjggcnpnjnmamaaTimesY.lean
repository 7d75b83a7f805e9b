/-
  What the times of a network keep; plain. No program in sight. Own text.
-/
import Derived.Test.YtjggcnpnjnmamaaTimesX
namespace Go.Proofs.Ytjggcnpnjnmamaa
set_option linter.unusedVariables false
/-- The times: when the tasks begin, the end, the latest times. -/
def beg (l : List Task) : Nat → Int := bgTab l l.length
def endV (l : List Task) : Int := endTo l (beg l) l.length
def lat (l : List Task) (i : Nat) : Int := latTab l (endV l) (l.length - 1 - i) i
theorem beg_eq {l : List Task} (hG : GoodTasks l) {i : Nat} (hi : i < l.length) : beg l i = longTo l (beg l) i (aftL l i) := by
  unfold beg
  rw [bgTab_old (i := i + 1) (by omega) (by omega)]
  simp only [bgTab, if_true]
  refine longTo_congr (fun p hp => ?_)
  have := (hG.aft i p hi hp).2
  rw [bgTab_old (i := i) (n := l.length) this (by omega)]
theorem longTo_ge {l : List Task} {B : Nat → Int} {i : Nat} : ∀ {q : Nat}, 0 ≤ longTo l B i q ∧ ∀ p, p < q → B (aftN l i p) + lenN l (aftN l i p) ≤ longTo l B i q := by
  intro q
  induction q with
  | zero => simp only [longTo]; exact ⟨Int.le_refl _, fun p h => by omega⟩
  | succ q ih =>
    obtain ⟨h1, h2⟩ := ih
    simp only [longTo]
    refine ⟨by omega, fun p hp => ?_⟩
    by_cases e : p = q
    · subst e; omega
    · have := h2 p (by omega); omega
theorem longTo_att {l : List Task} {B : Nat → Int} {i : Nat} : ∀ {q : Nat}, longTo l B i q = 0 ∨ ∃ p, p < q ∧ B (aftN l i p) + lenN l (aftN l i p) = longTo l B i q := by
  intro q
  induction q with
  | zero => exact .inl rfl
  | succ q ih =>
    simp only [longTo]
    by_cases h : longTo l B i q ≤ B (aftN l i q) + lenN l (aftN l i q)
    · rw [Int.max_eq_right h]
      exact .inr ⟨q, by omega, rfl⟩
    · rw [Int.max_eq_left (by omega)]
      rcases ih with h1 | ⟨p, p1, p2⟩
      · exact .inl h1
      · exact .inr ⟨p, by omega, p2⟩
theorem nextTo_spec {l : List Task} {B : Nat → Int} {a : Nat} : ∀ {q : Nat}, (nextTo l B a q = -1 ∧ ∀ p, p < q → B (aftN l a p) + lenN l (aftN l a p) ≠ B a) ∨ ∃ p, p < q ∧ nextTo l B a q = (aftN l a p : Int) ∧ B (aftN l a p) + lenN l (aftN l a p) = B a := by
  intro q
  induction q with
  | zero => exact .inl ⟨rfl, fun p h => by omega⟩
  | succ q ih =>
    simp only [nextTo]
    split
    · rename_i h
      exact .inr ⟨q, by omega, rfl, h.1⟩
    · rename_i h
      rcases ih with ⟨h1, h2⟩ | ⟨p, p1, p2, p3⟩
      · refine .inl ⟨h1, fun p hp he => ?_⟩
        by_cases e : p = q
        · subst e
          exact h ⟨he, .inl (by omega)⟩
        · exact h2 p (by omega) he
      · exact .inr ⟨p, by omega, p2, p3⟩
theorem endTo_ge {l : List Task} {B : Nat → Int} : ∀ {q : Nat}, 0 ≤ endTo l B q ∧ ∀ p, p < q → B p + lenN l p ≤ endTo l B q := by
  intro q
  induction q with
  | zero => simp only [endTo]; exact ⟨Int.le_refl _, fun p h => by omega⟩
  | succ q ih =>
    obtain ⟨h1, h2⟩ := ih
    simp only [endTo]
    refine ⟨by omega, fun p hp => ?_⟩
    by_cases e : p = q
    · subst e; omega
    · have := h2 p (by omega); omega
theorem endTo_att {l : List Task} {B : Nat → Int} : ∀ {q : Nat}, endTo l B q = 0 ∨ ∃ p, p < q ∧ B p + lenN l p = endTo l B q := by
  intro q
  induction q with
  | zero => exact .inl rfl
  | succ q ih =>
    simp only [endTo]
    by_cases h : endTo l B q ≤ B q + lenN l q
    · rw [Int.max_eq_right h]
      exact .inr ⟨q, by omega, rfl⟩
    · rw [Int.max_eq_left (by omega)]
      rcases ih with h1 | ⟨p, p1, p2⟩
      · exact .inl h1
      · exact .inr ⟨p, by omega, p2⟩
theorem beg_bd {l : List Task} (hG : GoodTasks l) (j : Nat) : 0 ≤ beg l j ∧ beg l j ≤ 41943040 := by
  have h1 := bgTab_bd hG (Nat.le_refl l.length) j
  have h2 := hG.n40
  unfold beg
  omega
theorem endTo_bd {l : List Task} (hG : GoodTasks l) {B : Nat → Int} (hB : ∀ j, B j ≤ 41943040) : ∀ {q : Nat}, q ≤ l.length → 0 ≤ endTo l B q ∧ endTo l B q ≤ 42991616 := by
  intro q
  induction q with
  | zero => intro _; simp only [endTo]; omega
  | succ q ih =>
    intro h
    have h1 := ih (by omega)
    have h2 := hB q
    have h3 := hG.len q (by omega)
    simp only [endTo]
    omega
theorem endV_bd {l : List Task} (hG : GoodTasks l) : 0 ≤ endV l ∧ endV l ≤ 42991616 := endTo_bd hG (fun j => (beg_bd hG j).2) (Nat.le_refl _)
/-- A task begins behind those ahead of it. -/
theorem beg_aft {l : List Task} (hG : GoodTasks l) {i q : Nat} (hi : i < l.length) (hq : q < aftL l i) : beg l (aftN l i q) + lenN l (aftN l i q) ≤ beg l i := by
  rw [beg_eq hG hi]
  exact longTo_ge.2 q hq
theorem beg_end {l : List Task} (hG : GoodTasks l) {i : Nat} (hi : i < l.length) : beg l i + lenN l i ≤ endV l := endTo_ge.2 i hi
theorem lat_of {l : List Task} (hG : GoodTasks l) {i : Nat} (hi : i < l.length) : LatOf l (endV l) (lat l) i (lat l i) := latTab_of hG hi
theorem lat_end {l : List Task} (hG : GoodTasks l) {i : Nat} (hi : i < l.length) : lat l i + lenN l i ≤ endV l := by
  have := (lat_of hG hi).a
  omega
theorem lat_aft {l : List Task} (hG : GoodTasks l) {i q : Nat} (hi : i < l.length) (hq : q < aftL l i) : lat l (aftN l i q) + lenN l (aftN l i q) ≤ lat l i := by
  have h := (hG.aft i q hi hq).2
  have := (lat_of hG (i := aftN l i q) (by omega)).b i q h hi hq rfl
  omega
/-- No task begins behind its latest time. -/
theorem beg_lat {l : List Task} (hG : GoodTasks l) : ∀ d i, i < l.length → l.length - 1 - i < d → beg l i ≤ lat l i := by
  intro d
  induction d with
  | zero => intro i _ h; omega
  | succ d ih =>
    intro i hi hd
    rcases (lat_of hG hi).c with e | ⟨k, q, k1, k2, k3, k4, e⟩
    · have := beg_end hG hi
      omega
    · have h1 := beg_aft hG k2 k3
      rw [k4] at h1
      have h2 := ih k k2 (by omega)
      omega
theorem lat_bd {l : List Task} (hG : GoodTasks l) {i : Nat} (hi : i < l.length) : 0 ≤ lat l i ∧ lat l i ≤ 42991616 := by
  have h1 := beg_lat hG _ i hi (Nat.lt_succ_self _)
  have h2 := beg_bd hG i
  have h3 := lat_end hG hi
  have h4 := hG.len i hi
  have h5 := endV_bd hG
  omega
/-- The chain's end. -/
def last (l : List Task) : Int := firstTo l (beg l) (endV l) l.length
theorem last_end {l : List Task} (hG : GoodTasks l) (hn : 0 < l.length) : ∃ a : Nat, a < l.length ∧ last l = a ∧ beg l a + lenN l a = endV l := by
  rcases firstTo_spec (l := l) (B := beg l) (E := endV l) (i := l.length) with ⟨h1, h2⟩ | ⟨a, a1, a2, a3, _⟩
  · exfalso
    rcases endTo_att (l := l) (B := beg l) (q := l.length) with e | ⟨p, p1, p2⟩
    · have h3 := beg_end hG hn
      have h4 := (beg_bd hG 0).1
      have h5 := (hG.len 0 hn).1
      have h6 : endV l = 0 := e
      exact h2 0 hn (by omega)
    · exact h2 p p1 p2
  · exact ⟨a, a1, a2, a3⟩
/-- A chain's task: in the network, without leave to wait. -/
theorem chain_step {l : List Task} (hG : GoodTasks l) {a : Nat} (ha : a < l.length) (hl : lat l a = beg l a) :
    (nextTo l (beg l) a (aftL l a) = -1 ∧ beg l a = 0) ∨ ∃ p, p < aftL l a ∧ nextTo l (beg l) a (aftL l a) = (aftN l a p : Int) ∧ aftN l a p < l.length ∧ beg l (aftN l a p) + lenN l (aftN l a p) = beg l a ∧ lat l (aftN l a p) = beg l (aftN l a p) := by
  rcases nextTo_spec (l := l) (B := beg l) (a := a) (q := aftL l a) with ⟨h1, h2⟩ | ⟨p, p1, p2, p3⟩
  · refine .inl ⟨h1, ?_⟩
    have e := beg_eq hG ha
    rcases longTo_att (l := l) (B := beg l) (i := a) (q := aftL l a) with h3 | ⟨p, p1, p2⟩
    · rw [e, h3]
    · exact absurd (p2.trans e.symm) (h2 p p1)
  · have h3 := (hG.aft a p ha p1).2
    refine .inr ⟨p, p1, p2, by omega, p3, ?_⟩
    have h4 := lat_aft hG ha p1
    have h5 := beg_lat hG _ (aftN l a p) (by omega) (Nat.lt_succ_self _)
    omega
/-- Each task of the chain. -/
theorem chain_at {l : List Task} (hG : GoodTasks l) {d : Nat} (hc : ∀ k, k < d → 0 ≤ atD l (beg l) (last l) k) : ∀ k, k < d → ∃ a : Nat, a < l.length ∧ atD l (beg l) (last l) k = a ∧ lat l a = beg l a := by
  intro k
  induction k with
  | zero =>
    intro hk
    have h0 := hc 0 hk
    have h1 : atD l (beg l) (last l) 0 = last l := rfl
    rw [h1] at h0 ⊢
    by_cases hn : 0 < l.length
    · obtain ⟨a, a1, a2, a3⟩ := last_end hG hn
      refine ⟨a, a1, a2, ?_⟩
      have h2 := lat_end hG a1
      have h3 := beg_lat hG _ a a1 (Nat.lt_succ_self _)
      omega
    · exfalso
      have := (firstTo_bd (l := l) (B := beg l) (E := endV l) (i := l.length)).2
      unfold last at h0
      omega
  | succ k ih =>
    intro hk
    obtain ⟨a, a1, a2, a3⟩ := ih (by omega)
    have h0 := hc (k + 1) hk
    have h1 : atD l (beg l) (last l) (k + 1) = nextTo l (beg l) a (aftL l a) := by simp only [atD, a2, Int.toNat_natCast]
    rw [h1] at h0 ⊢
    rcases chain_step hG a1 a3 with ⟨e, _⟩ | ⟨p, p1, p2, p3, p4, p5⟩
    · omega
    · exact ⟨_, p3, p2, p5⟩
end Go.Proofs.Ytjggcnpnjnmamaa
