/-
  The chain forward: each task begins when the previous one ends; plain. No program in sight. Own text.
-/
import Derived.Test.YtjggcnpnjnmamaaTimesY
namespace Go.Proofs.Ytjggcnpnjnmamaa
set_option linter.unusedVariables false
/-- The chain's task number k; what has gone by ahead of it. -/
def ck (l : List Task) (d k : Nat) : Nat := (atD l (beg l) (last l) (d - 1 - k)).toNat
def nowV (l : List Task) (d k : Nat) : Int := if k < d then beg l (ck l d k) else endV l
theorem ck_at {l : List Task} (hG : GoodTasks l) {d k : Nat} (h : ChainOf l (beg l) (last l) d) (hk : k < d) : ck l d k < l.length ∧ atD l (beg l) (last l) (d - 1 - k) = (ck l d k : Int) ∧ lat l (ck l d k) = beg l (ck l d k) := by
  obtain ⟨a, a1, a2, a3⟩ := chain_at hG h.2 (d - 1 - k) (by omega)
  unfold ck
  rw [a2]
  simp only [Int.toNat_natCast]
  exact ⟨a1, trivial, a3⟩
/-- The task behind. -/
theorem ck_next {l : List Task} (hG : GoodTasks l) {d k : Nat} (h : ChainOf l (beg l) (last l) d) (hk : k + 1 < d) :
    ∃ p, p < aftL l (ck l d (k + 1)) ∧ aftN l (ck l d (k + 1)) p = ck l d k ∧ beg l (ck l d k) + lenN l (ck l d k) = beg l (ck l d (k + 1)) := by
  obtain ⟨b1, b2, b3⟩ := ck_at hG h (k := k) (by omega)
  obtain ⟨c1, c2, c3⟩ := ck_at hG h hk
  have e : d - 1 - k = (d - 1 - (k + 1)) + 1 := by omega
  rw [e] at b2
  simp only [atD] at b2
  rw [c2] at b2
  simp only [Int.toNat_natCast] at b2
  rcases chain_step hG c1 c3 with ⟨f, _⟩ | ⟨p, p1, p2, p3, p4, p5⟩
  · omega
  · have e2 : aftN l (ck l d (k + 1)) p = ck l d k := by omega
    rw [e2] at p4
    exact ⟨p, p1, e2, p4⟩
theorem now_zero {l : List Task} (hG : GoodTasks l) {d : Nat} (h : ChainOf l (beg l) (last l) d) : nowV l d 0 = 0 := by
  unfold nowV
  by_cases hd : 0 < d
  · rw [if_pos hd]
    obtain ⟨b1, b2, b3⟩ := ck_at hG h hd
    rcases chain_step hG b1 b3 with ⟨_, f⟩ | ⟨p, p1, p2, p3, p4, p5⟩
    · exact f
    · exfalso
      have h1 := h.1
      have e : d = (d - 1 - 0) + 1 := by omega
      rw [e] at h1
      simp only [atD] at h1
      rw [b2] at h1
      simp only [Int.toNat_natCast] at h1
      omega
  · rw [if_neg hd]
    have hd0 : d = 0 := by omega
    subst hd0
    have h1 : last l = -1 := h.1
    by_cases hn : 0 < l.length
    · obtain ⟨a, a1, a2, a3⟩ := last_end hG hn
      omega
    · unfold endV
      rw [show l.length = 0 by omega]
      rfl
theorem now_succ {l : List Task} (hG : GoodTasks l) {d k : Nat} (h : ChainOf l (beg l) (last l) d) (hk : k < d) : nowV l d (k + 1) = nowV l d k + lenN l (ck l d k) := by
  unfold nowV
  rw [if_pos hk]
  by_cases h1 : k + 1 < d
  · rw [if_pos h1]
    obtain ⟨p, _, _, e⟩ := ck_next hG h h1
    exact e.symm
  · rw [if_neg h1]
    have e : d - 1 - k = 0 := by omega
    have e2 : ck l d k = (last l).toNat := by unfold ck; rw [e]; rfl
    obtain ⟨b1, b2, b3⟩ := ck_at hG h hk
    obtain ⟨a, a1, a2, a3⟩ := last_end hG (by omega)
    rw [e2, a2]
    simp only [Int.toNat_natCast]
    exact a3.symm
theorem now_bd {l : List Task} (hG : GoodTasks l) (d k : Nat) : 0 ≤ nowV l d k ∧ nowV l d k ≤ 42991616 := by
  unfold nowV
  split
  · have := beg_bd hG (ck l d k); omega
  · exact endV_bd hG
theorem chain_get {l : List Task} {d k : Nat} (hG : GoodTasks l) (h : ChainOf l (beg l) (last l) d) (hk : k < d) (h2 : k < (chD l (beg l) (last l) d).reverse.length) : (chD l (beg l) (last l) d).reverse[k] = (ck l d k : Int) := by
  rw [List.getElem_reverse]
  unfold chD
  rw [List.getElem_map, List.getElem_range]
  simp only [List.length_map, List.length_range]
  exact (ck_at hG h hk).2.1
theorem chain_len {l : List Task} {d : Nat} (hG : GoodTasks l) (h : ChainOf l (beg l) (last l) d) : d ≤ l.length + 1 := by
  have key : ∀ k, k < d → atD l (beg l) (last l) k + k < l.length := by
    intro k
    induction k with
    | zero =>
      intro _
      have h2 := (firstTo_bd (l := l) (B := beg l) (E := endV l) (i := l.length)).2
      have h3 : atD l (beg l) (last l) 0 = firstTo l (beg l) (endV l) l.length := rfl
      omega
    | succ k ih =>
      intro hk
      have h1 := ih (by omega)
      obtain ⟨a, a1, a2, a3⟩ := chain_at hG h.2 k (by omega)
      have h3 : atD l (beg l) (last l) (k + 1) = nextTo l (beg l) a (aftL l a) := by simp only [atD, a2, Int.toNat_natCast]
      have h4 := (nextTo_bd hG (B := beg l) a1 (Nat.le_refl (aftL l a))).2
      omega
  by_cases hd : d = 0
  · omega
  · have h1 := key (d - 1) (by omega)
    have h2 := h.2 (d - 1) (by omega)
    omega
end Go.Proofs.Ytjggcnpnjnmamaa
