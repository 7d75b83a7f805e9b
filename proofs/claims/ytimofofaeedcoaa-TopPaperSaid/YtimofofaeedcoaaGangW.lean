/-
  The reference's shortest run: the plain laws. No program in sight. Own text.
-/
import Derived.Test.YtimofofaeedcoaaGangV
namespace Go.Proofs.Ytimofofaeedcoaa
theorem needV_ge {xs : List Int} (hx : Demands xs) {r : Int} (hr : 1 ≤ r) {d : Int} (hd : d ∈ xs) : cl d r ≤ needV xs r := by
  induction xs with
  | nil => cases hd
  | cons x xs ih =>
    have h1 := cl_bd (hx x (by simp)).1 hr
    have h2 := needV_bd (fun d hd => hx d (by simp [hd]) : Demands xs) hr
    rw [needV_cons]
    rcases List.mem_cons.1 hd with rfl | hd
    · omega
    · have := ih (fun d hd => hx d (by simp [hd])) hd
      omega
theorem needV_grows {xs : List Int} {r r' : Int} (h : needV xs r' < needV xs r) : ∃ d ∈ xs, cl d r' < cl d r := by
  induction xs with
  | nil => simp [needV] at h
  | cons x xs ih =>
    by_cases hx : cl x r' < cl x r
    · exact ⟨x, by simp, hx⟩
    · rw [needV_cons, needV_cons] at h
      obtain ⟨d, hd, hlt⟩ := ih (by omega)
      exact ⟨d, by simp [hd], hlt⟩
/-- The shortest run is a quotient of a demand by a number of places. -/
theorem least_cand {xs : List Int} (hx : Demands xs) (hl : 1 ≤ xs.length) {slots r : Int} (h : IsLeast xs slots r) : ∃ i, ∃ (hi : i < xs.length), ∃ k, 1 ≤ k ∧ k ≤ slots ∧ cl xs[i] k = r := by
  obtain ⟨h1, h2, h3⟩ := h
  have key : ∃ d ∈ xs, ∃ k, 1 ≤ k ∧ k ≤ slots ∧ cl d k = r := by
    by_cases e : r = 1
    · subst e
      have hm : xs[0] ∈ xs := List.getElem_mem (by omega)
      have hd := hx _ hm
      have hg := needV_ge hx (r := 1) (by omega) hm
      have hc : cl xs[0] 1 = xs[0] := by unfold cl; simp
      refine ⟨xs[0], hm, xs[0], hd.1, by omega, ?_⟩
      have h4 := (cl_le (d := xs[0]) (r := xs[0]) (c := 1) hd.1).2 (by omega)
      have h5 := cl_bd (d := xs[0]) (r := xs[0]) hd.1 hd.1
      omega
    · rcases h3 with h3 | h3
      · exact absurd h3 e
      · obtain ⟨d, hd, hlt⟩ := needV_grows (xs := xs) (r := r - 1) (r' := r) (by omega)
        have hdd := hx d hd
        have hk := cl_bd hdd.1 h1
        have hg := needV_ge hx h1 hd
        refine ⟨d, hd, cl d r, hk.1, by omega, ?_⟩
        have a1 := (cl_le (d := d) (r := r) (c := cl d r) h1).1 (Int.le_refl _)
        have a2 := (cl_le (d := d) (r := cl d r) (c := r) hk.1).2 (by rw [Int.mul_comm]; exact a1)
        have a3 : ¬ cl d (cl d r) ≤ r - 1 := by
          intro h
          have b1 := (cl_le (d := d) (r := cl d r) (c := r - 1) hk.1).1 h
          have b2 := (cl_le (d := d) (r := r - 1) (c := cl d r) (by omega)).2 (by rw [Int.mul_comm]; exact b1)
          omega
        omega
  obtain ⟨d, hd, k, hk⟩ := key
  obtain ⟨i, hi, rfl⟩ := List.mem_iff_getElem.1 hd
  exact ⟨i, hi, k, hk⟩
/-- What holds of the best run found among the candidates ahead of place (i, j). -/
def SRInv (xs : List Int) (slots best : Int) (i : Nat) (j : Int) : Prop :=
  (best = 0 ∨ (1 ≤ best ∧ needV xs best ≤ slots)) ∧
  ∀ i' (h : i' < xs.length) k, 1 ≤ k → k ≤ slots → (i' < i ∨ (i' = i ∧ k < j)) → needV xs (cl xs[i'] k) ≤ slots → best ≠ 0 ∧ best ≤ cl xs[i'] k
theorem SRInv.start (xs : List Int) (slots : Int) : SRInv xs slots 0 0 1 := ⟨.inl rfl, fun i' _ k h1 _ h3 _ => by omega⟩
theorem SRInv.row {xs : List Int} {slots best : Int} {i : Nat} {j : Int} (h : SRInv xs slots best i j) (hj : slots < j) : SRInv xs slots best (i + 1) 1 :=
  ⟨h.1, fun i' hi k h1 h2 h3 h4 => h.2 i' hi k h1 h2 (by omega) h4⟩
theorem SRInv.no {xs : List Int} {slots best : Int} {i : Nat} {j : Int} (h : SRInv xs slots best i j) (hi : i < xs.length) (hn : ¬ needV xs (cl xs[i] j) ≤ slots ∨ (best ≠ 0 ∧ best ≤ cl xs[i] j)) : SRInv xs slots best i (j + 1) := by
  refine ⟨h.1, fun i' hi' k h1 h2 h3 h4 => ?_⟩
  by_cases e : i' = i ∧ k = j
  · obtain ⟨rfl, rfl⟩ := e
    rcases hn with hn | hn
    · exact absurd h4 hn
    · exact hn
  · exact h.2 i' hi' k h1 h2 (by omega) h4
theorem SRInv.yes {xs : List Int} {slots best : Int} {i : Nat} {j : Int} (h : SRInv xs slots best i j) (hi : i < xs.length) (h0 : 1 ≤ cl xs[i] j) (hn : needV xs (cl xs[i] j) ≤ slots) (hb : best = 0 ∨ cl xs[i] j < best) : SRInv xs slots (cl xs[i] j) i (j + 1) := by
  refine ⟨.inr ⟨h0, hn⟩, fun i' hi' k h1 h2 h3 h4 => ⟨by omega, ?_⟩⟩
  by_cases e : i' = i ∧ k = j
  · obtain ⟨rfl, rfl⟩ := e
    exact Int.le_refl _
  · have := h.2 i' hi' k h1 h2 (by omega) h4
    omega
theorem SRInv.done {xs : List Int} {slots best : Int} {i : Nat} (h : SRInv xs slots best i 1) (hi : xs.length ≤ i) (hx : Demands xs) (hl : 1 ≤ xs.length) : best = leastV xs slots := by
  by_cases hs : slots < xs.length
  · rw [leastV_zero hs]
    rcases h.1 with h1 | ⟨h1, h2⟩
    · exact h1
    · have := needV_bd hx h1
      omega
  · have hr := (leastV_isLeast hx (by omega : (xs.length : Int) ≤ slots)).1
    obtain ⟨i', hi', k, hk1, hk2, hk⟩ := least_cand hx hl hr
    have h2 := h.2 i' hi' k hk1 hk2 (.inl (by omega)) (by rw [hk]; exact hr.2.1)
    rw [hk] at h2
    rcases h.1 with h1 | ⟨h1, h3⟩
    · omega
    · obtain ⟨r1, r2, r3⟩ := hr
      rcases r3 with r3 | r3
      · omega
      · by_cases e : best ≤ leastV xs slots - 1
        · have := needV_anti hx h1 e
          omega
        · omega
end Go.Proofs.Ytimofofaeedcoaa
