/-
  The plates of gang.Forms make enough of each job: plain laws. No program in sight. Own text.
-/
import Derived.Test.YtimofofaeedcoaaDivV
import Derived.Test.YtimofofaeedcoaaSur3
namespace Go.Proofs.Ytimofofaeedcoaa
open Go.RowKit
set_option linter.unusedVariables false
theorem sumAt_cons (p : Int × Int) (l : List (Int × Int)) (j : Int) : sumAt (p :: l) j = (if p.1 = j then p.2 else 0) + sumAt l j := by
  unfold sumAt
  by_cases h : p.1 = j <;> simp [h]
theorem sumAt_ge {l : List (Int × Int)} (h : ∀ p ∈ l, 0 ≤ p.2) {j x : Int} (hx : (j, x) ∈ l) : x ≤ sumAt l j := by
  induction l with
  | nil => cases hx
  | cons p l ih =>
    have h0 : 0 ≤ sumAt l j := by
      clear hx ih
      have h' : ∀ q ∈ l, 0 ≤ q.2 := fun q hq => h q (by simp [hq])
      clear h
      induction l with
      | nil => simp [sumAt]
      | cons q l ih2 =>
        rw [sumAt_cons]
        have := h' q (by simp)
        have := ih2 (fun r hr => h' r (by simp [hr]))
        split <;> omega
    have hp := h p (by simp)
    rw [sumAt_cons]
    rcases List.mem_cons.1 hx with e | hx
    · subst e
      rw [if_pos rfl]
      omega
    · have := ih (fun q hq => h q (by simp [hq])) hx
      split <;> omega
theorem pos_find {N : Nat → Nat} {t : Nat} : ∀ m, t < pos N m → ∃ a, a < m ∧ pos N a ≤ t ∧ t < pos N (a + 1) := by
  intro m
  induction m with
  | zero => intro h; exact absurd h (Nat.not_lt_zero _)
  | succ m ih =>
    intro h
    by_cases h1 : t < pos N m
    · obtain ⟨a, ha, hb⟩ := ih h1
      exact ⟨a, by omega, hb⟩
    · exact ⟨m, by omega, by omega, h⟩
section
variable {ds : List Int} {s p : Int} {B : Nat → Int} {N : Nat → Nat} {m : Nat}
theorem formV_jobs_len {i k : Nat} (h1 : i ≤ k) (h2 : k ≤ ds.length) : (formV ds s i k).jobs.length = k - i := by
  show ((seg (ordV ds) i k).map _).length = _
  rw [List.length_map, seg_len h1 (by rw [ordV_len]; exact h2)]
theorem formV_ups_len {i k : Nat} (h1 : i ≤ k) (h2 : k ≤ ds.length) : (formV ds s i k).ups.length = k - i := by
  show (allotV (seg (vals ds) i k) _).length = _
  unfold allotV
  rw [List.length_map, seg_len h1 (by rw [vals_len]; exact h2)]
theorem formV_job {i k q : Nat} (h1 : i ≤ k) (h2 : k ≤ ds.length) (hq : q < (formV ds s i k).jobs.length) : (formV ds s i k).jobs[q] = (((ordV ds).getD (i + q) 0 : Nat) : Int) := by
  have hq' := hq
  rw [formV_jobs_len h1 h2] at hq'
  have e : (formV ds s i k).jobs[q] = (((seg (ordV ds) i k)[q]'(by rw [seg_len h1 (by rw [ordV_len]; exact h2)]; exact hq') : Nat) : Int) := List.getElem_map _
  rw [e, seg_get h1 (by rw [ordV_len]; exact h2), (ordV_at ds (show i + q < ds.length by omega)).2]
theorem formV_up {i k q : Nat} (h1 : i ≤ k) (h2 : k ≤ ds.length) (hq : q < (formV ds s i k).ups.length) : (formV ds s i k).ups[q] = cl ((vals ds).getD (i + q) 0) (runV (vals ds) s i k) := by
  have hq' := hq
  rw [formV_ups_len h1 h2] at hq'
  have hv : (vals ds).length = ds.length := vals_len ds
  have e : (formV ds s i k).ups[q] = cl ((seg (vals ds) i k)[q]'(by rw [seg_len h1 (by omega)]; exact hq')) (runV (vals ds) s i k) := List.getElem_map _
  rw [e, seg_get h1 (by omega), List.getD_eq_getElem?_getD, List.getElem?_eq_getElem (by omega)]
  rfl
theorem formV_sum {i k : Nat} : (formV ds s i k).ups.sum = needV (seg (vals ds) i k) (runV (vals ds) s i k) := rfl
theorem formV_fits {i k : Nat} (hd : Demands (vals ds)) (h1 : i ≤ k) (h2 : k ≤ ds.length) (hs : ((k - i : Nat) : Int) ≤ s) : (formV ds s i k).ups.sum ≤ s := by
  rw [formV_sum]
  exact (runV_least hd h1 (by rw [vals_len]; exact h2) hs).1.2.1
theorem formV_fine {i k : Nat} (hd : Demands (vals ds)) (hn : ds.length ≤ 12) (h1 : i ≤ k) (h2 : k ≤ ds.length) (hs : ((k - i : Nat) : Int) ≤ s) (hs2 : s ≤ 64) : formErr ds.length (formV ds s i k) = 0 := by
  have hv : (vals ds).length = ds.length := vals_len ds
  obtain ⟨hl, r1, r2⟩ := runV_least hd h1 (by omega) hs
  have j1 := formV_jobs_len (s := s) h1 h2
  have j2 := formV_ups_len (s := s) h1 h2
  have hp : (formV ds s i k).pairs.all (itemOk ds.length) = true := by
    rw [List.all_eq_true]
    intro x hx
    obtain ⟨q, hq, rfl⟩ := List.mem_iff_getElem.1 hx
    have hpl := pairs_length (f := formV ds s i k) (by omega)
    have hq1 : q < (formV ds s i k).jobs.length := by omega
    have hq2 : q < (formV ds s i k).ups.length := by omega
    rw [pairs_get hq hq1 hq2, formV_job h1 h2, formV_up h1 h2]
    have ho := (ordV_at ds (show i + q < ds.length by omega)).1
    have hm : (vals ds).getD (i + q) 0 ∈ seg (vals ds) i k := by
      have e : (vals ds).getD (i + q) 0 = (seg (vals ds) i k)[q]'(by rw [seg_len h1 (by omega)]; omega) := by
        rw [seg_get h1 (by omega), List.getD_eq_getElem?_getD, List.getElem?_eq_getElem (by omega)]
        rfl
      rw [e]
      exact List.getElem_mem _
    have hdm : Demands (seg (vals ds) i k) := fun d hx => hd d (seg_mem hx)
    have hc := cl_bd (hdm _ hm).1 r1
    have hg := needV_ge hdm r1 hm
    have hn := hl.2.1
    exact decide_eq_true ⟨by omega, by omega, by omega, by omega⟩
  have hr : (formV ds s i k).run = runV (vals ds) s i k := rfl
  unfold formErr
  rw [if_neg (by omega), if_neg (by omega), if_pos hp]
theorem chain_at (hB : BestFrom (vals ds) s p B N 0) (hm : ∀ a, a < m → pos N a < ds.length) {a : Nat} (ha : a < m) : pos N a < pos N (a + 1) ∧ pos N (a + 1) ≤ ds.length ∧ ((pos N (a + 1) - pos N a : Nat) : Int) ≤ s ∧ B (pos N a) = p + runV (vals ds) s (pos N a) (pos N (a + 1)) + B (pos N (a + 1)) := by
  have h := hB.at' (pos N a) (Nat.zero_le _) (by rw [vals_len]; exact hm a ha)
  have hh := h.hi
  rw [vals_len] at hh
  exact ⟨h.lo, hh, h.fit, h.eq⟩
theorem formsV_get {a : Nat} (ha : a < (formsV ds s N m).length) : (formsV ds s N m)[a] = formV ds s (pos N a) (pos N (a + 1)) := by
  simp only [formsV, List.getElem_map, List.getElem_range]
theorem forms_enough (hd : Demands ds) (hn : ds.length ≤ 12) (hB : BestFrom (vals ds) s p B N 0) (hm : ∀ a, a < m → pos N a < ds.length) (hend : pos N m = ds.length) {k : Nat} (hk : k < ds.length) : ds[k] ≤ sumAt (allItems (formsV ds s N m)) k := by
  have hdv := vals_demands hd
  have hv : (vals ds).length = ds.length := vals_len ds
  have hmem : k ∈ ordV ds := (ordV_perm ds).mem_iff.2 (List.mem_range.2 hk)
  obtain ⟨t, ht, het⟩ := List.mem_iff_getElem.1 hmem
  rw [ordV_len] at ht
  obtain ⟨a, ha, ha1, ha2⟩ := pos_find (N := N) (t := t) m (by omega)
  obtain ⟨c1, c2, c3, _⟩ := chain_at hB hm ha
  obtain ⟨hl, r1, r2⟩ := runV_least hdv (Nat.le_of_lt c1) (by omega) c3
  have j1 := formV_jobs_len (ds := ds) (s := s) (Nat.le_of_lt c1) c2
  have j2 := formV_ups_len (ds := ds) (s := s) (Nat.le_of_lt c1) c2
  have hit : ((k : Int), cl ds[k] (runV (vals ds) s (pos N a) (pos N (a + 1))) * runV (vals ds) s (pos N a) (pos N (a + 1))) ∈ allItems (formsV ds s N m) := by
    refine List.mem_flatMap.2 ⟨formV ds s (pos N a) (pos N (a + 1)), List.mem_map.2 ⟨a, List.mem_range.2 ha, rfl⟩, List.mem_map.2 ⟨((k : Int), cl ds[k] (runV (vals ds) s (pos N a) (pos N (a + 1)))), ?_, rfl⟩⟩
    have hpl := pairs_length (f := formV ds s (pos N a) (pos N (a + 1))) (by omega)
    have hq : t - pos N a < (formV ds s (pos N a) (pos N (a + 1))).pairs.length := by omega
    have hq1 : t - pos N a < (formV ds s (pos N a) (pos N (a + 1))).jobs.length := by omega
    have hq2 : t - pos N a < (formV ds s (pos N a) (pos N (a + 1))).ups.length := by omega
    refine List.mem_iff_getElem.2 ⟨t - pos N a, hq, ?_⟩
    rw [pairs_get hq hq1 hq2, formV_job (Nat.le_of_lt c1) c2, formV_up (Nat.le_of_lt c1) c2]
    have e1 : pos N a + (t - pos N a) = t := by omega
    have ho := (ordV_at ds ht).2
    rw [e1, ho, het]
    have e2 : (vals ds).getD t 0 = ds[k] := by
      rw [List.getD_eq_getElem?_getD, List.getElem?_eq_getElem (by omega)]
      have := vals_get ds (i := t) (by omega)
      simp only [ho, het] at this
      exact this
    rw [e2]
  have hnn : ∀ x ∈ allItems (formsV ds s N m), 0 ≤ x.2 := by
    intro x hx
    obtain ⟨f, hf, hx⟩ := List.mem_flatMap.1 hx
    obtain ⟨b, hb, rfl⟩ := List.mem_map.1 hf
    obtain ⟨d1, d2, d3, _⟩ := chain_at hB hm (List.mem_range.1 hb)
    obtain ⟨pr, hpr, rfl⟩ := List.mem_map.1 hx
    have hrr := runV_least hdv (Nat.le_of_lt d1) (by omega) d3
    obtain ⟨h1, h2⟩ := List.of_mem_zip hpr
    obtain ⟨d, hdm, e⟩ := List.mem_map.1 h2
    have hc := cl_bd (hdv d (seg_mem hdm)).1 hrr.2.1
    refine Int.mul_nonneg (by rw [← e]; omega) ?_
    show 0 ≤ runV (vals ds) s (pos N b) (pos N (b + 1))
    omega
  have h1 := sumAt_ge hnn hit
  have h2 := (cl_le (d := ds[k]) r1).1 (Int.le_refl _)
  omega
theorem forms_fchk (hd : Demands ds) (hn1 : 1 ≤ ds.length) (hn : ds.length ≤ 12) (hs2 : s ≤ 64) (hB : BestFrom (vals ds) s p B N 0) (hm : ∀ a, a < m → pos N a < ds.length) (hmn : m ≤ ds.length) : fchk ds (formsV ds s N m) = 0 := by
  have hdv := vals_demands hd
  unfold fchk
  rw [if_neg (by rw [gchk_ok hn1 hn hd (by omega) (by omega)]; omega), if_neg (by rw [formsV_len]; omega)]
  refine formsFirst_ok fun j hj => ?_
  rw [formsV_get hj]
  rw [formsV_len] at hj
  obtain ⟨d1, d2, d3, _⟩ := chain_at hB hm hj
  exact formV_fine hdv hn (Nat.le_of_lt d1) d2 d3 hs2
theorem forms_sur (hd : Demands ds) (hn1 : 1 ≤ ds.length) (hn : ds.length ≤ 12) (hs2 : s ≤ 64) (hB : BestFrom (vals ds) s p B N 0) (hm : ∀ a, a < m → pos N a < ds.length) (hmn : m ≤ ds.length) (hend : pos N m = ds.length) :
    surErr ds (formsV ds s N m) = 0 ∧ (∀ x ∈ surV ds (formsV ds s N m), 0 ≤ x) := by
  have hf := forms_fchk hd hn1 hn hs2 hB hm hmn
  refine ⟨surErr_ok hf (shortB_true fun k hk => ?_), fun x hx => ?_⟩
  · have := forms_enough hd hn hB hm hend hk
    omega
  · obtain ⟨k, hk, rfl⟩ := List.mem_iff_getElem.1 hx
    have hk' : k < ds.length := by rw [surV_length] at hk; exact hk
    rw [surV_get ds _ k hk' hk]
    have := forms_enough hd hn hB hm hend hk'
    omega
end
theorem aloneV_take (s p : Int) {xs : List Int} {k : Nat} (h : k < xs.length) : aloneV s p (xs.take (k + 1)) = aloneV s p (xs.take k) + (p + leastV [xs[k]] s) := by
  unfold aloneV
  rw [List.take_succ_eq_append_getElem h, List.map_append, List.sum_append]
  simp
theorem aloneV_bd {s p : Int} {xs : List Int} (hd : Demands xs) (hs : 1 ≤ s) (hp : 0 ≤ p) (hp2 : p ≤ 2000) : 0 ≤ aloneV s p xs ∧ aloneV s p xs ≤ xs.length * 1050576 := by
  induction xs with
  | nil => simp [aloneV]
  | cons x xs ih =>
    have h1 := ih (fun d hx => hd d (by simp [hx]))
    have h2 := leastV_isLeast (xs := [x]) (slots := s) (fun d hx => hd d (by simp at hx; simp [hx])) (by simpa using hs)
    have h3 := h2.1.1
    rw [aloneV_cons, List.length_cons]
    omega
end Go.Proofs.Ytimofofaeedcoaa
