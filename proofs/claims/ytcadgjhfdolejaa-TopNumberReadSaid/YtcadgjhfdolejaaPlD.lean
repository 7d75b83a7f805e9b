/-
  The plain law of a number's digits, and Decode on a number's widths. Own text.
-/
import Derived.Test.YtcadgjhfdolejaaPlN
namespace Go.Proofs.Ytcadgjhfdolejaa
open Go.RowKit
set_option linter.unusedVariables false
theorem dC_of {c : UInt8} (h : 48 ≤ c.toNat ∧ c.toNat ≤ 57) : dC (c.toNat - 48) = c := by
  apply UInt8.toNat.inj
  rw [dC_nat (by omega)]
  omega
theorem digsV_pair : ∀ (n : Nat) (l : List UInt8), DigL l → l.length = 2 * n → digsV (fun i => (pairV l).getD i 0) n = l
  | 0, [], _, _ => rfl
  | n + 1, a :: b :: r, hd, h => by
    have ha := hd a (by simp)
    have hb := hd b (by simp)
    have ih := digsV_pair n r (fun c hc => hd c (by simp [hc])) (by simp at h; omega)
    unfold digsV at ih ⊢
    rw [List.range_succ_eq_map, List.flatMap_cons, List.flatMap_map]
    have e0 : (pairV (a :: b :: r)).getD 0 0 = 10 * ((a.toNat : Int) - 48) + ((b.toNat : Int) - 48) := rfl
    have e1 : ∀ i, (pairV (a :: b :: r)).getD (i + 1) 0 = (pairV r).getD i 0 := fun i => rfl
    simp only [e0, e1]
    rw [ih]
    have q1 : ((10 * ((a.toNat : Int) - 48) + ((b.toNat : Int) - 48)) / 10).toNat = a.toNat - 48 := by omega
    have q2 : ((10 * ((a.toNat : Int) - 48) + ((b.toNat : Int) - 48)) % 10).toNat = b.toNat - 48 := by omega
    rw [q1, q2, dC_of ha, dC_of hb]
    rfl
theorem symsV_len (l : List UInt8) (h1 : 1 ≤ l.length) (h20 : l.length ≤ 20) : 1 ≤ (symsV l).length ∧ (symsV l).length ≤ 11 := by
  unfold symsV
  split
  · rw [List.length_cons, pairV_len ((l.length + 1) / 2) (48 :: l) (by simp; omega)]; omega
  · rw [pairV_len (l.length / 2) l (by omega)]; omega
theorem vsL_len (l : List UInt8) : (vsL l).length = (symsV l).length + 3 := by simp [vsL]
theorem vsN_zero (l : List UInt8) : vsN l 0 = 101 := rfl
theorem vsN_sym (l : List UInt8) (i : Nat) (h : i < (symsV l).length) : vsN l (1 + i) = (symsV l).getD i 0 := by
  unfold vsN vsL
  rw [Nat.add_comm 1 i, List.getD_cons_succ, List.append_assoc, List.getD_eq_getElem?_getD, List.getElem?_append_left h, List.getD_eq_getElem?_getD]
theorem vsN_sum (l : List UInt8) : vsN l ((symsV l).length + 1) = sumL (symsV l) := by
  unfold vsN vsL
  rw [List.getD_cons_succ, List.append_assoc, List.getD_eq_getElem?_getD, List.getElem?_append_right (Nat.le_refl _), Nat.sub_self]
  rfl
theorem vsN_stop (l : List UInt8) : vsN l ((symsV l).length + 2) = 102 := by
  unfold vsN vsL
  rw [List.getD_cons_succ, List.append_assoc, List.getD_eq_getElem?_getD, List.getElem?_append_right (Nat.le_succ _), show (symsV l).length.succ - (symsV l).length = 1 by omega]
  rfl
theorem symsV_bd (l : List UInt8) (hl : DigL l) : ∀ x ∈ symsV l, 0 ≤ x ∧ x ≤ 100 := fun x hx => by
  unfold symsV at hx
  split at hx
  · rcases List.mem_cons.1 hx with rfl | hx
    · omega
    · have := pairV_bd (48 :: l) (fun c hc => by rcases List.mem_cons.1 hc with rfl | hc; decide; exact hl c hc) x hx
      omega
  · have := pairV_bd l hl x hx
    omega
theorem vsN_bd (l : List UInt8) (hl : DigL l) (j : Nat) (hj : j < (vsL l).length) : 0 ≤ vsN l j ∧ vsN l j ≤ 102 := by
  have hm : vsN l j ∈ vsL l := by
    unfold vsN
    rw [List.getD_eq_getElem?_getD, List.getElem?_eq_getElem hj]
    exact List.getElem_mem _
  generalize vsN l j = x at hm
  unfold vsL at hm
  rcases List.mem_cons.1 hm with rfl | hm
  · omega
  · rw [List.append_assoc] at hm
    rcases List.mem_append.1 hm with hm | hm
    · have := symsV_bd l hl x hm; omega
    · have hs := sumV_bd (fun i => (symsV l).getD i 0) (symsV l).length
      have he : sumL (symsV l) = sumV (fun i => (symsV l).getD i 0) (symsV l).length := rfl
      simp only [List.cons_append, List.nil_append, List.mem_cons, List.not_mem_nil, or_false] at hm
      omega
/-- What digits answers to a number's symbols. -/
theorem digs_of (l : List UInt8) (hl : DigL l) (h1 : 1 ≤ l.length) (h20 : l.length ≤ 20) (n : Nat) (hn : n = (symsV l).length) (W : World) (g o c : Nat) (hr : NRow W g o n (fun i => vsN l (1 + i))) (hc : n ≤ c) :
    Calls Try.prog 34 #[.slice (some ⟨g, o, none⟩) n c] W (RetTxt l W) := by
  have hv : ∀ i, i < n → vsN l (1 + i) = (symsV l).getD i 0 := fun i hi => vsN_sym l i (by omega)
  have hr2 : NRow W g o n (fun i => (symsV l).getD i 0) := fun i hi => by
    rw [hr i hi]
    exact congrArg (fun x => some (Value.int .i64 x)) (hv i hi)
  clear hr hv
  by_cases e : l.length % 2 = 1
  · have hs : symsV l = 100 :: pairV (48 :: l) := by unfold symsV; rw [if_pos e]
    have hd2 : DigL (48 :: l) := fun c hc => by rcases List.mem_cons.1 hc with rfl | hc; decide; exact hl c hc
    have hpl : (pairV (48 :: l)).length = (l.length + 1) / 2 := pairV_len _ _ (by simp; omega)
    obtain ⟨k, hk⟩ : ∃ k, k = (l.length + 1) / 2 := ⟨_, rfl⟩
    have hres : (digsV (fun i => (pairV (48 :: l)).getD i 0) k).tail = l := by
      rw [digsV_pair k (48 :: l) hd2 (by simp; omega)]
      rfl
    have hg : (fun i => (symsV l).getD (1 + i) 0) = fun i => (pairV (48 :: l)).getD i 0 := by
      funext i
      rw [hs, Nat.add_comm 1 i, List.getD_cons_succ]
    have hm : ∀ i, i < k → 0 ≤ (pairV (48 :: l)).getD i 0 ∧ (pairV (48 :: l)).getD i 0 < 100 := fun i hi => by
      rw [List.getD_eq_getElem?_getD, List.getElem?_eq_getElem (by omega)]
      have := pairV_bd (48 :: l) hd2 _ (List.getElem_mem (l := pairV (48 :: l)) (n := i) (by omega))
      show 0 ≤ (pairV (48 :: l))[i] ∧ (pairV (48 :: l))[i] < 100
      omega
    have hz : (symsV l).getD 1 0 < 10 := by
      rw [hs]
      show (pairV (48 :: l)).getD 0 0 < 10
      cases l with
      | nil => simp at h1
      | cons a r =>
        have ha := hl a (by simp)
        show 10 * (((48 : UInt8).toNat : Int) - 48) + ((a.toNat : Int) - 48) < 10
        have : ((48 : UInt8).toNat : Int) = 48 := rfl
        omega
    have h := digs_odd g o k c n (fun i => (symsV l).getD i 0) (by omega) (by omega) (by rw [hn, hs, List.length_cons, hpl, hk]) hc (by rw [hs]; rfl) (fun i hi => by
      have e2 : (symsV l).getD (1 + i) 0 = (pairV (48 :: l)).getD i 0 := congrFun hg i
      show 0 ≤ (symsV l).getD (1 + i) 0 ∧ (symsV l).getD (1 + i) 0 < 100
      rw [e2]; exact hm i hi) hz W hr2
    rw [hg, hres] at h
    exact h
  · have hs : symsV l = pairV l := by unfold symsV; rw [if_neg e]
    have hpl : (pairV l).length = n := by rw [hn, hs]
    have hl2 := pairV_len (l.length / 2) l (by omega)
    have h := digs_even g o n c (fun i => (symsV l).getD i 0) (by omega) (by omega) (fun i hi => by
      show 0 ≤ (symsV l).getD i 0 ∧ (symsV l).getD i 0 < 100
      rw [hs, List.getD_eq_getElem?_getD, List.getElem?_eq_getElem (by omega)]
      have := pairV_bd l hl _ (List.getElem_mem (l := pairV l) (n := i) (by omega))
      show 0 ≤ (pairV l)[i] ∧ (pairV l)[i] < 100
      omega) W hr2
    rw [hs, digsV_pair n l hl (by omega)] at h
    exact h
end Go.Proofs.Ytcadgjhfdolejaa
