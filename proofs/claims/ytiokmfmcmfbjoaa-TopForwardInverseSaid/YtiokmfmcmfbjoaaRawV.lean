/-
  The second loop of grid.Raw, in plain words. Own text.
-/
import Derived.Test.YtiokmfmcmfbjoaaInterV
namespace Go.Proofs.Ytiokmfmcmfbjoaa
open Go.RowKit
set_option linter.unusedVariables false
/-- The axes of a point, by falling part. -/
def axesV (S : Int) (xs : List Int) : List Nat := axesTo (partOf S xs) xs.length xs.length
theorem axesV_len (S : Int) (xs : List Int) : (axesV S xs).length = xs.length := axesTo_len _ _ _
theorem axesV_mem (S : Int) (xs : List Int) {i : Nat} : i ∈ axesV S xs ↔ i < xs.length := axesTo_mem _ (Nat.le_refl _)
def axisV (S : Int) (xs : List Int) (j : Nat) : Nat := (axesV S xs).getD j 0
theorem axisV_lt {S : Int} {xs : List Int} {j : Nat} (h : j < xs.length) : axisV S xs j < xs.length := by
  have hl := axesV_len S xs
  have : axisV S xs j ∈ axesV S xs := by
    unfold axisV
    rw [List.getD_eq_getElem?_getD, List.getElem?_eq_getElem (by omega)]
    exact List.getElem_mem _
  exact (axesV_mem S xs).1 this
theorem axesV_drop {S : Int} {xs : List Int} {j : Nat} (h : j < xs.length) : (axesV S xs).drop j = axisV S xs j :: (axesV S xs).drop (j + 1) := by
  have hl := axesV_len S xs
  unfold axisV
  rw [List.getD_eq_getElem?_getD, List.getElem?_eq_getElem (by omega), List.drop_eq_getElem_cons (by omega)]
  rfl
/-- The part of the axis at place j; zero behind the last. -/
def nextP (S : Int) (xs : List Int) (j : Nat) : Int := if j < xs.length then partOf S xs (axisV S xs j) else 0
def addA (A : Nat → Int) (k : Int) (V : Nat → Int) (o : Nat) : Int := if 0 < k then A o + k * V o else A o
structure RawInv (P : Prof) (xs : List Int) (S : Int) (j : Nat) (wt : Int) (c A : Nat → Int) : Prop where
  hj : j ≤ xs.length
  w0 : 0 ≤ wt
  w1 : wt ≤ S
  desc : ∀ a, a ∈ (axesV S xs).drop j → partOf S xs a ≤ wt
  inb : ∀ i, i < xs.length → 0 ≤ c i ∧ c i ≤ P.size - 1
  rest : ∀ a, a ∈ (axesV S xs).drop j → c a = cellV S xs a
  sum : ∀ o, o < 3 → A o + rawGo (valAt P xs.length o) (partOf S xs) ((axesV S xs).drop j) c wt = rawV P xs o
  bd : ∀ o, o < 3 → -((S - wt) * 65535) ≤ A o ∧ A o ≤ (S - wt) * 65535
section
variable {P : Prof} {xs : List Int} {S : Int} {j : Nat} {wt : Int} {c A : Nat → Int}
theorem cell_in {size x : Int} (hS : 0 < S) (hm : S * (size - 1) = 65280) (h0 : 0 ≤ x) (h1 : x ≤ 65280) : 0 ≤ x / S ∧ x / S ≤ size - 1 ∧ (x % S ≠ 0 → x / S + 1 ≤ size - 1) := by
  have a1 := Int.mul_ediv_add_emod x S
  have a2 := Int.emod_nonneg x (show S ≠ 0 by omega)
  have a3 := Int.emod_lt_of_pos x hS
  refine ⟨Int.ediv_nonneg h0 (by omega), ?_, fun hne => ?_⟩
  · have : x / S * S ≤ (size - 1) * S := by rw [Int.mul_comm (x / S), Int.mul_comm (size - 1)]; omega
    exact Int.le_of_mul_le_mul_right this hS
  · have h : (x / S) * S < (size - 1) * S := by rw [Int.mul_comm (x / S), Int.mul_comm (size - 1)]; omega
    have := Int.lt_of_mul_lt_mul_right h (by omega)
    omega
theorem cellV_out {i : Nat} (h : xs.length ≤ i) : cellV S xs i = 0 := by
  unfold cellV
  rw [List.getD_eq_getElem?_getD, List.getElem?_eq_none h]
  exact Int.zero_ediv S
theorem partOf_out {i : Nat} (h : xs.length ≤ i) : partOf S xs i = 0 := by
  unfold partOf
  rw [List.getD_eq_getElem?_getD, List.getElem?_eq_none h]
  exact Int.zero_emod S
theorem RawInv.start (hS : 0 < S) (hSe : S = stepOf P.size) (hm : S * (P.size - 1) = 65280) (hr : ∀ i (h : i < xs.length), 0 ≤ xs[i] ∧ xs[i] ≤ 65280) : RawInv P xs S 0 S (cellV S xs) (fun _ => 0) := by
  have hrg : ∀ i, i < xs.length → 0 ≤ xs.getD i 0 ∧ xs.getD i 0 ≤ 65280 := fun i hi => by
    rw [List.getD_eq_getElem?_getD, List.getElem?_eq_getElem hi]; exact hr i hi
  refine ⟨Nat.zero_le _, by omega, by omega, fun a ha => ?_, fun i hi => ?_, fun a ha => rfl, fun o ho => ?_, fun o ho => by simp⟩
  · exact Int.le_of_lt (Int.emod_lt_of_pos _ hS)
  · have := cell_in hS hm (hrg i hi).1 (hrg i hi).2
    exact ⟨this.1, this.2.1⟩
  · rw [Int.zero_add, List.drop_zero]
    subst hSe
    rfl
theorem addA_eq (A : Nat → Int) (k : Int) (V : Nat → Int) (o : Nat) : addA A k V o = A o + (if 0 < k then k * V o else 0) := by
  unfold addA
  by_cases h : 0 < k
  · rw [if_pos h, if_pos h]
  · rw [if_neg h, if_neg h, Int.add_zero]
theorem nextP_bd (hS : 0 < S) (h : RawInv P xs S j wt c A) : 0 ≤ nextP S xs j ∧ nextP S xs j ≤ wt := by
  unfold nextP
  by_cases hj : j < xs.length
  · rw [if_pos hj]
    exact ⟨Int.emod_nonneg _ (by omega), h.desc _ (by rw [axesV_drop hj]; exact List.mem_cons_self)⟩
  · rw [if_neg hj]
    exact ⟨Int.le_refl _, h.w0⟩
/-- The last round. -/
theorem RawInv.last (hS : 0 < S) (h : RawInv P xs S j wt c A) (hp : nextP S xs j = 0) {o : Nat} (ho : o < 3) : addA A (wt - nextP S xs j) (fun o => valAt P xs.length o c) o = rawV P xs o := by
  have hs := h.sum o ho
  rw [addA_eq, hp]
  rw [← hs]
  by_cases hj : j < xs.length
  · unfold nextP at hp
    rw [if_pos hj] at hp
    rw [axesV_drop hj]
    unfold rawGo
    rw [hp, if_pos rfl, Int.add_zero]
  · have hl := axesV_len S xs
    rw [List.drop_of_length_le (by omega)]
    unfold rawGo
    rw [Int.sub_zero]
theorem addA_bd {V : Int} (hw : 0 ≤ wt) (hws : wt ≤ S) {p : Int} (hp : 0 ≤ p) (hp2 : p ≤ wt) (hv : -65535 ≤ V ∧ V ≤ 65535) {a : Int} (ha : -((S - wt) * 65535) ≤ a ∧ a ≤ (S - wt) * 65535) :
    -((wt - p) * 65535) ≤ (wt - p) * V ∧ (wt - p) * V ≤ (wt - p) * 65535 ∧ -((S - p) * 65535) ≤ a + (wt - p) * V ∧ a + (wt - p) * V ≤ (S - p) * 65535 := by
  have h1 : (wt - p) * V ≤ (wt - p) * 65535 := Int.mul_le_mul_of_nonneg_left hv.2 (by omega)
  have h2 : (wt - p) * -65535 ≤ (wt - p) * V := Int.mul_le_mul_of_nonneg_left hv.1 (by omega)
  refine ⟨?_, h1, ?_, ?_⟩ <;> omega
theorem RawInv.next (hS : 0 < S) (hm : S * (P.size - 1) = 65280) (hr : ∀ i (h : i < xs.length), 0 ≤ xs[i] ∧ xs[i] ≤ 65280) (hV : ∀ o, o < 3 → -65535 ≤ valAt P xs.length o c ∧ valAt P xs.length o c ≤ 65535) (h : RawInv P xs S j wt c A) (hj : j < xs.length) (hp : nextP S xs j ≠ 0) :
    RawInv P xs S (j + 1) (nextP S xs j) (bump c (axisV S xs j)) (addA A (wt - nextP S xs j) (fun o => valAt P xs.length o c)) := by
  have hnb := nextP_bd hS h
  have hd := axesV_drop (S := S) hj
  have ha := axisV_lt (S := S) hj
  have hnd : ((axesV S xs).drop j).Nodup := (axesTo_nodup _ (Nat.le_refl _)).sublist (List.drop_sublist _ _)
  have hde : ((axesV S xs).drop j).Pairwise (fun a b => partOf S xs b ≤ partOf S xs a) := (axesTo_desc _ (Nat.le_refl _)).sublist (List.drop_sublist _ _)
  rw [hd] at hnd hde
  have hnn : nextP S xs j = partOf S xs (axisV S xs j) := if_pos hj
  have hrg : ∀ i, i < xs.length → 0 ≤ xs.getD i 0 ∧ xs.getD i 0 ≤ 65280 := fun i hi => by
    rw [List.getD_eq_getElem?_getD, List.getElem?_eq_getElem hi]; exact hr i hi
  refine ⟨hj, hnb.1, by have := h.w1; omega, fun a hm => ?_, fun i hi => ?_, fun a hm => ?_, fun o ho => ?_, fun o ho => ?_⟩
  · rw [hnn]
    exact (List.pairwise_cons.1 hde).1 a hm
  · unfold bump
    have h2 := h.inb i hi
    by_cases e : i = axisV S xs j
    · rw [if_pos e]
      have h3 := h.rest i (by rw [hd, e]; exact List.mem_cons_self)
      have h4 := cell_in hS hm (hrg i hi).1 (hrg i hi).2
      have h5 := h4.2.2 (by rw [hnn, ← e] at hp; exact hp)
      rw [h3]
      unfold cellV
      omega
    · rw [if_neg e]; exact h2
  · unfold bump
    have e : a ≠ axisV S xs j := fun e => (List.nodup_cons.1 hnd).1 (e ▸ hm)
    rw [if_neg e]
    exact h.rest a (by rw [hd]; exact List.mem_cons_of_mem _ hm)
  · have hs := h.sum o ho
    rw [hd] at hs
    unfold rawGo at hs
    rw [← hnn, if_neg hp] at hs
    rw [addA_eq, ← hs]
    omega
  · have h1 := addA_bd h.w0 h.w1 hnb.1 hnb.2 (hV o ho) (h.bd o ho)
    unfold addA
    by_cases hk : 0 < wt - nextP S xs j
    · rw [if_pos hk]; exact ⟨h1.2.2.1, h1.2.2.2⟩
    · rw [if_neg hk]
      have h2 := h.bd o ho
      have h3 : nextP S xs j = wt := by omega
      rw [h3]; exact h2
end
/-- A value at a node. -/
theorem valAt_in {P : Prof} {d : Nat} (hok : OkGrid P.inn P.out P.size P.vals) (hi : P.inn = (d : Int)) (hout : P.out = 3) {c : Nat → Int} (hc : ∀ i, i < d → 0 ≤ c i ∧ c i ≤ P.size - 1) :
    ∃ n : Nat, nodeV P.size ((List.range d).map c) = (n : Int) ∧ n * 3 + 2 < P.vals.length ∧ n ≤ 10922 ∧ ∀ o (ho : o < 3), ∃ h : n * 3 + o < P.vals.length, valAt P d o c = P.vals[n * 3 + o] ∧ -65535 ≤ valAt P d o c ∧ valAt P d o c ≤ 65535 := by
  have hs : 1 ≤ P.size := by have := hok.shape.2.1; unfold SizeOk at this; omega
  have hin : InNodes P.size ((List.range d).map c) := fun i h => by
    rw [List.length_map, List.length_range] at h
    rw [List.getElem_map, List.getElem_range]
    exact hc i h
  have hb := nodeV_bd hs hin d (by simp)
  rw [List.take_of_length_le (by simp)] at hb
  have hlen := hok.len
  rw [hout, hi, Int.toNat_natCast] at hlen
  have h327 := hok.shape.2.2
  rw [hout, hi, Int.toNat_natCast] at h327
  obtain ⟨n, hn⟩ : ∃ n : Nat, nodeV P.size ((List.range d).map c) = (n : Int) := ⟨(nodeV P.size ((List.range d).map c)).toNat, by omega⟩
  refine ⟨n, hn, by omega, by omega, fun o ho => ?_⟩
  have hl : n * 3 + o < P.vals.length := by omega
  have he : valAt P d o c = P.vals[n * 3 + o] := by
    unfold valAt
    rw [hn, hout, show ((n : Int) * 3).toNat + o = n * 3 + o by omega, List.getD_eq_getElem?_getD, List.getElem?_eq_getElem hl]
    rfl
  have hr := hok.rng _ hl
  exact ⟨hl, he, by rw [he]; omega, by rw [he]; omega⟩
end Go.Proofs.Ytiokmfmcmfbjoaa
