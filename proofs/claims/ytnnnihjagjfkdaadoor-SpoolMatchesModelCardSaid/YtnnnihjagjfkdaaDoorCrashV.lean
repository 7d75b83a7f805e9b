/-
  What arrives of writes: plain. Own text.
-/
import Derived.Test.YtnnnihjagjfkdaaDoorQues
namespace Go.Proofs.YtnnnihjagjfkdaaDoor
open Go.RowKit
set_option linter.unusedVariables false
structure Arv where
  left : Nat
  a : List UInt8
  b : List UInt8
def arvStep (s : Arv) (x : Wr) : Arv :=
  { left := s.left - min s.left x.data.size
    a := if x.area = 0 then s.a ++ x.data.data.toList.take (min s.left x.data.size) else s.a
    b := if x.area = 0 then s.b else s.b ++ x.data.data.toList.take (min s.left x.data.size) }
def arvV (s : Arv) (l : List Wr) : Arv := l.foldl arvStep s
def sizeW (l : List Wr) : Nat := (l.map fun x => x.data.size).sum
theorem sizeW_take {l : List Wr} {k : Nat} (h : k < l.length) : sizeW (l.take (k + 1)) = sizeW (l.take k) + l[k].data.size := by
  unfold sizeW
  rw [List.take_succ_eq_append_getElem h, List.map_append, List.sum_append]
  simp
theorem sizeW_le (l : List Wr) (k : Nat) : sizeW (l.take k) ≤ sizeW l := by
  unfold sizeW
  conv => rhs; rw [← List.take_append_drop k l]
  rw [List.map_append, List.sum_append]
  omega
theorem arvV_succ (s : Arv) {l : List Wr} {k : Nat} (h : k < l.length) : arvV s (l.take (k + 1)) = arvStep (arvV s (l.take k)) l[k] := by
  unfold arvV
  rw [List.take_succ_eq_append_getElem h, List.foldl_append]
  rfl
theorem arvV_len (s : Arv) (l : List Wr) : ∀ k, k ≤ l.length → (arvV s (l.take k)).a.length + (arvV s (l.take k)).b.length ≤ s.a.length + s.b.length + sizeW (l.take k) := by
  intro k
  induction k with
  | zero => intro _; simp [arvV, sizeW]
  | succ k ih =>
    intro hk
    have h := ih (by omega)
    rw [arvV_succ s (by omega), sizeW_take (by omega)]
    unfold arvStep
    have ht : (l[k].data.data.toList.take (min (arvV s (l.take k)).left l[k].data.size)).length ≤ l[k].data.size := by
      rw [List.length_take]
      have : l[k].data.data.toList.length = l[k].data.size := by simp
      omega
    by_cases ha : l[k].area = 0
    · simp only [if_pos ha, List.length_append]; omega
    · simp only [if_neg ha, List.length_append]; omega
/-- All areas are there. -/
def okArea (x : Wr) : Bool := decide (x.area = 0 ∨ x.area = 1)
theorem first_bad {l : List Wr} (h : l.all okArea = false) : ∃ k, ∃ hk : k < l.length, okArea l[k] = false ∧ ∀ j (hj : j < k), okArea (l[j]'(by omega)) = true := by
  induction l with
  | nil => cases h
  | cons x r ih =>
    by_cases hx : okArea x = true
    · rw [List.all_cons, hx, Bool.true_and] at h
      obtain ⟨k, hk, h1, h2⟩ := ih h
      refine ⟨k + 1, by simpa using hk, by simpa using h1, fun j hj => ?_⟩
      match j, hj with
      | 0, _ => exact hx
      | j + 1, hj => exact h2 j (by omega)
    · exact ⟨0, by simp, by simpa using hx, fun j hj => by omega⟩
theorem okArea_yes {x : Wr} (h : okArea x = true) : x.area = 0 ∨ x.area = 1 := of_decide_eq_true h
theorem okArea_no {x : Wr} (h : okArea x = false) : (x.area != 0) = true ∧ (x.area != 1) = true := by
  have := of_decide_eq_false h
  constructor <;> simp <;> omega
theorem all_at {l : List Wr} (h : l.all okArea = true) {k : Nat} (hk : k < l.length) : okArea l[k] = true := List.all_eq_true.1 h _ (List.getElem_mem hk)
end Go.Proofs.YtnnnihjagjfkdaaDoor
