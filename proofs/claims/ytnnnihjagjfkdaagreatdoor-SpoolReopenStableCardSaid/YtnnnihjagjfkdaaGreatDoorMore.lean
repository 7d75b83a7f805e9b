/-
  More on readings: slice literals, cut slices. General over the program. Own text.
-/
import Derived.Test.YtnnnihjagjfkdaaGreatDoorNest
namespace Go.Proofs.YtnnnihjagjfkdaaGreatDoor
open Go.RowKit
/-- A slice literal: its new block reads. -/
theorem Flat.litN {α : Type} (w : World) (k : Nat) (enc : α → List Value) (xs : List α) (e : TypeId) (hl : ∀ x, (enc x).length = k) : Flat (w.alloc (.cells (xs.flatMap enc).toArray e)) k enc (some ⟨w.heap.size, 0, none⟩) xs := by
  intro i hi j hj
  have hj' : j < (enc xs[i]).length := by rw [hl]; exact hj
  refine ⟨(enc xs[i])[j], List.getElem?_eq_getElem hj', w.heap.size, 0, rfl, ?_⟩
  rw [Nat.zero_add, cell_of_row _ w.heap.size (i * k + j) _ e (0, 0) (heap_alloc_new w _)]
  rw [← List.getElem?_eq_getElem hj', ← flatMap_get hl xs i hi j hj]
  simp
theorem IsSlice.litN {α : Type} (w : World) (k : Nat) (enc : α → List Value) (xs : List α) (e : TypeId) (hl : ∀ x, (enc x).length = k) (hm : xs.length ≤ maxLen) (c : Nat) : IsSlice (w.alloc (.cells (xs.flatMap enc).toArray e)) k enc (.slice (some ⟨w.heap.size, 0, none⟩) xs.length c) xs :=
  ⟨_, c, rfl, (fun h => by cases h), hm, Flat.litN w k enc xs e hl⟩
/-- A slice literal: the call owns it. -/
theorem Own.lit {α : Type} (w : World) (base : Nat) (k : Nat) (enc : α → List Value) (xs : List α) (e : TypeId) (hl : ∀ x, (enc x).length = k) (hm : xs.length ≤ maxLen) (hb : base ≤ w.heap.size) :
    Own (w.alloc (.cells (xs.flatMap enc).toArray e)) base e k enc (.slice (some ⟨w.heap.size, 0, none⟩) xs.length xs.length) xs := by
  have hlen := flatMap_length hl xs
  refine ⟨hlen, .inr ⟨w.heap.size, xs.length, _, rfl, hb, heap_alloc_new w _, Nat.le_refl _, hm, ?_, ?_⟩⟩
  · rw [List.size_toArray]
    exact hlen
  · rw [← hlen, List.take_length]
/-- A part of a slice: from element i on, n elements. -/
theorem Flat.cut {α : Type} {w : World} {k : Nat} {enc : α → List Value} {b off : Nat} {xs : List α} (h : Flat w k enc (some ⟨b, off, none⟩) xs) (i n : Nat) : Flat w k enc (some ⟨b, off + i * k, none⟩) ((xs.drop i).take n) := by
  intro m hm j hj
  have hm2 : m < n ∧ i + m < xs.length := by
    simp only [List.length_take, List.length_drop] at hm
    omega
  obtain ⟨v, hv, b', off', e, hc⟩ := h (i + m) hm2.2 j hj
  simp only [Option.some.injEq, Addr.mk.injEq] at e
  obtain ⟨rfl, rfl, _⟩ := e
  refine ⟨v, ?_, b, off + i * k, rfl, ?_⟩
  · rw [← hv]
    congr 2
    simp
  · rw [← hc]
    congr 2
    rw [Nat.add_mul]
    omega
end Go.Proofs.YtnnnihjagjfkdaaGreatDoor
