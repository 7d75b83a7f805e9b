/-
  Tables of one-cell elements as functions of the index. General over the program. Own text.
-/
import Derived.Test.YtnnnihjagjfkdaaGreatDoorArr
namespace Go.Proofs.YtnnnihjagjfkdaaGreatDoor
open Go.RowKit
set_option linter.unusedVariables false
theorem keepCell {w w' : World} (hb : Below w.heap.size w w') {a : Addr} {v : Value} (h : w.cell? a = some v) : w'.cell? a = some v := by rw [hb.cell (cell?_lt h)]; exact h
section
variable {α : Type} {f : α → Value} {w : World} {g n : Nat} {t : Nat → α}
/-- The block g holds t 0, .., t (n - 1). -/
structure FTab (f : α → Value) (w : World) (g n : Nat) (t : Nat → α) : Prop where
  at' : ∀ i, i < n → w.cell? ⟨g, i, none⟩ = some (f (t i))
  fz : ∀ o, w.frozen? ⟨g, o, none⟩ = false
theorem FTab.below {w' : World} {B : Nat} (h : FTab f w g n t) (hb : Below B w w') (hl : g < B) : FTab f w' g n t :=
  ⟨fun i hi => by rw [hb.cell (p := ⟨g, i, none⟩) hl]; exact h.at' i hi, fun o => by rw [hb.frozen (p := ⟨g, o, none⟩) hl]; exact h.fz o⟩
theorem fcell_ne {w : World} {g o o' : Nat} {v : Value} (h : o ≠ o') : (w.setCell ⟨g, o', none⟩ v).cell? ⟨g, o, none⟩ = w.cell? ⟨g, o, none⟩ := by
  go_simp
theorem FTab.set (h : FTab f w g n t) {i : Nat} (hi : i < n) (y : α) : FTab f (w.setCell ⟨g, i, none⟩ (f y)) g n (fun j => if j = i then y else t j) := by
  have a1 := h.at' i hi
  have f0 := h.fz i
  refine ⟨fun j hj => ?_, fun o => ?_⟩
  · by_cases e : j = i
    · subst e
      simp only [if_pos]
      go_simp
    · simp only [if_neg e]
      rw [fcell_ne e]
      exact h.at' j hj
  · have := h.fz o
    go_simp
theorem FTab.other (h : FTab f w g n t) {b o : Nat} (hb : b ≠ g) (v : Value) : FTab f (w.setCell ⟨b, o, none⟩ v) g n t := by
  have hb' : g ≠ b := fun e => hb e.symm
  refine ⟨fun i hi => ?_, fun i => ?_⟩
  · have := h.at' i hi
    go_simp
  · have := h.fz i
    go_simp
theorem FTab.congr {t' : Nat → α} (h : FTab f w g n t) (he : ∀ i, i < n → t i = t' i) : FTab f w g n t' := ⟨fun i hi => by rw [← he i hi]; exact h.at' i hi, h.fz⟩
theorem FTab.drewN (h : FTab f w g n t) (q : Nat) : FTab f (w.drewN q) g n t := ⟨h.at', h.fz⟩
theorem FTab.drew (h : FTab f w g n t) : FTab f w.drew g n t := ⟨h.at', h.fz⟩
theorem FTab.lt (h : FTab f w g n t) (hn : 0 < n) : g < w.heap.size := cell?_lt (h.at' 0 hn)
theorem FTab.alloc (h : FTab f w g n t) (hl : g < w.heap.size) (o : Obj) : FTab f (w.alloc o) g n t := h.below (balloc (Below.refl _ w) o) hl
theorem FTab.ofArr {base : Nat} {e : TypeId} {z0 : α} (h : Arr w base e f g n (List.replicate n z0)) : FTab f w g n (fun _ => z0) :=
  ⟨fun i hi => by
    have h1 := h.cell (i := i) (by rw [List.length_replicate]; exact hi)
    rw [List.getElem_replicate] at h1
    exact h1, fun o => h.frozen o⟩
end
end Go.Proofs.YtnnnihjagjfkdaaGreatDoor
