/-
  An element of an own row is taken out in place. Own text.
-/
import Derived.Test.YtnnnihjagjfkdaaGreatDoorClear
namespace Go.Proofs.YtnnnihjagjfkdaaGreatDoor
open Go.RowKit
set_option linter.unusedVariables false
theorem flatMap_take {α β : Type} {k : Nat} {enc : α → List β} (hl : ∀ x, (enc x).length = k) : ∀ (xs : List α) (i : Nat), (xs.take i).flatMap enc = (xs.flatMap enc).take (i * k)
  | [], i => by simp
  | x :: xs, 0 => by simp
  | x :: xs, i + 1 => by
    have e : (i + 1) * k = k + i * k := by rw [Nat.add_mul]; omega
    have e2 : (enc x).take (k + i * k) = enc x := List.take_of_length_le (by rw [hl]; omega)
    rw [List.take_succ_cons, List.flatMap_cons, List.flatMap_cons, flatMap_take hl xs i, e, List.take_append, e2, hl, Nat.add_sub_cancel_left]
theorem flatMap_drop {α β : Type} {k : Nat} {enc : α → List β} (hl : ∀ x, (enc x).length = k) : ∀ (xs : List α) (i : Nat), (xs.drop i).flatMap enc = (xs.flatMap enc).drop (i * k)
  | [], i => by simp
  | x :: xs, 0 => by simp
  | x :: xs, i + 1 => by
    have e : (i + 1) * k = k + i * k := by rw [Nat.add_mul]; omega
    have e2 : (enc x).drop (k + i * k) = [] := List.drop_of_length_le (by rw [hl]; omega)
    rw [List.drop_succ_cons, List.flatMap_cons, flatMap_drop hl xs i, e, List.drop_append, e2, hl, Nat.add_sub_cancel_left, List.nil_append]
/-- Cells are written one behind the other. -/
def setAll (L : List Value) (off : Nat) : List Value → List Value
  | [] => L
  | v :: vs => setAll (L.set off v) (off + 1) vs
theorem setAll_eq : ∀ (vs : List Value) (L : List Value) (off : Nat), off + vs.length ≤ L.length → setAll L off vs = L.take off ++ vs ++ L.drop (off + vs.length)
  | [], L, off, h => by simp [setAll]
  | v :: vs, L, off, h => by
    have h' : off < L.length := by simp at h; omega
    have h2 : off + 1 + vs.length ≤ (L.set off v).length := by simp at h ⊢; omega
    show setAll (L.set off v) (off + 1) vs = _
    rw [setAll_eq vs (L.set off v) (off + 1) h2, List.take_set, List.drop_set_of_lt (by omega), List.take_succ_eq_append_getElem h', List.set_append_right _ _ (by rw [List.length_take]; omega)]
    simp [Nat.min_eq_left (Nat.le_of_lt h'), Nat.add_assoc, Nat.add_comm 1]
theorem ownsRow_setCells {w : World} {base g n c k : Nat} {e : TypeId} : ∀ (vs : List Value) (off : Nat) (L : List Value) (w : World), w.ownsRow base e k (.slice (some ⟨g, 0, none⟩) n c) n L → (w.setCells g off vs).ownsRow base e k (.slice (some ⟨g, 0, none⟩) n c) n (setAll L off vs)
  | [], off, L, w, h => h
  | v :: vs, off, L, w, h => ownsRow_setCells (w := w) vs (off + 1) (L.set off v) (w.setCell ⟨g, off, none⟩ v) (World.ownsRow.stored h off v).1
theorem ownsRow_less {w : World} {base g n c k : Nat} {e : TypeId} {L : List Value} (h : w.ownsRow base e k (.slice (some ⟨g, 0, none⟩) n c) n L) {m : Nat} (hm : m ≤ n) : w.ownsRow base e k (.slice (some ⟨g, 0, none⟩) m c) m (L.take (m * k)) := by
  have hmk : m * k ≤ n * k := Nat.mul_le_mul_right k hm
  refine ⟨by rw [List.length_take, h.1]; omega, ?_⟩
  rcases h.2 with ⟨e1, _⟩ | ⟨g1, c1, cur, e1, hb, hrow, hnc, hcm, hsz, ht⟩
  · cases e1
  · simp only [Value.slice.injEq, Option.some.injEq, Addr.mk.injEq, and_true, true_and] at e1
    obtain ⟨rfl, rfl⟩ := e1
    exact .inr ⟨g, c, cur, rfl, hb, hrow, by omega, hcm, hsz, by rw [← ht, List.take_take, Nat.min_eq_left hmk]⟩
end Go.Proofs.YtnnnihjagjfkdaaGreatDoor
