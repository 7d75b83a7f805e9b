/-
  A job of a queue is written in place. Own text.
-/
import Derived.Test.YtnnnihjagjfkdaaGreatDoorQues
namespace Go.Proofs.YtnnnihjagjfkdaaGreatDoor
open Go.RowKit
set_option linter.unusedVariables false
theorem flatMap_set1 {α : Type} {k : Nat} {enc : α → List Value} (hl : ∀ x, (enc x).length = k) {j : Nat} (hj : j < k) {v : Value} {y : α} : ∀ (xs : List α) (i : Nat) (h : i < xs.length), enc y = (enc xs[i]).set j v → (xs.set i y).flatMap enc = (xs.flatMap enc).set (i * k + j) v
  | x :: xs, 0, _, he => by
    have he' : enc y = (enc x).set j v := he
    rw [List.set_cons_zero, List.flatMap_cons, List.flatMap_cons, he', Nat.zero_mul, Nat.zero_add, List.set_append_left _ _ (by rw [hl]; exact hj)]
  | x :: xs, i + 1, h, he => by
    have h' : i < xs.length := by simpa using h
    have e : (i + 1) * k + j = k + (i * k + j) := by rw [Nat.add_mul]; omega
    rw [List.set_cons_succ, List.flatMap_cons, List.flatMap_cons, e, List.set_append_right _ _ (by rw [hl]; omega), hl, Nat.add_sub_cancel_left, flatMap_set1 hl hj xs i h' he]
theorem Own.setAt {α : Type} {w : World} {base : Nat} {e : TypeId} {k : Nat} {enc : α → List Value} {g n c : Nat} {xs : List α} (h : Own w base e k enc (.slice (some ⟨g, 0, none⟩) n c) xs) (hl : ∀ x, (enc x).length = k) {i : Nat} (hi : i < xs.length) {j : Nat} (hj : j < k) {v : Value} {y : α} (he : enc y = (enc xs[i]).set j v) :
    Own (w.setCell ⟨g, i * k + j, none⟩ v) base e k enc (.slice (some ⟨g, 0, none⟩) n c) (xs.set i y) := by
  have hn : n = xs.length := by
    rcases h.2 with ⟨e1, _⟩ | ⟨g1, c1, cur, e1, _⟩
    · cases e1
    · simp only [Value.slice.injEq] at e1
      exact e1.2.1
  subst hn
  have h1 := (World.ownsRow.stored h (i * k + j) v).1
  unfold Own
  rw [List.length_set, flatMap_set1 hl hj xs i hi he]
  exact h1
theorem QAt.setJob {w : World} {B b g n c : Nat} {q : Que} {vw : Value} (h : QAt w B b q (.slice (some ⟨g, 0, none⟩) n c) vw) {i : Nat} (hi : i < q.jobs.length) {j : Nat} (hj : j < 4) {v : Value} {y : Jb} (he : encJb y = (encJb q.jobs[i]).set j v) :
    QAt (w.setCell ⟨g, i * 4 + j, none⟩ v) B b { q with jobs := q.jobs.set i y } (.slice (some ⟨g, 0, none⟩) n c) vw := by
  have hgb : g ≠ b := fun e => h.nj (by rw [e]; rfl)
  exact ⟨(h.tab.other hgb v).congr fun k hk => by
    match k, hk with
    | 0, _ => rfl
    | 1, _ => rfl
    | 2, _ => rfl
    | 3, _ => rfl
    | 4, _ => rfl
    | 5, _ => rfl
    | 6, _ => rfl
    | 7, _ => rfl
    | 8, _ => rfl
    | 9, _ => rfl
    | 10, _ => rfl, h.jobs.setAt (fun _ => rfl) hi hj he, own_other h.wr (fun e => h.jw g rfl e) v, h.bb, h.nj, h.nw, h.jw⟩
theorem Turn.setJ {b g n c : Nat} {vj vw u1 : Value} {w w1 : World} (h : Turn b vj vw (.slice (some ⟨g, 0, none⟩) n c) u1 w w1) (o : Nat) (v : Value) : Turn b vj vw (.slice (some ⟨g, 0, none⟩) n c) u1 w (w1.setCell ⟨g, o, none⟩ v) := by
  refine ⟨h.os, h.tape, h.output, by simpa using h.size, fun j hj hn => ?_, h.kj, h.kw⟩
  rw [Below.heap_setCell _ _ _ _ (fun e => ?_)]
  · exact h.block j hj hn
  · have e' : j = g := e
    subst e'
    rcases h.kj j rfl with e | e
    · exact hn (.inr (.inl e))
    · omega
theorem Turn.alloc {b : Nat} {vj vw v1 u1 : Value} {w w1 : World} (h : Turn b vj vw v1 u1 w w1) (o : Obj) : Turn b vj vw v1 u1 w (w1.alloc o) := h.below (balloc (Below.refl _ _) o)
/-- A lease is given. -/
def leaseJ (j : Jb) (n t : Int) : Jb := { j with lease := n, till := t }
def takeQ (q : Que) (i : Nat) (y : Jb) : Que := { q with leases := q.leases + 1, jobs := q.jobs.set i y }
end Go.Proofs.YtnnnihjagjfkdaaGreatDoor
