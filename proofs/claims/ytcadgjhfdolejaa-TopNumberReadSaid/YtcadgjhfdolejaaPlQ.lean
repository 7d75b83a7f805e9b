/-
  The moved runs make the moved plane. Own text.
-/
import Derived.Test.YtcadgjhfdolejaaPlP
namespace Go.Proofs.Ytcadgjhfdolejaa
open Go.RowKit
set_option linter.unusedVariables false
theorem runsP_mem (rs : List (Nat × Nat × Nat)) (X Y : Int) : runsP rs X Y = true ↔ ∃ q ∈ rs, Y = (q.1 : Int) ∧ (q.2.1 : Int) ≤ X ∧ X < (q.2.2 : Int) := by
  have key : ∀ (rs : List (Nat × Nat × Nat)) (p : Plane), rs.foldl (fun p r => partP p r.1 r.2.1 r.2.2) p X Y = true ↔ p X Y = true ∨ ∃ q ∈ rs, Y = (q.1 : Int) ∧ (q.2.1 : Int) ≤ X ∧ X < (q.2.2 : Int) := by
    intro rs
    induction rs with
    | nil => intro p; simp
    | cons q rs ih =>
      intro p
      rw [List.foldl_cons, ih]
      simp only [partP, Bool.or_eq_true, Bool.and_eq_true, decide_eq_true_eq, List.mem_cons, exists_eq_or_imp]
      constructor
      · rintro ((h | ⟨⟨h1, h2⟩, h3⟩) | h)
        · exact .inl h
        · exact .inr (.inl ⟨h1, h2, h3⟩)
        · exact .inr (.inr h)
      · rintro (h | ⟨h1, h2, h3⟩ | h)
        · exact .inl (.inl h)
        · exact .inl (.inr ⟨⟨h1, h2⟩, h3⟩)
        · exact .inr h
  unfold runsP
  rw [key]
  constructor
  · rintro (h | h)
    · cases h
    · exact h
  · exact .inr
def sh3 (q : Nat × Nat × Nat) : Nat × Nat × Nat := (q.1 + 3, q.2.1 + 3, q.2.2 + 3)
theorem rowsTo_mem (z : Nat → List (Nat × Nat)) (n : Nat) (q : Nat × Nat × Nat) : q ∈ rowsTo z n ↔ q.1 < n ∧ q.2 ∈ z q.1 := by
  unfold rowsTo
  rw [List.mem_flatMap]
  simp only [List.mem_range, List.mem_map]
  constructor
  · rintro ⟨y, hy, x, hx, rfl⟩
    exact ⟨hy, hx⟩
  · rintro ⟨h1, h2⟩
    exact ⟨q.1, h1, q.2, h2, rfl⟩
/-- Moved by three both ways. -/
theorem moved_plane {p : Plane} {W H : Nat} {z : Nat → List (Nat × Nat)} (hz : ∀ y, y < H → Runs (rowP p y) W 0 (z y)) (X Y : Int) :
    runsP ((rowsTo z H).map sh3) X Y = true ↔ (3 ≤ Y ∧ Y < (H : Int) + 3 ∧ 3 ≤ X ∧ X < (W : Int) + 3) ∧ p (X - 3) (Y - 3) = true := by
  rw [runsP_mem]
  constructor
  · rintro ⟨q, hq, h1, h2, h3⟩
    obtain ⟨q', hq', rfl⟩ := List.mem_map.1 hq
    obtain ⟨g1, g2⟩ := (rowsTo_mem z H q').1 hq'
    obtain ⟨f1, f2, f3⟩ := (hz q'.1 g1).facts
    have f4 := f1 q'.2 g2
    simp only [sh3] at h1 h2 h3
    have hX : X - 3 = ((X - 3).toNat : Int) := by omega
    have hY : Y - 3 = (q'.1 : Int) := by omega
    refine ⟨by omega, ?_⟩
    rw [hX, hY]
    exact (f3 (X - 3).toNat (Nat.zero_le _) (by omega)).2 ⟨q'.2, g2, by omega, by omega⟩
  · rintro ⟨⟨h1, h2, h3, h4⟩, h5⟩
    have hX : X - 3 = ((X - 3).toNat : Int) := by omega
    have hY : Y - 3 = ((Y - 3).toNat : Int) := by omega
    rw [hX, hY] at h5
    obtain ⟨f1, f2, f3⟩ := (hz (Y - 3).toNat (by omega)).facts
    obtain ⟨k, hk, k1, k2⟩ := (f3 (X - 3).toNat (Nat.zero_le _) (by omega)).1 h5
    refine ⟨sh3 ((Y - 3).toNat, k), List.mem_map.2 ⟨_, (rowsTo_mem z H _).2 ⟨by show (Y - 3).toNat < H; omega, hk⟩, rfl⟩, ?_, ?_, ?_⟩
    · show Y = (((Y - 3).toNat + 3 : Nat) : Int); omega
    · show ((k.1 + 3 : Nat) : Int) ≤ X; omega
    · show X < ((k.2 + 3 : Nat) : Int); omega
theorem moved_ok {p : Plane} {W H W' H' : Nat} {z : Nat → List (Nat × Nat)} (hz : ∀ y, y < H → Runs (rowP p y) W 0 (z y)) (hW : W + 3 ≤ W') (hH : H + 3 ≤ H') : RunsOk W' H' ((rowsTo z H).map sh3) := by
  have hp : ((rowsTo z H).map sh3).Pairwise (fun a b => a.1 < b.1 ∨ (a.1 = b.1 ∧ a.2.2 < b.2.1)) := by
    rw [List.pairwise_map]
    unfold rowsTo
    rw [List.pairwise_flatMap]
    constructor
    · intro y hy
      rw [List.pairwise_map]
      refine List.Pairwise.imp ?_ ((hz y (List.mem_range.1 hy)).facts).2.1
      intro a b hab
      refine .inr ⟨rfl, ?_⟩
      show a.2 + 3 < b.1 + 3
      omega
    · refine List.Pairwise.imp ?_ List.pairwise_lt_range
      intro a b hab x hx y hy
      obtain ⟨x', _, rfl⟩ := List.mem_map.1 hx
      obtain ⟨y', _, rfl⟩ := List.mem_map.1 hy
      exact .inl (by show a + 3 < b + 3; omega)
  constructor
  · intro i h
    have hm := List.getElem_mem h
    generalize ((rowsTo z H).map sh3)[i] = q at hm
    obtain ⟨q', hq', rfl⟩ := List.mem_map.1 hm
    obtain ⟨g1, g2⟩ := (rowsTo_mem z H q').1 hq'
    have f4 := ((hz q'.1 g1).facts).1 q'.2 g2
    simp only [sh3]
    omega
  · intro i h
    exact (List.pairwise_iff_getElem.1 hp) i (i + 1) (by omega) h (by omega)
end Go.Proofs.Ytcadgjhfdolejaa
