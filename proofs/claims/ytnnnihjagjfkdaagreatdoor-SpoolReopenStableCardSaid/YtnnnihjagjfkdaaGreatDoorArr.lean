/-
  Arrays of one-cell elements that the call itself made: make, read, write. General over the program. Own text.
-/
import Derived.Test.YtnnnihjagjfkdaaGreatDoorMore
namespace Go.Proofs.YtnnnihjagjfkdaaGreatDoor
open Go.RowKit
section
variable {α : Type} {w : World} {base : Nat} {e : TypeId} {f : α → Value} {g cap : Nat} {xs : List α}
/-- One cell an element. -/
def enc1 (f : α → Value) (x : α) : List Value := [f x]
theorem flatMap_enc1 (f : α → Value) (xs : List α) : xs.flatMap (enc1 f) = xs.map f := by
  induction xs with
  | nil => rfl
  | cons x xs ih => rw [List.flatMap_cons, ih]; rfl
/-- The array at block g holds xs (one cell an element), and the call owns it. -/
def Arr (w : World) (base : Nat) (e : TypeId) (f : α → Value) (g cap : Nat) (xs : List α) : Prop := Own w base e 1 (enc1 f) (.slice (some ⟨g, 0, none⟩) xs.length cap) xs
theorem Arr.cell (h : Arr w base e f g cap xs) {i : Nat} (hi : i < xs.length) : w.cell? ⟨g, i, none⟩ = some (f xs[i]) := by
  rw [World.ownsRow.cellAt h i (by omega), flatMap_enc1]
  simp [hi]
theorem Arr.frozen (h : Arr w base e f g cap xs) (i : Nat) : w.frozen? ⟨g, i, none⟩ = false := World.ownsRow.frozenAt h i
theorem Arr.set (h : Arr w base e f g cap xs) (i : Nat) (y : α) : Arr (w.setCell ⟨g, i, none⟩ (f y)) base e f g cap (xs.set i y) := by
  have h1 := (World.ownsRow.stored h i (f y)).1
  unfold Arr Own
  rw [flatMap_enc1] at *
  rw [List.length_set, List.map_set]
  exact h1
theorem Arr.lt (h : Arr w base e f g cap xs) : base ≤ g ∧ g < w.heap.size := World.ownsRow.lt h g rfl
theorem Arr.setBelow (h : Arr w base e f g cap xs) {w0 : World} {B : Nat} (hb : Below B w0 w) (hB : B ≤ base) (i : Nat) (v : Value) : Below B w0 (w.setCell ⟨g, i, none⟩ v) :=
  hb.setCell (p := ⟨g, i, none⟩) (Nat.le_trans hB h.lt.1) v
theorem Arr.below {w' : World} (h : Arr w base e f g cap xs) (hb : Below w.heap.size w w') : Arr w' base e f g cap xs := Own.below h hb
theorem Arr.alloc (h : Arr w base e f g cap xs) (o : Obj) : Arr (w.alloc o) base e f g cap xs := Own.alloc h o
theorem Arr.drewN (h : Arr w base e f g cap xs) (n : Nat) : Arr (w.drewN n) base e f g cap xs := h
theorem Arr.drew (h : Arr w base e f g cap xs) : Arr w.drew base e f g cap xs := h
/-- Another block of the call's own is written: the array stays. -/
theorem Arr.other (h : Arr w base e f g cap xs) {a : Addr} (ha : a.block ≠ g) (v : Value) : Arr (w.setCell a v) base e f g cap xs := by
  refine ⟨h.1, ?_⟩
  rcases h.2 with ⟨h1, _⟩ | ⟨g', cap', cur, h1, h2, h3, r⟩
  · cases h1
  · simp only [Value.slice.injEq, Option.some.injEq, Addr.mk.injEq, and_true, true_and] at h1
    obtain ⟨rfl, rfl⟩ := h1
    refine .inr ⟨g, cap, cur, rfl, h2, ?_, r⟩
    rw [Below.heap_setCell _ _ _ _ (fun e => ha e.symm)]
    exact h3
theorem Arr.isSlice (h : Arr w base e f g cap xs) : IsSlice w 1 (enc1 f) (.slice (some ⟨g, 0, none⟩) xs.length cap) xs := Own.isSlice h (fun _ => rfl)
theorem Arr.flat (h : Arr w base e f g cap xs) : Flat w 1 (enc1 f) (some ⟨g, 0, none⟩) xs := by
  obtain ⟨oa, c, e1, _, _, h2⟩ := h.isSlice
  simp only [Value.slice.injEq] at e1
  obtain ⟨rfl, _, _⟩ := e1
  exact h2
end
theorem flat_int {w : World} {oa : Option Addr} {xs : List Int} : Flat w 1 (enc1 (Value.int .i64)) oa xs ↔ Flat w 1 encInt oa xs := Iff.rfl
section
variable {α : Type} {P : Program} {w : World} {ops : Array Oper} {rest : List Oper} {o : Oper} {a : Act} {Q : Exit → Act → World → Prop}
/-- 'make([]T, n)': the walk's step. -/
theorem wpList_makeArr (hgd : o.guard = none) (l c : Operand) (t : TypeId) (hop : o.op = Op.makeSlice t l c)
    {e : TypeId} {z : Value} {bytes : Nat} (hE : ElemType P e z 1 bytes) (ht : P.underlying t = some (.slice e)) (base : Nat) (f : α → Value) (z0 : α) (hz0 : z.cells = #[f z0])
    (L C : Int) (n : Nat) (hl : a.eval l = .int .i64 L) (hc : a.eval c = .int .i64 C) (hL : L = (n : Int)) (hC : C = (n : Int)) (hb : bytes * n ≤ 281474976710656) (h63 : n ≤ maxLen) (hbase : base ≤ w.heap.size)
    (h : ∀ w', Arr w' base e f w.heap.size n (List.replicate n z0) → Below w.heap.size w w' → wpList P ops Q rest (a.put o.dst (.slice (some ⟨w.heap.size, 0, none⟩) n n)) w') : wpList P ops Q (o :: rest) a w := by
  obtain ⟨i, hi, hz, hsz, hby, hzs, h0⟩ := hE
  refine wpList_make_full w hgd l c t hop base e i z 1 ht hi hz hsz .i64 .i64 L C n hl hc hL hC (by rw [hby]; exact hb) h63 hbase ?_
  intro w' hown hg
  refine h w' ?_ ((Below.refl _ _).grown hg (Nat.le_refl _) (fun k hk => by cases hk))
  unfold Arr Own
  rw [flatMap_enc1, List.map_replicate, List.length_replicate]
  rw [hz0, Nat.mul_one, toList_madeCells_one] at hown
  exact hown
end
end Go.Proofs.YtnnnihjagjfkdaaGreatDoor
