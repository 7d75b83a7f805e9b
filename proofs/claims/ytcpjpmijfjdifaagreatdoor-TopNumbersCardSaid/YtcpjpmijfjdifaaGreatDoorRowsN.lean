/-
  Rows of numbers that a call builds. Written from XRowsB. Own text.
-/
import Derived.Test.YtcpjpmijfjdifaaGreatDoorCycV
namespace Go.Proofs.YtcpjpmijfjdifaaGreatDoor
open Go.RowKit
set_option linter.unusedVariables false
structure RowsN (w : World) (Z : Nat) (v : Value) (rv : List Value) (fs : List (List Int)) : Prop where
  op : Own w Z 27 1 encV v rv
  len : rv.length = fs.length
  row : ∀ i (h : i < rv.length) (h' : i < fs.length), Own w Z 3 1 encInt rv[i] fs[i]
  gr : ∀ u ∈ rv, ∀ b, u.ownBlock = some b → v.ownBlock ≠ some b
theorem RowsN.nil (w : World) (Z : Nat) : RowsN w Z (.slice none 0 0) [] [] :=
  ⟨Own.nil _ _ _ _ _, rfl, fun i h => by simp at h, fun v h => by cases h⟩
theorem RowsN.below {w w' : World} {Z : Nat} {v : Value} {rv : List Value} {fs : List (List Int)} (h : RowsN w Z v rv fs) (hb : Below w.heap.size w w') : RowsN w' Z v rv fs :=
  ⟨h.op.below hb, h.len, fun i h1 h2 => (h.row i h1 h2).below hb, h.gr⟩
/-- With a row under way. -/
structure RowsM (w : World) (Z : Nat) (v : Value) (rv : List Value) (fs : List (List Int)) (u : Value) (l : List Int) : Prop where
  b : RowsN w Z v rv fs
  ou : Own w Z 3 1 encInt u l
  uv : ∀ b, u.ownBlock = some b → v.ownBlock ≠ some b
  ur : ∀ x ∈ rv, ∀ b, u.ownBlock = some b → x.ownBlock ≠ some b
theorem RowsM.start {w : World} {Z : Nat} {v : Value} {rv : List Value} {fs : List (List Int)} (h : RowsN w Z v rv fs) : RowsM w Z v rv fs (.slice none 0 0) [] :=
  ⟨h, Own.nil _ _ _ _ _, fun b h => (by cases h), fun x hx b h => (by cases h)⟩
theorem RowsM.below {w w' : World} {Z : Nat} {v u : Value} {rv : List Value} {fs : List (List Int)} {l : List Int} (h : RowsM w Z v rv fs u l) (hb : Below w.heap.size w w') : RowsM w' Z v rv fs u l :=
  ⟨h.b.below hb, h.ou.below hb, h.uv, h.ur⟩
theorem RowsM.addU {w w' : World} {Z : Nat} {v u u' : Value} {rv : List Value} {fs : List (List Int)} {l l' : List Int} (h : RowsM w Z v rv fs u l) (hown : Own w' Z 3 1 encInt u' l') (hg : w.grownBy w' u.ownBlock) (hat : u'.ownBlock = u.ownBlock ∨ u'.ownBlock = some w.heap.size) : RowsM w' Z v rv fs u' l' := by
  have hu : ∀ b, u'.ownBlock = some b → b < w.heap.size → u.ownBlock = some b := fun b hb hb2 => by
    rcases hat with e | e
    · rw [← e]; exact hb
    · rw [e] at hb; cases hb; omega
  have hrow : ∀ i (h1 : i < rv.length), i < fs.length := fun i h1 => by rw [← h.b.len]; exact h1
  refine ⟨⟨h.b.op.blocks fun b hb => hg.block b (h.b.op.lt hb).2 fun e => h.uv b e.symm hb, h.b.len, fun i h1 h2 => (h.b.row i h1 h2).blocks fun b hb => hg.block b ((h.b.row i h1 h2).lt hb).2 fun e => h.ur _ (List.getElem_mem h1) b e.symm hb, h.b.gr⟩, hown, fun b hb e => h.uv b (hu b hb (h.b.op.lt e).2) e, fun x hx b hb e => ?_⟩
  obtain ⟨i, hi, rfl⟩ := List.mem_iff_getElem.1 hx
  exact h.ur _ hx b (hu b hb ((h.b.row i hi (hrow i hi)).lt e).2) e
theorem RowsM.addV {w w' : World} {Z : Nat} {v v' u : Value} {rv : List Value} {fs : List (List Int)} {l : List Int} (h : RowsM w Z v rv fs u l) (hown : Own w' Z 27 1 encV v' (rv ++ [u])) (hg : w.grownBy w' v.ownBlock) (hat : v'.ownBlock = v.ownBlock ∨ v'.ownBlock = some w.heap.size) : RowsN w' Z v' (rv ++ [u]) (fs ++ [l]) := by
  have hlen := h.b.len
  have hrow : ∀ i (h1 : i < (rv ++ [u]).length) (h2 : i < (fs ++ [l]).length), Own w Z 3 1 encInt (rv ++ [u])[i] (fs ++ [l])[i] ∧ ∀ b, (rv ++ [u])[i].ownBlock = some b → v.ownBlock ≠ some b := by
    intro i h1 h2
    by_cases e : i < rv.length
    · rw [List.getElem_append_left e, List.getElem_append_left (by omega)]
      exact ⟨h.b.row i e (by omega), h.b.gr _ (List.getElem_mem e)⟩
    · obtain rfl : i = rv.length := by simp at h1; omega
      rw [List.getElem_append_right (Nat.le_refl _), List.getElem_append_right (by omega)]
      simp only [Nat.sub_self, List.getElem_cons_zero, hlen]
      exact ⟨h.ou, h.uv⟩
  have hv : ∀ b, v'.ownBlock = some b → b < w.heap.size → v.ownBlock = some b := fun b hb hb2 => by
    rcases hat with e | e
    · rw [← e]; exact hb
    · rw [e] at hb; cases hb; omega
  refine ⟨hown, by simp [hlen], fun i h1 h2 => ((hrow i h1 h2).1).blocks fun b hb => hg.block b ((hrow i h1 h2).1.lt hb).2 fun e => (hrow i h1 h2).2 b hb e.symm, fun x hx b hb e => ?_⟩
  obtain ⟨i, hi, rfl⟩ := List.mem_iff_getElem.1 hx
  have h2 : i < (fs ++ [l]).length := by simp at hi ⊢; omega
  exact (hrow i hi h2).2 b hb (hv b e ((hrow i hi h2).1.lt hb).2)
/-- Rows that are built behind world w1. -/
structure NB (w1 wr : World) (v : Value) (rv : List Value) (fs : List (List Int)) : Prop where
  bel : Below w1.heap.size w1 wr
  r : RowsN wr w1.heap.size v rv fs
structure NU (w1 wr : World) (v : Value) (rv : List Value) (fs : List (List Int)) (u : Value) (l : List Int) : Prop where
  bel : Below w1.heap.size w1 wr
  r : RowsM wr w1.heap.size v rv fs u l
section
variable {w1 wr w' : World} {v v' u u' : Value} {rv : List Value} {fs : List (List Int)} {l l' : List Int}
theorem NB.start (w1 : World) : NB w1 w1 (.slice none 0 0) [] [] := ⟨Below.refl _ _, RowsN.nil _ _⟩
theorem NU.start (h : NB w1 wr v rv fs) : NU w1 wr v rv fs (.slice none 0 0) [] := ⟨h.bel, .start h.r⟩
theorem NB.below (h : NB w1 wr v rv fs) (hb : Below wr.heap.size wr w') : NB w1 w' v rv fs := ⟨h.bel.trans (hb.mono h.bel.size), h.r.below hb⟩
theorem NU.below (h : NU w1 wr v rv fs u l) (hb : Below wr.heap.size wr w') : NU w1 w' v rv fs u l := ⟨h.bel.trans (hb.mono h.bel.size), h.r.below hb⟩
theorem NU.addU (h : NU w1 wr v rv fs u l) (hown : Own w' w1.heap.size 3 1 encInt u' l') (hg : wr.grownBy w' u.ownBlock) (hat : u'.ownBlock = u.ownBlock ∨ u'.ownBlock = some wr.heap.size) : NU w1 w' v rv fs u' l' :=
  ⟨h.bel.grown hg h.bel.size fun j hj => (h.r.ou.lt hj).1, h.r.addU hown hg hat⟩
theorem NU.addV (h : NU w1 wr v rv fs u l) (hown : Own w' w1.heap.size 27 1 encV v' (rv ++ [u])) (hg : wr.grownBy w' v.ownBlock) (hat : v'.ownBlock = v.ownBlock ∨ v'.ownBlock = some wr.heap.size) : NB w1 w' v' (rv ++ [u]) (fs ++ [l]) :=
  ⟨h.bel.grown hg h.bel.size fun j hj => (h.r.b.op.lt hj).1, h.r.addV hown hg hat⟩
end
end Go.Proofs.YtcpjpmijfjdifaaGreatDoor
