/-
  Feeders that a law builds: rows that the call owns. Own text.
-/
import Derived.Test.YtcpjpmijfjdifaaGreatDoorEx
import Derived.Test.YtcpjpmijfjdifaaGreatDoorRemP
namespace Go.Proofs.YtcpjpmijfjdifaaGreatDoor
open Go.RowKit
set_option linter.unusedVariables false
structure RowsB (w : World) (Z : Nat) (v : Value) (rv : List Value) (fs : List (List Pt)) : Prop where
  op : Own w Z 29 1 encV v rv
  len : rv.length = fs.length
  row : ∀ i (h : i < rv.length) (h' : i < fs.length), Own w Z 35 2 encPt rv[i] fs[i]
  gr : ∀ u ∈ rv, ∀ b, u.ownBlock = some b → v.ownBlock ≠ some b
theorem RowsB.nil (w : World) (Z : Nat) : RowsB w Z (.slice none 0 0) [] [] :=
  ⟨Own.nil _ _ _ _ _, rfl, fun i h => by simp at h, fun v h => by cases h⟩
theorem RowsB.below {w w' : World} {Z : Nat} {v : Value} {rv : List Value} {fs : List (List Pt)} (h : RowsB w Z v rv fs) (hb : Below w.heap.size w w') : RowsB w' Z v rv fs :=
  ⟨h.op.below hb, h.len, fun i h1 h2 => (h.row i h1 h2).below hb, h.gr⟩
/-- With a row under way. -/
structure RowsU (w : World) (Z : Nat) (v : Value) (rv : List Value) (fs : List (List Pt)) (u : Value) (l : List Pt) : Prop where
  b : RowsB w Z v rv fs
  ou : Own w Z 35 2 encPt u l
  uv : ∀ b, u.ownBlock = some b → v.ownBlock ≠ some b
  ur : ∀ x ∈ rv, ∀ b, u.ownBlock = some b → x.ownBlock ≠ some b
theorem RowsU.start {w : World} {Z : Nat} {v : Value} {rv : List Value} {fs : List (List Pt)} (h : RowsB w Z v rv fs) : RowsU w Z v rv fs (.slice none 0 0) [] :=
  ⟨h, Own.nil _ _ _ _ _, fun b h => (by cases h), fun x hx b h => (by cases h)⟩
theorem RowsU.below {w w' : World} {Z : Nat} {v u : Value} {rv : List Value} {fs : List (List Pt)} {l : List Pt} (h : RowsU w Z v rv fs u l) (hb : Below w.heap.size w w') : RowsU w' Z v rv fs u l :=
  ⟨h.b.below hb, h.ou.below hb, h.uv, h.ur⟩
theorem RowsU.addU {w w' : World} {Z : Nat} {v u u' : Value} {rv : List Value} {fs : List (List Pt)} {l l' : List Pt} (h : RowsU w Z v rv fs u l) (hown : Own w' Z 35 2 encPt u' l') (hg : w.grownBy w' u.ownBlock) (hat : u'.ownBlock = u.ownBlock ∨ u'.ownBlock = some w.heap.size) : RowsU w' Z v rv fs u' l' := by
  have hu : ∀ b, u'.ownBlock = some b → b < w.heap.size → u.ownBlock = some b := fun b hb hb2 => by
    rcases hat with e | e
    · rw [← e]; exact hb
    · rw [e] at hb; cases hb; omega
  have hrow : ∀ i (h1 : i < rv.length), i < fs.length := fun i h1 => by rw [← h.b.len]; exact h1
  refine ⟨⟨h.b.op.blocks fun b hb => hg.block b (h.b.op.lt hb).2 fun e => h.uv b e.symm hb, h.b.len, fun i h1 h2 => (h.b.row i h1 h2).blocks fun b hb => hg.block b ((h.b.row i h1 h2).lt hb).2 fun e => h.ur _ (List.getElem_mem h1) b e.symm hb, h.b.gr⟩, hown, fun b hb e => h.uv b (hu b hb (h.b.op.lt e).2) e, fun x hx b hb e => ?_⟩
  obtain ⟨i, hi, rfl⟩ := List.mem_iff_getElem.1 hx
  exact h.ur _ hx b (hu b hb ((h.b.row i hi (hrow i hi)).lt e).2) e
theorem RowsU.addV {w w' : World} {Z : Nat} {v v' u : Value} {rv : List Value} {fs : List (List Pt)} {l : List Pt} (h : RowsU w Z v rv fs u l) (hown : Own w' Z 29 1 encV v' (rv ++ [u])) (hg : w.grownBy w' v.ownBlock) (hat : v'.ownBlock = v.ownBlock ∨ v'.ownBlock = some w.heap.size) : RowsB w' Z v' (rv ++ [u]) (fs ++ [l]) := by
  have hlen := h.b.len
  have hrow : ∀ i (h1 : i < (rv ++ [u]).length) (h2 : i < (fs ++ [l]).length), Own w Z 35 2 encPt (rv ++ [u])[i] (fs ++ [l])[i] ∧ ∀ b, (rv ++ [u])[i].ownBlock = some b → v.ownBlock ≠ some b := by
    intro i h1 h2
    by_cases e : i < rv.length
    · rw [List.getElem_append_left e, List.getElem_append_left (by omega)]
      exact ⟨h.b.row i e (by omega), h.b.gr _ (List.getElem_mem e)⟩
    · obtain rfl : i = rv.length := by simp at h1; omega
      rw [List.getElem_append_right (Nat.le_refl _), List.getElem_append_right (by omega)]
      simp only [Nat.sub_self, List.getElem_cons_zero, hlen]
      exact ⟨h.ou, h.uv⟩
  have hv : ∀ b, v'.ownBlock = some b → b < w.heap.size → v.ownBlock = some b := fun b hb hb2 => by
    rcases hat with e | e
    · rw [← e]; exact hb
    · rw [e] at hb; cases hb; omega
  refine ⟨hown, by simp [hlen], fun i h1 h2 => ((hrow i h1 h2).1).blocks fun b hb => hg.block b ((hrow i h1 h2).1.lt hb).2 fun e => (hrow i h1 h2).2 b hb e.symm, fun x hx b hb e => ?_⟩
  obtain ⟨i, hi, rfl⟩ := List.mem_iff_getElem.1 hx
  have h2 : i < (fs ++ [l]).length := by simp at hi ⊢; omega
  exact (hrow i hi h2).2 b hb (hv b e ((hrow i hi h2).1.lt hb).2)
/-- The rows as an argument. -/
theorem RowsB.args {w : World} {Z : Nat} {v : Value} {rv : List Value} {fs : List (List Pt)} (h : RowsB w Z v rv fs) : ∃ oa cap so sc, v = .slice oa fs.length cap ∧ Args w fs oa so sc := by
  obtain ⟨oa, cap, e, _, hf⟩ := h.op.flat (fun _ => rfl)
  have h1 : ∀ k, ∃ q : Option Addr × Nat, ∀ hk : k < fs.length, (∃ b off, oa = some ⟨b, off, none⟩ ∧ w.cell? ⟨b, off + k, none⟩ = some (.slice q.1 fs[k].length q.2)) ∧ Flat w 2 encPt q.1 fs[k] := fun k => by
    by_cases hk : k < fs.length
    · have hk' : k < rv.length := by rw [h.len]; exact hk
      obtain ⟨u, hu, b, off, e1, hc⟩ := hf k hk' 0 (by omega)
      simp [encV] at hu
      subst hu
      obtain ⟨o, c, e2, _, hr⟩ := (h.row k hk' hk).flat (fun _ => rfl)
      refine ⟨(o, c), fun _ => ⟨⟨b, off, e1, ?_⟩, hr⟩⟩
      rw [← e2]
      simpa using hc
    · exact ⟨(none, 0), fun h => absurd h hk⟩
  obtain ⟨q, hq⟩ := Classical.axiomOfChoice h1
  refine ⟨oa, cap, fun k => (q k).1, fun k => (q k).2, by rw [e, h.len], fun k hk => ?_, fun k hk => (hq k hk).2⟩
  rw [ln_get fs k hk]
  exact (hq k hk).1
theorem elemPtT : ElemType Tryz.prog 35 (.agg #[.int .i64 0, .bool false]) 2 16 := ElemType.mk (by kernel_rfl) rfl (by decide)
theorem elemRowP : ElemType Tryz.prog 29 (.slice none 0 0) 1 24 := ElemType.mk (by kernel_rfl) rfl (by decide)
/-- Rows that are built behind world w1. -/
structure RB (w1 wr : World) (v : Value) (rv : List Value) (fs : List (List Pt)) : Prop where
  bel : Below w1.heap.size w1 wr
  r : RowsB wr w1.heap.size v rv fs
structure RU (w1 wr : World) (v : Value) (rv : List Value) (fs : List (List Pt)) (u : Value) (l : List Pt) : Prop where
  bel : Below w1.heap.size w1 wr
  r : RowsU wr w1.heap.size v rv fs u l
section
variable {w1 wr w' : World} {v v' u u' : Value} {rv : List Value} {fs : List (List Pt)} {l l' : List Pt}
theorem RB.start (w1 : World) : RB w1 w1 (.slice none 0 0) [] [] := ⟨Below.refl _ _, RowsB.nil _ _⟩
theorem RU.start (h : RB w1 wr v rv fs) : RU w1 wr v rv fs (.slice none 0 0) [] := ⟨h.bel, .start h.r⟩
theorem RB.below (h : RB w1 wr v rv fs) (hb : Below wr.heap.size wr w') : RB w1 w' v rv fs := ⟨h.bel.trans (hb.mono h.bel.size), h.r.below hb⟩
theorem RU.below (h : RU w1 wr v rv fs u l) (hb : Below wr.heap.size wr w') : RU w1 w' v rv fs u l := ⟨h.bel.trans (hb.mono h.bel.size), h.r.below hb⟩
theorem RU.addU (h : RU w1 wr v rv fs u l) (hown : Own w' w1.heap.size 35 2 encPt u' l') (hg : wr.grownBy w' u.ownBlock) (hat : u'.ownBlock = u.ownBlock ∨ u'.ownBlock = some wr.heap.size) : RU w1 w' v rv fs u' l' :=
  ⟨h.bel.grown hg h.bel.size fun j hj => (h.r.ou.lt hj).1, h.r.addU hown hg hat⟩
theorem RU.addV (h : RU w1 wr v rv fs u l) (hown : Own w' w1.heap.size 29 1 encV v' (rv ++ [u])) (hg : wr.grownBy w' v.ownBlock) (hat : v'.ownBlock = v.ownBlock ∨ v'.ownBlock = some wr.heap.size) : RB w1 w' v' (rv ++ [u]) (fs ++ [l]) :=
  ⟨h.bel.grown hg h.bel.size fun j hj => (h.r.b.op.lt hj).1, h.r.addV hown hg hat⟩
end
/-- A slice's cell, where the slice is known by its form. -/
theorem own_cellI {w : World} {Z : Nat} {o : Option Addr} {n c : Nat} {xs : List Int} (h : Own w Z 3 1 encInt (.slice o n c) xs) {i : Nat} (hi : i < xs.length) : ∃ b off, o = some ⟨b, off, none⟩ ∧ w.cell? ⟨b, off + i, none⟩ = some (.int .i64 xs[i]) := by
  obtain ⟨oa, cap, e, _, hf⟩ := h.flat (fun _ => rfl)
  obtain ⟨b, off, rfl, hc⟩ := hf.int hi
  simp only [Value.slice.injEq] at e
  obtain ⟨rfl, -, -⟩ := e
  exact ⟨b, off, rfl, hc⟩
theorem tm_ownV {w : World} {Z : Nat} {v : Value} {xs : List Value} (h : Own w Z 27 1 encV v xs) {i : Nat} (hi : i < xs.length) : ∃ b off cap, v = .slice (some ⟨b, off, none⟩) xs.length cap ∧ w.cell? ⟨b, off + i, none⟩ = some xs[i] := by
  obtain ⟨oa, cap, e, _, hf⟩ := h.flat (fun _ => rfl)
  obtain ⟨u, hu, b, off, rfl, hc⟩ := hf i hi 0 (by omega)
  simp [encV] at hu
  subst hu
  exact ⟨b, off, cap, e, by simpa using hc⟩
theorem plainRow_take (ms : List Int) (q : Nat) (h : q < ms.length) : plainRow (ms.take (q + 1)) = plainRow (ms.take q) ++ [⟨ms[q], false⟩] := by
  unfold plainRow
  rw [List.take_succ_eq_append_getElem h, List.map_append]
  rfl
theorem plainRow_len (ms : List Int) : (plainRow ms).length = ms.length := by simp [plainRow]
end Go.Proofs.YtcpjpmijfjdifaaGreatDoor
