/-
  What is left of a run; the document's machine in memory. Own text.
-/
import Derived.Test.YtemldminpndemaaCycle
import Derived.Test.YtemldminpndemaaCollP
namespace Go.Proofs.Ytemldminpndemaa
open Go.RowKit
set_option linter.unusedVariables false
section
variable {fs : List (List Pt)} {F : List Ft} {c C : Nat} {a A : Nat → Nat} {g G : List Int} {p P : List (List Int)}
theorem Runs.empty (h : Runs fs F c a g p C A G P) (he : hasEmpty fs a = true) : C = c ∧ G = g ∧ P = p := by
  have hs : Align fs a none a := .stop a he
  cases h with
  | stop _ _ _ _ _ h1 => exact ⟨rfl, rfl, rfl⟩
  | good _ _ _ _ _ _ _ _ _ _ h1 => have := (h1.det hs).1; cases this
  | bad _ _ _ _ _ _ _ _ _ _ h1 => have := (h1.det hs).1; cases this
theorem Align.bump {r : Option Int} {a' : Nat → Nat} (h : Align fs a r a') (he : hasEmpty fs a = false) (hl : anyLag fs a = true) : Align fs (bumpV fs (mostV fs a) a) r a' := by
  cases h with
  | stop _ h1 => rw [he] at h1; cases h1
  | same _ _ h1 => rw [hl] at h1; cases h1
  | step _ _ _ _ _ h1 => exact h1
theorem Runs.bump (h : Runs fs F c a g p C A G P) (he : hasEmpty fs a = false) (hl : anyLag fs a = true) : Runs fs F c (bumpV fs (mostV fs a) a) g p C A G P := by
  cases h with
  | stop _ _ _ _ _ h1 => exact .stop _ _ _ _ _ (h1.bump he hl)
  | good _ _ _ a1 _ m _ _ _ _ h1 hf h2 => exact .good _ _ _ a1 _ m _ _ _ _ (h1.bump he hl) hf h2
  | bad _ _ _ a1 _ m _ _ _ _ h1 hf h2 => exact .bad _ _ _ a1 _ m _ _ _ _ (h1.bump he hl) hf h2
theorem Runs.same (h : Runs fs F c a g p C A G P) (he : hasEmpty fs a = false) (hl : anyLag fs a = false) : Runs fs F (c + 1) (goOn fs F c a) (addIf (fineV fs F c a) g (mostV fs a)) (addIf (fineV fs F c a) p (usedV fs a)) C A G P := by
  have hs : Align fs a (some (mostV fs a)) a := .same a he hl
  cases h with
  | stop _ _ _ _ _ h1 => have := (h1.det hs).1; cases this
  | good _ _ _ a1 _ m _ _ _ _ h1 hf h2 =>
    obtain ⟨e1, e2⟩ := h1.det hs
    cases e1
    subst e2
    rw [hf]
    exact h2
  | bad _ _ _ a1 _ m _ _ _ _ h1 hf h2 =>
    obtain ⟨e1, e2⟩ := h1.det hs
    cases e1
    subst e2
    rw [hf]
    exact h2
theorem Runs.le (h : Runs fs F c a g p C A G P) : c ≤ C := by
  induction h with
  | stop c a a' g p h2 => exact Nat.le_refl _
  | good c c' a a1 a' m g g' p p' h2 hf _ ih => omega
  | bad c c' a a1 a' m g g' p p' h2 hf _ ih => omega
end
/-- The parts that the faults make of the one. -/
def fedH (fs : List (List Pt)) (F : List Ft) (c : Nat) (a : Nat → Nat) (k j : Nat) : Nat := fedOf (ln fs k - a k) ((F.take j).filter (hit c k))
theorem fedH_zero (fs : List (List Pt)) (F : List Ft) (c : Nat) (a : Nat → Nat) (k : Nat) : fedH fs F c a k 0 = 1 := rfl
theorem fedH_all (fs : List (List Pt)) (F : List Ft) (c : Nat) (a : Nat → Nat) (k : Nat) : fedH fs F c a k F.length = fedV fs F c a k := by unfold fedH fedV; rw [List.take_length]
theorem fedH_succ (fs : List (List Pt)) (F : List Ft) (c : Nat) (a : Nat → Nat) (k j : Nat) (h : j < F.length) : fedH fs F c a k (j + 1) = if hit c k F[j] then (if F[j].dbl then min 2 (ln fs k - a k) else 0) else fedH fs F c a k j := by
  unfold fedH
  rw [List.take_succ_eq_append_getElem h, List.filter_append]
  by_cases e : hit c k F[j] = true
  · rw [if_pos e, List.filter_cons, if_pos e, List.filter_nil, fedOf_snoc]
  · rw [if_neg e, List.filter_cons, if_neg e, List.filter_nil, List.append_nil]
def takeTo (fs : List (List Pt)) (F : List Ft) (c : Nat) (a : Nat → Nat) (k : Nat) : List Int := (List.range k).map fun (j : Nat) => (fedV fs F c a j : Int)
theorem takeTo_succ (fs : List (List Pt)) (F : List Ft) (c : Nat) (a : Nat → Nat) (k : Nat) : takeTo fs F c a (k + 1) = takeTo fs F c a k ++ [(fedV fs F c a k : Int)] := by simp [takeTo, List.range_succ]
theorem takeTo_len (fs : List (List Pt)) (F : List Ft) (c : Nat) (a : Nat → Nat) (k : Nat) : (takeTo fs F c a k).length = k := by simp [takeTo]
theorem takeTo_get (fs : List (List Pt)) (F : List Ft) (c : Nat) (a : Nat → Nat) (n k : Nat) (h : k < (takeTo fs F c a n).length) : (takeTo fs F c a n)[k] = (fedV fs F c a k : Int) := by simp [takeTo]
/-- The machine in memory: the table of positions lies first. -/
structure CW (w0 wr : World) (n : Nat) (a : Nat → Nat) (vg vp : Value) (rv : List Value) (g : List Int) (p : List (List Int)) : Prop where
  nx : FTab (Value.int .i64) wr w0.heap.size n (fun k => (a k : Int))
  rep : Rep wr (w0.heap.size + 1) vg vp rv g p
  bel : Below w0.heap.size w0 wr
  sz : w0.heap.size + 1 ≤ wr.heap.size
section
variable {w0 wr w' : World} {n : Nat} {a b : Nat → Nat} {vg vp : Value} {rv : List Value} {g : List Int} {p : List (List Int)}
theorem CW.below (h : CW w0 wr n a vg vp rv g p) (hb : Below wr.heap.size wr w') : CW w0 w' n a vg vp rv g p :=
  ⟨h.nx.below hb h.sz, h.rep.calm ((Calm.refl _ wr).below hb), h.bel.trans (hb.mono h.bel.size), Nat.le_trans h.sz hb.size⟩
theorem CW.congr (h : CW w0 wr n a vg vp rv g p) (he : ∀ k, k < n → a k = b k) : CW w0 wr n b vg vp rv g p :=
  ⟨h.nx.congr fun k hk => by rw [he k hk], h.rep, h.bel, h.sz⟩
theorem CW.set (h : CW w0 wr n a vg vp rv g p) {k : Nat} (hk : k < n) (x : Nat) : CW w0 (wr.setCell ⟨w0.heap.size, k, none⟩ (.int .i64 x)) n (upd a k x) vg vp rv g p := by
  refine ⟨(h.nx.set hk (x : Int)).congr fun i hi => ?_, h.rep.calm ((Calm.refl _ wr).set (Nat.lt_succ_self _) _ _), h.bel.setCell (p := ⟨w0.heap.size, k, none⟩) (Nat.le_refl _) _, ?_⟩
  · unfold upd
    by_cases e : i = k
    · simp [e]
    · simp [e]
  · rw [World.size_setCell]; exact h.sz
theorem CW.addG {vg' : Value} {m : Int} (h : CW w0 wr n a vg vp rv g p) (hown : Own w' (w0.heap.size + 1) 3 1 encInt vg' (g ++ [m])) (hg : wr.grownBy w' vg.ownBlock) (hat : vg'.ownBlock = vg.ownBlock ∨ vg'.ownBlock = some wr.heap.size) : CW w0 w' n a vg' vp rv (g ++ [m]) p := by
  have hlt : ∀ j, vg.ownBlock = some j → w0.heap.size + 1 ≤ j := fun j hj => (h.rep.og.lt hj).1
  refine ⟨h.nx.blk (hg.block _ h.sz fun e => by have := hlt _ e.symm; omega), h.rep.addG hown hg hat, h.bel.grown hg h.bel.size fun j hj => by have := hlt j hj; omega, Nat.le_trans h.sz hg.size⟩
theorem CW.addP {vp' v : Value} {l : List Int} (h : CW w0 wr n a vg vp rv g p) (hl : Own wr (w0.heap.size + 1) 3 1 encInt v l) (hlg : ∀ b, v.ownBlock = some b → vg.ownBlock ≠ some b ∧ vp.ownBlock ≠ some b) (hown : Own w' (w0.heap.size + 1) 25 1 encV vp' (rv ++ [v])) (hg : wr.grownBy w' vp.ownBlock) (hat : vp'.ownBlock = vp.ownBlock ∨ vp'.ownBlock = some wr.heap.size) : CW w0 w' n a vg vp' (rv ++ [v]) g (p ++ [l]) := by
  have hlt : ∀ j, vp.ownBlock = some j → w0.heap.size + 1 ≤ j := fun j hj => (h.rep.op.lt hj).1
  refine ⟨h.nx.blk (hg.block _ h.sz fun e => by have := hlt _ e.symm; omega), h.rep.addP hl hlg hown hg hat, h.bel.grown hg h.bel.size fun j hj => by have := hlt j hj; omega, Nat.le_trans h.sz hg.size⟩
end
theorem CW.start (w : World) (n : Nat) : CW w (w.alloc (.cells (madeArr (.int .i64 0) n) 3)) n (fun _ => 0) (.slice none 0 0) (.slice none 0 0) [] [] [] :=
  ⟨FTab.made (Value.int .i64) w n 0 _, Rep.nil _ _, balloc (Below.refl _ w) _, by rw [World.size_alloc]; omega⟩
/-- The parts that are used, and how many are taken: two rows under way. -/
structure UT (w2 wr : World) (us tk : Value) (xs ys : List Int) : Prop where
  bel : Below w2.heap.size w2 wr
  ou : Own wr w2.heap.size 3 1 encInt us xs
  ot : Own wr w2.heap.size 3 1 encInt tk ys
  ne : ∀ b, us.ownBlock = some b → tk.ownBlock ≠ some b
section
variable {w2 wr w' : World} {us tk us' tk' : Value} {xs ys xs' ys' : List Int}
theorem UT.start (w2 : World) : UT w2 w2 (.slice none 0 0) (.slice none 0 0) [] [] := ⟨Below.refl _ _, Own.nil _ _ _ _ _, Own.nil _ _ _ _ _, fun b h => by cases h⟩
theorem UT.below (h : UT w2 wr us tk xs ys) (hb : Below wr.heap.size wr w') : UT w2 w' us tk xs ys := ⟨h.bel.trans (hb.mono h.bel.size), h.ou.below hb, h.ot.below hb, h.ne⟩
theorem UT.addU (h : UT w2 wr us tk xs ys) (hown : Own w' w2.heap.size 3 1 encInt us' xs') (hg : wr.grownBy w' us.ownBlock) (hat : us'.ownBlock = us.ownBlock ∨ us'.ownBlock = some wr.heap.size) : UT w2 w' us' tk xs' ys := by
  refine ⟨h.bel.grown hg h.bel.size fun j hj => (h.ou.lt hj).1, hown, h.ot.blocks fun b hb => hg.block b (h.ot.lt hb).2 fun e => h.ne b e.symm hb, fun b hb e => ?_⟩
  rcases hat with e2 | e2
  · exact h.ne b (e2 ▸ hb) e
  · rw [e2] at hb
    cases hb
    have := (h.ot.lt e).2
    omega
theorem UT.addT (h : UT w2 wr us tk xs ys) (hown : Own w' w2.heap.size 3 1 encInt tk' ys') (hg : wr.grownBy w' tk.ownBlock) (hat : tk'.ownBlock = tk.ownBlock ∨ tk'.ownBlock = some wr.heap.size) : UT w2 w' us tk' xs ys' := by
  refine ⟨h.bel.grown hg h.bel.size fun j hj => (h.ot.lt hj).1, h.ou.blocks fun b hb => hg.block b (h.ou.lt hb).2 fun e => h.ne b hb e.symm, hown, fun b hb e => ?_⟩
  rcases hat with e2 | e2
  · exact h.ne b hb (e2 ▸ e)
  · rw [e2] at e
    cases e
    have := (h.ou.lt hb).2
    omega
end
theorem FeedOk.pos {fs : List (List Pt)} (h : FeedOk fs) : ∀ k, k < fs.length → ∀ i, i < ln fs k → 0 ≤ (ptAt fs k i).copy := fun k hk i hi => by
  have hi' : i < fs[k].length := by rw [← ln_get fs k hk]; exact hi
  rw [ptAt_get fs k i hk hi']
  exact ((h.rows _ (List.getElem_mem hk)).rng _ (List.getElem_mem hi')).1
theorem ownI_at {w : World} {Z : Nat} {v : Value} {xs : List Int} (h : Own w Z 3 1 encInt v xs) {i : Nat} (hi : i < xs.length) : ∃ b off cap, v = .slice (some ⟨b, off, none⟩) xs.length cap ∧ w.cell? ⟨b, off + i, none⟩ = some (.int .i64 xs[i]) := by
  obtain ⟨oa, cap, e, _, hf⟩ := h.flat (fun _ => rfl)
  obtain ⟨b, off, rfl, hc⟩ := hf.int hi
  exact ⟨b, off, cap, e, hc⟩
def RetColl (C : Nat) (G : List Int) (P : List (List Int)) (w : World) (e : Ending) (w' : World) : Prop :=
  ∃ vg vp rv, e = .returned (.tuple #[vg, vp, .int .i64 C]) ∧ Rep w' (w.heap.size + 1) vg vp rv G P ∧ Below w.heap.size w w'
end Go.Proofs.Ytemldminpndemaa
