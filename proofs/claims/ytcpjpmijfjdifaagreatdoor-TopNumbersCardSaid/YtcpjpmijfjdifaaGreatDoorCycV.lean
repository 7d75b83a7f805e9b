/-
  A machine's report in memory; a cycle, plain. Own text.
-/
import Derived.Test.YtcpjpmijfjdifaaGreatDoorAlignW
import Derived.Test.YtcpjpmijfjdifaaGreatDoorMade
namespace Go.Proofs.YtcpjpmijfjdifaaGreatDoor
open Go.RowKit
set_option linter.unusedVariables false
def encV (v : Value) : List Value := [v]
/-- The rows of a report. -/
structure Rep (w : World) (Z : Nat) (vg vp : Value) (rv : List Value) (g : List Int) (p : List (List Int)) : Prop where
  og : Own w Z 3 1 encInt vg g
  op : Own w Z 27 1 encV vp rv
  len : rv.length = p.length
  row : ∀ i (h : i < rv.length) (h' : i < p.length), Own w Z 3 1 encInt rv[i] p[i]
  gp : ∀ b, vg.ownBlock = some b → vp.ownBlock ≠ some b
  gr : ∀ v ∈ rv, ∀ b, v.ownBlock = some b → vg.ownBlock ≠ some b ∧ vp.ownBlock ≠ some b
theorem Rep.nil (w : World) (Z : Nat) : Rep w Z (.slice none 0 0) (.slice none 0 0) [] [] [] :=
  ⟨Own.nil _ _ _ _ _, Own.nil _ _ _ _ _, rfl, fun i h => by simp at h, fun b h => (by cases h), fun v h => by cases h⟩
theorem Rep.calm {w w' : World} {Z : Nat} {vg vp : Value} {rv : List Value} {g : List Int} {p : List (List Int)} (h : Rep w Z vg vp rv g p) (hc : Calm Z w w') : Rep w' Z vg vp rv g p :=
  ⟨h.og.calm hc, h.op.calm hc, h.len, fun i h1 h2 => (h.row i h1 h2).calm hc, h.gp, h.gr⟩
theorem Own.lt {α : Type} {w : World} {base : Nat} {e : TypeId} {k : Nat} {enc : α → List Value} {v : Value} {xs : List α} (h : Own w base e k enc v xs) {g : Nat} (hg : v.ownBlock = some g) : base ≤ g ∧ g < w.heap.size := World.ownsRow.lt h g hg
theorem Own.blocks {α : Type} {w w' : World} {base : Nat} {e : TypeId} {k : Nat} {enc : α → List Value} {v : Value} {xs : List α} (h : Own w base e k enc v xs) (hb : ∀ g, v.ownBlock = some g → w'.heap[g]? = w.heap[g]?) : Own w' base e k enc v xs := by
  refine ⟨h.1, ?_⟩
  rcases h.2 with hv | ⟨g, cap, cur, rfl, hbg, hg, rest⟩
  · exact .inl hv
  · exact .inr ⟨g, cap, cur, rfl, hbg, by rw [hb g rfl]; exact hg, rest⟩
theorem Own.rebase {α : Type} {w : World} {base base' : Nat} {e : TypeId} {k : Nat} {enc : α → List Value} {v : Value} {xs : List α} (h : Own w base e k enc v xs) (hb : base' ≤ base) : Own w base' e k enc v xs := by
  refine ⟨h.1, ?_⟩
  rcases h.2 with hv | ⟨g, cap, cur, rfl, hbg, rest⟩
  · exact .inl hv
  · exact .inr ⟨g, cap, cur, rfl, Nat.le_trans hb hbg, rest⟩
theorem Calm.grown {Z : Nat} {w w1 w2 : World} (h : Calm Z w w1) {r : Option Nat} (hg : w1.grownBy w2 r) (hr : ∀ g, r = some g → w.heap.size ≤ g) : Calm Z w w2 :=
  ⟨Nat.le_trans h.size hg.size, fun g h1 h2 => by have h3 := h.size; rw [hg.block g (by omega) (fun e => by have := hr g e.symm; omega), h.blk g h1 h2]⟩
/-- The copy's number is appended. -/
theorem Rep.addG {w w' : World} {Z : Nat} {vg vp vg' : Value} {rv : List Value} {g : List Int} {p : List (List Int)} {m : Int} (h : Rep w Z vg vp rv g p) (hown : Own w' Z 3 1 encInt vg' (g ++ [m])) (hg : w.grownBy w' vg.ownBlock) (hat : vg'.ownBlock = vg.ownBlock ∨ vg'.ownBlock = some w.heap.size) : Rep w' Z vg' vp rv (g ++ [m]) p := by
  refine ⟨hown, h.op.blocks fun b hb => hg.block b (h.op.lt hb).2 fun e => h.gp b e.symm hb, h.len, fun i h1 h2 => (h.row i h1 h2).blocks fun b hb => hg.block b ((h.row i h1 h2).lt hb).2 fun e => (h.gr _ (List.getElem_mem h1) b hb).1 e.symm, fun b hb e => ?_, fun v hv b hb => ⟨fun e => ?_, (h.gr v hv b hb).2⟩⟩
  · rcases hat with e2 | e2
    · exact h.gp b (e2 ▸ hb) e
    · rw [e2] at hb
      cases hb
      have := (h.op.lt e).2
      omega
  · rcases hat with e2 | e2
    · exact (h.gr v hv b hb).1 (e2 ▸ e)
    · rw [e2] at e
      cases e
      obtain ⟨i, hi, rfl⟩ := List.mem_iff_getElem.1 hv
      have := ((h.row i hi (by rw [← h.len]; exact hi)).lt hb).2
      omega
/-- A row of parts is appended. -/
theorem Rep.addP {w w' : World} {Z : Nat} {vg vp vp' v : Value} {rv : List Value} {g l : List Int} {p : List (List Int)} (h : Rep w Z vg vp rv g p) (hl : Own w Z 3 1 encInt v l) (hlg : ∀ b, v.ownBlock = some b → vg.ownBlock ≠ some b ∧ vp.ownBlock ≠ some b) (hown : Own w' Z 27 1 encV vp' (rv ++ [v])) (hg : w.grownBy w' vp.ownBlock) (hat : vp'.ownBlock = vp.ownBlock ∨ vp'.ownBlock = some w.heap.size) : Rep w' Z vg vp' (rv ++ [v]) g (p ++ [l]) := by
  have hrow : ∀ i (h1 : i < (rv ++ [v]).length) (h2 : i < (p ++ [l]).length), Own w Z 3 1 encInt (rv ++ [v])[i] (p ++ [l])[i] ∧ ∀ b, (rv ++ [v])[i].ownBlock = some b → vg.ownBlock ≠ some b ∧ vp.ownBlock ≠ some b := by
    intro i h1 h2
    have hlen := h.len
    by_cases e : i < rv.length
    · rw [List.getElem_append_left e, List.getElem_append_left (by omega)]
      exact ⟨h.row i e (by omega), h.gr _ (List.getElem_mem e)⟩
    · obtain rfl : i = rv.length := by simp at h1; omega
      rw [List.getElem_append_right (Nat.le_refl _), List.getElem_append_right (by omega)]
      simp only [Nat.sub_self, List.getElem_cons_zero, hlen]
      exact ⟨hl, hlg⟩
  have hp' : ∀ b, vp'.ownBlock = some b → b < w.heap.size → vp.ownBlock = some b := fun b hb hb2 => by
    rcases hat with e | e
    · rw [← e]; exact hb
    · rw [e] at hb; cases hb; omega
  refine ⟨h.og.blocks fun b hb => hg.block b (h.og.lt hb).2 fun e => h.gp b hb e.symm, hown, by simp [h.len], fun i h1 h2 => ((hrow i h1 h2).1).blocks fun b hb => hg.block b ((hrow i h1 h2).1.lt hb).2 fun e => ((hrow i h1 h2).2 b hb).2 e.symm, fun b hb e => h.gp b hb (hp' b e (h.og.lt hb).2), fun u hu b hb => ?_⟩
  obtain ⟨i, hi, rfl⟩ := List.mem_iff_getElem.1 hu
  have h3 := hrow i hi (by have := h.len; simp at hi ⊢; omega)
  exact ⟨(h3.2 b hb).1, fun e => (h3.2 b hb).2 (hp' b e (h3.1.lt hb).2)⟩
/-! ### A cycle -/
theorem fedOf_snoc (r : Nat) (l : List Ft) (x : Ft) : fedOf r (l ++ [x]) = if x.dbl then min 2 r else 0 := by
  simp [fedOf, List.foldl_append]
def ofF (k : Nat) (x : Ft) : Bool := x.fdr == (k : Int)
def fedTo (r k : Nat) (pre : List Ft) (j : Nat) : Nat := fedOf r ((pre.take j).filter (ofF k))
theorem fedTo_zero (r k : Nat) (pre : List Ft) : fedTo r k pre 0 = 1 := rfl
theorem fedTo_succ (r k : Nat) (pre : List Ft) (j : Nat) (h : j < pre.length) : fedTo r k pre (j + 1) = if ofF k pre[j] then (if pre[j].dbl then min 2 r else 0) else fedTo r k pre j := by
  unfold fedTo
  rw [List.take_succ_eq_append_getElem h, List.filter_append]
  by_cases e : ofF k pre[j] = true
  · simp only [e, if_true, List.filter_cons, List.filter_nil]
    exact fedOf_snoc _ _ _
  · simp [e]
def fineTo (fs : List (List Pt)) (F : List Ft) (c : Nat) (a : Nat → Nat) (k : Nat) : Bool := (List.range k).all fun k => fedV fs F c a k == 1 && !sp fs k (a k)
theorem fineTo_succ (fs : List (List Pt)) (F : List Ft) (c : Nat) (a : Nat → Nat) (k : Nat) : fineTo fs F c a (k + 1) = (fineTo fs F c a k && (fedV fs F c a k == 1 && !sp fs k (a k))) := by
  simp [fineTo, List.range_succ]
def midS (a : Nat → Nat) (f : Nat → Nat) (k : Nat) : Nat → Nat := fun j => if j < k then a j + f j else a j
theorem midS_zero (a f : Nat → Nat) : midS a f 0 = a := by funext j; simp [midS]
theorem midS_next (a f : Nat → Nat) (k : Nat) : midS a f (k + 1) = upd (midS a f k) k (a k + f k) := by
  funext j
  unfold midS upd
  by_cases e : j = k
  · subst e; simp
  · by_cases e2 : j < k
    · have : j < k + 1 := by omega
      simp [e, e2, this]
    · have : ¬ j < k + 1 := by omega
      simp [e, e2, this]
theorem midS_at (a f : Nat → Nat) (k : Nat) : midS a f k k = a k := by simp [midS]
def usedTo (a : Nat → Nat) (k : Nat) : List Int := (List.range k).map fun (j : Nat) => (a j : Int)
theorem usedTo_succ (a : Nat → Nat) (k : Nat) : usedTo a (k + 1) = usedTo a k ++ [(a k : Int)] := by simp [usedTo, List.range_succ]
theorem usedTo_len (a : Nat → Nat) (k : Nat) : (usedTo a k).length = k := by simp [usedTo]
def addIf {α : Type} (b : Bool) (l : List α) (x : α) : List α := if b then l ++ [x] else l
end Go.Proofs.YtcpjpmijfjdifaaGreatDoor
