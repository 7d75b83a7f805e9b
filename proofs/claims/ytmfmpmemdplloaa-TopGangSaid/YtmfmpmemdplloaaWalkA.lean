/-
  Trees of cuts in memory; the walker's variable. Own text.
-/
import Derived.Test.YtmfmpmemdplloaaCut
namespace Go.Proofs.Ytmfmpmemdplloaa
open Go.RowKit
set_option linter.unusedVariables false
/-- The cells of a node, and those of its kids in the world w0. -/
inductive TreeAt (w0 : World) : Tree → List Value → Prop where
  | mk (k a i : Int) (kids : List Tree) (oa : Option Addr) (cap : Nat) (css : Nat → List Value) (hm : kids.length ≤ maxLen) (hi : -9223372036854775808 ≤ k ∧ k ≤ 9223372036854775807 ∧ -9223372036854775808 ≤ a ∧ a ≤ 9223372036854775807 ∧ -9223372036854775808 ≤ i ∧ i ≤ 9223372036854775807)
      (hc : ∀ j, j < kids.length → ∃ b off, oa = some ⟨b, off, none⟩ ∧ ∀ q v, (css j)[q]? = some v → w0.cell? ⟨b, off + (j * 4 + q), none⟩ = some v)
      (hr : ∀ j (h : j < kids.length), TreeAt w0 kids[j] (css j)) : TreeAt w0 (.mk k a i kids) [.int .i64 k, .int .i64 a, .int .i64 i, .slice oa kids.length cap]
theorem TreeAt.shape {w0 : World} {t : Tree} {cs : List Value} (h : TreeAt w0 t cs) : ∃ k a i oa n cap, cs = [.int .i64 k, .int .i64 a, .int .i64 i, .slice oa n cap] := by
  cases h; exact ⟨_, _, _, _, _, _, rfl⟩
theorem TreeAt.under {w0 w : World} (hb : Below w0.heap.size w0 w) {t : Tree} {cs : List Value} (h : TreeAt w0 t cs) : TreeAt w t cs := by
  induction h with
  | mk k a i kids oa cap css hm hi hc hr ih =>
    refine .mk k a i kids oa cap css hm hi (fun j hj => ?_) ih
    obtain ⟨b, off, e, h⟩ := hc j hj
    refine ⟨b, off, e, fun q v hv => ?_⟩
    rw [hb.cell (p := ⟨b, off + (j * 4 + q), none⟩) (cell?_lt (a := ⟨b, off + (j * 4 + q), none⟩) (h q v hv))]
    exact h q v hv
theorem keepCell {w w' : World} (hb : Below w.heap.size w w') {a : Addr} {v : Value} (h : w.cell? a = some v) : w'.cell? a = some v := by rw [hb.cell (cell?_lt h)]; exact h
theorem elemRect : ElemType Try.prog 66 (.agg #[.int .i64 0, .int .i64 0, .int .i64 0, .int .i64 0, .int .i64 0]) 5 40 := ElemType.mk (by kernel_rfl) rfl (by decide)
/-- The walker's variable at block kb: its kinds, its count, its pieces (from block kb + 1 on its own), its waste. -/
structure WalkerAt (w : World) (kb : Nat) (iv : Value) (s : St) (rv : Value) : Prop where
  c0 : w.cell? ⟨kb, 0, none⟩ = some iv
  c1 : w.cell? ⟨kb, 1, none⟩ = some (.int .i64 (s.nodes : Int))
  c2 : w.cell? ⟨kb, 2, none⟩ = some rv
  c3 : w.cell? ⟨kb, 3, none⟩ = some (.int .i64 s.waste)
  fz : ∀ i, w.frozen? ⟨kb, i, none⟩ = false
  own : Own w (kb + 1) 66 5 encRect rv s.rects
theorem WalkerAt.lt {w : World} {kb : Nat} {iv rv : Value} {s : St} (h : WalkerAt w kb iv s rv) : kb < w.heap.size := cell?_lt h.c0
theorem WalkerAt.below {w w' : World} {kb : Nat} {iv rv : Value} {s : St} (h : WalkerAt w kb iv s rv) (hb : Below w.heap.size w w') : WalkerAt w' kb iv s rv :=
  ⟨keepCell hb h.c0, keepCell hb h.c1, keepCell hb h.c2, keepCell hb h.c3, fun i => by rw [hb.frozen (p := ⟨kb, i, none⟩) h.lt]; exact h.fz i, h.own.below hb⟩
theorem WalkerAt.alloc {w : World} {kb : Nat} {iv rv : Value} {s : St} (h : WalkerAt w kb iv s rv) (o : Obj) : WalkerAt (w.alloc o) kb iv s rv := h.below ((Below.refl _ _).alloc (Nat.le_refl _) o)
theorem WalkerAt.drew {w : World} {kb : Nat} {iv rv : Value} {s : St} (h : WalkerAt w kb iv s rv) : WalkerAt w.drew kb iv s rv := ⟨h.c0, h.c1, h.c2, h.c3, h.fz, h.own⟩
theorem own_setBelow {w : World} {base : Nat} {e : TypeId} {k : Nat} {α : Type} {enc : α → List Value} {v : Value} {xs : List α} (h : Own w base e k enc v xs) {a : Addr} (ha : a.block < base) (u : Value) : Own (w.setCell a u) base e k enc v xs :=
  ownsRow_setCell_below h ha u
theorem WalkerAt.setNodes {w : World} {kb : Nat} {iv rv : Value} {s : St} (h : WalkerAt w kb iv s rv) {n : Nat} {z : Int} (hz : z = (n : Int)) : WalkerAt (w.setCell ⟨kb, 1, none⟩ (.int .i64 z)) kb iv { s with nodes := n } rv := by
  obtain ⟨c0, c1, c2, c3, fz, own⟩ := h
  have f0 := fz 0; have f1 := fz 1; have f2 := fz 2; have f3 := fz 3
  have own2 := own_setBelow (a := ⟨kb, 1, none⟩) own (by show kb < kb + 1; omega) (.int .i64 z)
  subst hz
  refine ⟨?_, ?_, ?_, ?_, fun i => ?_, own2⟩
  · go_simp
  · go_simp
  · go_simp
  · go_simp
  · have := fz i
    go_simp
theorem WalkerAt.setWaste {w : World} {kb : Nat} {iv rv : Value} {s : St} (h : WalkerAt w kb iv s rv) (z : Int) : WalkerAt (w.setCell ⟨kb, 3, none⟩ (.int .i64 z)) kb iv { s with waste := z } rv := by
  obtain ⟨c0, c1, c2, c3, fz, own⟩ := h
  have f0 := fz 0; have f1 := fz 1; have f2 := fz 2; have f3 := fz 3
  have own2 := own_setBelow (a := ⟨kb, 3, none⟩) own (by show kb < kb + 1; omega) (.int .i64 z)
  refine ⟨?_, ?_, ?_, ?_, fun i => ?_, own2⟩
  · go_simp
  · go_simp
  · go_simp
  · go_simp
  · have := fz i
    go_simp
/-- A piece has been appended, and the new slice is laid into the variable. -/
theorem WalkerAt.setRects {w w' : World} {kb : Nat} {iv rv rv' : Value} {s : St} (h : WalkerAt w kb iv s rv) {rs : List Rect} (hg : w.grownBy w' rv.ownBlock) (hown : Own w' (kb + 1) 66 5 encRect rv' rs) :
    WalkerAt (w'.setCell ⟨kb, 2, none⟩ rv') kb iv { s with rects := rs } rv' := by
  have hlt := h.lt
  have hb : Below (kb + 1) w w' := (Below.refl _ _).grown hg (by omega) fun j hj => (h.own.lt j hj).1
  obtain ⟨c0, c1, c2, c3, fz, own⟩ := h
  have k0 : w'.cell? ⟨kb, 0, none⟩ = some iv := by rw [hb.cell (by show kb < kb + 1; omega)]; exact c0
  have k1 : w'.cell? ⟨kb, 1, none⟩ = some (.int .i64 (s.nodes : Int)) := by rw [hb.cell (by show kb < kb + 1; omega)]; exact c1
  have k2 : w'.cell? ⟨kb, 2, none⟩ = some rv := by rw [hb.cell (by show kb < kb + 1; omega)]; exact c2
  have k3 : w'.cell? ⟨kb, 3, none⟩ = some (.int .i64 s.waste) := by rw [hb.cell (by show kb < kb + 1; omega)]; exact c3
  have kf : ∀ i, w'.frozen? ⟨kb, i, none⟩ = false := fun i => by rw [hb.frozen (by show kb < kb + 1; omega)]; exact fz i
  have f0 := kf 0; have f1 := kf 1; have f2 := kf 2; have f3 := kf 3
  have own2 := own_setBelow (a := ⟨kb, 2, none⟩) hown (by show kb < kb + 1; omega) rv'
  clear c0 c1 c2 c3 fz own hown hb hg
  refine ⟨?_, ?_, ?_, ?_, fun i => ?_, own2⟩
  · go_simp
  · go_simp
  · go_simp
  · go_simp
  · have := kf i
    go_simp
/-- Of what was there only the variable and the row of the pieces may have turned. -/
structure Touch (kb : Nat) (rv rv' : Value) (w w' : World) : Prop where
  os : w'.os = w.os
  tape : w'.tape = w.tape
  output : w'.output = w.output
  size : w.heap.size ≤ w'.heap.size
  block : ∀ g, g < w.heap.size → g ≠ kb → some g ≠ rv.ownBlock → w'.heap[g]? = w.heap[g]?
  own : ∀ g, rv'.ownBlock = some g → rv.ownBlock = some g ∨ w.heap.size ≤ g
theorem Touch.trans {kb : Nat} {r r1 r2 : Value} {w w1 w2 : World} (h : Touch kb r r1 w w1) (k : Touch kb r1 r2 w1 w2) : Touch kb r r2 w w2 := by
  refine ⟨k.os.trans h.os, k.tape.trans h.tape, k.output.trans h.output, Nat.le_trans h.size k.size, fun g hg hk hr => ?_, fun g hg => ?_⟩
  · rw [k.block g (Nat.lt_of_lt_of_le hg h.size) hk ?_, h.block g hg hk hr]
    intro e
    rcases h.own g e.symm with h1 | h1
    · exact hr h1.symm
    · omega
  · rcases k.own g hg with h1 | h1
    · exact h.own g h1
    · exact .inr (Nat.le_trans h.size h1)
theorem Touch.below {kb : Nat} {r r' : Value} {w w' : World} (h : Touch kb r r' w w') (hr : ∀ g, r.ownBlock = some g → kb ≤ g) (hk : kb ≤ w.heap.size) : Below kb w w' :=
  ⟨h.os, h.tape, h.output, h.size, fun g hg => h.block g (by omega) (by omega) (fun e => by have := hr g e.symm; omega)⟩
theorem Touch.refl (kb : Nat) (r : Value) (w : World) : Touch kb r r w w := ⟨rfl, rfl, rfl, Nat.le_refl _, fun _ _ _ _ => rfl, fun _ h => .inl h⟩
theorem Touch.alloc {kb : Nat} {r r' : Value} {w w' : World} (h : Touch kb r r' w w') (o : Obj) : Touch kb r r' w (w'.alloc o) := by
  have hs := h.size
  exact ⟨h.os, h.tape, h.output, by simp; omega, fun g hg hk hr => by rw [Below.heap_alloc _ _ _ (by omega)]; exact h.block g hg hk hr, h.own⟩
theorem Touch.drew {kb : Nat} {r r' : Value} {w w' : World} (h : Touch kb r r' w w') : Touch kb r r' w w'.drew := ⟨h.os, h.tape, h.output, h.size, h.block, h.own⟩
theorem Touch.drewN {kb : Nat} {r r' : Value} {w w' : World} (h : Touch kb r r' w w') (n : Nat) : Touch kb r r' w (w'.drewN n) := ⟨h.os, h.tape, h.output, h.size, h.block, h.own⟩
theorem Touch.set {kb : Nat} {r r' : Value} {w w' : World} (h : Touch kb r r' w w') (j : Nat) (v : Value) : Touch kb r r' w (w'.setCell ⟨kb, j, none⟩ v) :=
  ⟨h.os, h.tape, h.output, by have := h.size; simpa [World.setCell] using this, fun g hg hk hr => by rw [Below.heap_setCell _ _ _ _ hk]; exact h.block g hg hk hr, h.own⟩
theorem Touch.cell {kb : Nat} {r r' : Value} {w w' : World} (h : Touch kb r r' w w') {a : Addr} {v : Value} (hk : a.block ≠ kb) (hr : some a.block ≠ r.ownBlock) (hc : w.cell? a = some v) : w'.cell? a = some v := by
  rw [World.cell?_of_block (w := w) (h.block a.block (cell?_lt hc) hk hr)]
  exact hc
/-- Behind it a call that turns nothing of what was there. -/
theorem Touch.under {kb : Nat} {r r' : Value} {w w2 w3 : World} (h : Touch kb r r' w w2) (hb : Below w2.heap.size w2 w3) : Touch kb r r' w w3 :=
  ⟨hb.os.trans h.os, hb.tape.trans h.tape, hb.output.trans h.output, Nat.le_trans h.size hb.size, fun g hg hk hr => (hb.block g (Nat.lt_of_lt_of_le hg h.size)).trans (h.block g hg hk hr), h.own⟩
/-- What a visit leaves. -/
def PostWalk (r : Res) (kb : Nat) (iv rv : Value) (w : World) (e : Ending) (w' : World) : Prop :=
  match r with | .err c => e = .returned (.int .i64 c) ∧ ∃ rv', Touch kb rv rv' w w' | .ok s' => e = .returned (.int .i64 0) ∧ ∃ rv', WalkerAt w' kb iv s' rv' ∧ Touch kb rv rv' w w'
def Res.code (r : Res) : Int := match r with | .err c => c | .ok _ => 0
theorem PostWalk.touch {r : Res} {kb : Nat} {iv rv : Value} {w : World} {e : Ending} {w' : World} (h : PostWalk r kb iv rv w e w') : ∃ rv', Touch kb rv rv' w w' ∧ e = .returned (.int .i64 r.code) ∧ ∀ s', r = .ok s' → WalkerAt w' kb iv s' rv' := by
  cases r with
  | err c => obtain ⟨h1, rv', h2⟩ := h; exact ⟨rv', h2, h1, fun s' e => by cases e⟩
  | ok s' => obtain ⟨h1, rv', h2, h3⟩ := h; exact ⟨rv', h3, h1, fun s2 e => by cases e; exact h2⟩
theorem PostWalk.make {r : Res} {kb : Nat} {iv rv rv' : Value} {w : World} {e : Ending} {w' : World} (ht : Touch kb rv rv' w w') (he : e = .returned (.int .i64 r.code)) (hw : ∀ s', r = .ok s' → WalkerAt w' kb iv s' rv') : PostWalk r kb iv rv w e w' := by
  cases r with
  | err c => exact ⟨he, rv', ht⟩
  | ok s' => exact ⟨he, rv', hw s' rfl, ht⟩
/-- The cases in which a visit ends early. -/
def Early (k a i : Int) (nk : Nat) (d : Int) (nodes : Nat) (r : Int) : Prop :=
  (4096 ≤ nodes ∧ r = 2) ∨ (nodes < 4096 ∧ ((80 < d ∧ r = 15) ∨ (d ≤ 80 ∧ ((k < 0 ∧ r = 14) ∨ (3 < k ∧ r = 14) ∨ (k = 0 ∧ (a != 0) = true ∧ r = 4) ∨ (k = 0 ∧ a = 0 ∧ 0 < nk ∧ r = 4) ∨ (k = 0 ∧ a = 0 ∧ nk = 0 ∧ (i != 0) = true ∧ r = 4) ∨
    (k = 1 ∧ (a != 0) = true ∧ r = 4) ∨ (k = 1 ∧ a = 0 ∧ 0 < nk ∧ r = 4) ∨ (k = 2 ∧ ((nk : Int) != 2) = true ∧ r = 4) ∨ (k = 2 ∧ nk = 2 ∧ (i != 0) = true ∧ r = 4) ∨ (k = 3 ∧ ((nk : Int) != 2) = true ∧ r = 4) ∨ (k = 3 ∧ nk = 2 ∧ (i != 0) = true ∧ r = 4)))))
end Go.Proofs.Ytmfmpmemdplloaa
