/-
  Trees that a call makes. Own text.
-/
import Derived.Test.YtmfmpmemdplloaaSame
namespace Go.Proofs.Ytmfmpmemdplloaa
open Go.RowKit
set_option linter.unusedVariables false
/-- As TreeAt; the kids lie in blocks from lo on, below hi. -/
inductive TreeB (lo hi : Nat) (w0 : World) : Tree → List Value → Prop where
  | mk (k a i : Int) (kids : List Tree) (oa : Option Addr) (cap : Nat) (css : Nat → List Value) (hm : kids.length ≤ maxLen) (hi' : -9223372036854775808 ≤ k ∧ k ≤ 9223372036854775807 ∧ -9223372036854775808 ≤ a ∧ a ≤ 9223372036854775807 ∧ -9223372036854775808 ≤ i ∧ i ≤ 9223372036854775807)
      (hc : ∀ j, j < kids.length → ∃ b off, oa = some ⟨b, off, none⟩ ∧ lo ≤ b ∧ b < hi ∧ ∀ q v, (css j)[q]? = some v → w0.cell? ⟨b, off + (j * 4 + q), none⟩ = some v)
      (hr : ∀ j (h : j < kids.length), TreeB lo hi w0 kids[j] (css j)) : TreeB lo hi w0 (.mk k a i kids) [.int .i64 k, .int .i64 a, .int .i64 i, .slice oa kids.length cap]
theorem TreeB.toAt {lo hi : Nat} {w : World} {t : Tree} {cs : List Value} (h : TreeB lo hi w t cs) : TreeAt w t cs := by
  induction h with
  | mk k a i kids oa cap css hm hi' hc hr ih =>
    refine .mk k a i kids oa cap css hm hi' (fun j hj => ?_) ih
    obtain ⟨b, off, e, _, _, h⟩ := hc j hj
    exact ⟨b, off, e, h⟩
theorem TreeB.move {lo hi lo' hi' : Nat} {w w' : World} (hl : lo' ≤ lo) (hh : hi ≤ hi') (hw : ∀ b o v, lo ≤ b → b < hi → w.cell? ⟨b, o, none⟩ = some v → w'.cell? ⟨b, o, none⟩ = some v) {t : Tree} {cs : List Value} (h : TreeB lo hi w t cs) : TreeB lo' hi' w' t cs := by
  induction h with
  | mk k a i kids oa cap css hm hi' hc hr ih =>
    refine .mk k a i kids oa cap css hm hi' (fun j hj => ?_) ih
    obtain ⟨b, off, e, h1, h2, h⟩ := hc j hj
    exact ⟨b, off, e, by omega, by omega, fun q v hv => hw b _ v h1 h2 (h q v hv)⟩
theorem TreeB.mono {lo hi lo' hi' : Nat} {w : World} {t : Tree} {cs : List Value} (h : TreeB lo hi w t cs) (hl : lo' ≤ lo) (hh : hi ≤ hi') : TreeB lo' hi' w t cs := h.move hl hh (fun b o v _ _ h => h)
theorem TreeB.under {lo hi B : Nat} {w w' : World} {t : Tree} {cs : List Value} (h : TreeB lo hi w t cs) (hb : Below B w w') (hh : hi ≤ B) : TreeB lo hi w' t cs :=
  h.move (Nat.le_refl _) (Nat.le_refl _) fun b o v _ h2 hc => by rw [hb.cell (p := ⟨b, o, none⟩) (Nat.lt_of_lt_of_le h2 hh)]; exact hc
theorem TreeB.drew {lo hi : Nat} {w : World} {t : Tree} {cs : List Value} (h : TreeB lo hi w t cs) : TreeB lo hi w.drew t cs := TreeB.move (w := w) (w' := w.drew) (Nat.le_refl _) (Nat.le_refl _) (fun b o v _ _ h => h) h
theorem TreeB.drewN {lo hi : Nat} {w : World} {t : Tree} {cs : List Value} (h : TreeB lo hi w t cs) (n : Nat) : TreeB lo hi (w.drewN n) t cs := TreeB.move (w := w) (w' := w.drewN n) (Nat.le_refl _) (Nat.le_refl _) (fun b o v _ _ h => h) h
theorem TreeB.alloc {lo hi : Nat} {w : World} {t : Tree} {cs : List Value} (h : TreeB lo hi w t cs) (o : Obj) : TreeB lo hi (w.alloc o) t cs :=
  h.move (Nat.le_refl _) (Nat.le_refl _) fun b o v _ _ hc => keepCell (balloc (Below.refl _ w) _) hc
theorem TreeB.setCell {lo hi : Nat} {w : World} {t : Tree} {cs : List Value} (h : TreeB lo hi w t cs) {a : Addr} (ha : a.block < lo ∨ hi ≤ a.block) (u : Value) : TreeB lo hi (w.setCell a u) t cs :=
  h.move (Nat.le_refl _) (Nat.le_refl _) fun b o v h1 h2 hc => by
    rw [World.cell?_of_block (w := w) (a := ⟨b, o, none⟩) (Below.heap_setCell _ _ _ _ (by show b ≠ a.block; omega))]
    exact hc
/-- What a function that returns a tree leaves. -/
def RetTree (T : Tree) (w : World) (e : Ending) (w' : World) : Prop :=
  Below w.heap.size w w' ∧ ∃ k a i kids oa cap, T = .mk k a i kids ∧ e = .returned (.agg #[.int .i64 k, .int .i64 a, .int .i64 i, .slice oa kids.length cap]) ∧ TreeB w.heap.size w'.heap.size w' T [.int .i64 k, .int .i64 a, .int .i64 i, .slice oa kids.length cap]
theorem TreeB.leaf (lo hi : Nat) (w : World) (k a i : Int) (cap : Nat) (hi' : -9223372036854775808 ≤ k ∧ k ≤ 9223372036854775807 ∧ -9223372036854775808 ≤ a ∧ a ≤ 9223372036854775807 ∧ -9223372036854775808 ≤ i ∧ i ≤ 9223372036854775807) :
    TreeB lo hi w (.mk k a i []) [.int .i64 k, .int .i64 a, .int .i64 i, .slice none 0 cap] :=
  .mk k a i [] none cap (fun _ => []) (by decide) hi' (fun j hj => by cases hj) (fun j hj => by cases hj)
theorem TreeAt.bounds {w : World} {k a i : Int} {kids : List Tree} {cs : List Value} (h : TreeAt w (.mk k a i kids) cs) :
    -9223372036854775808 ≤ k ∧ k ≤ 9223372036854775807 ∧ -9223372036854775808 ≤ a ∧ a ≤ 9223372036854775807 ∧ -9223372036854775808 ≤ i ∧ i ≤ 9223372036854775807 := by
  cases h; assumption
/-- The two kids at block g. -/
structure Two (w : World) (g : Nat) (k0 a0 i0 : Int) (o0 : Option Addr) (n0 p0 : Nat) (k1 a1 i1 : Int) (o1 : Option Addr) (n1 p1 : Nat) : Prop where
  c0 : w.cell? ⟨g, 0, none⟩ = some (.int .i64 k0)
  c1 : w.cell? ⟨g, 1, none⟩ = some (.int .i64 a0)
  c2 : w.cell? ⟨g, 2, none⟩ = some (.int .i64 i0)
  c3 : w.cell? ⟨g, 3, none⟩ = some (.slice o0 n0 p0)
  c4 : w.cell? ⟨g, 4, none⟩ = some (.int .i64 k1)
  c5 : w.cell? ⟨g, 5, none⟩ = some (.int .i64 a1)
  c6 : w.cell? ⟨g, 6, none⟩ = some (.int .i64 i1)
  c7 : w.cell? ⟨g, 7, none⟩ = some (.slice o1 n1 p1)
  fz : ∀ i, w.frozen? ⟨g, i, none⟩ = false
theorem TreeB.mk2 {lo hi : Nat} {w : World} (k a i : Int) {T0 T1 : Tree} {g : Nat} {k0 a0 i0 k1 a1 i1 : Int} {o0 o1 : Option Addr} {n0 n1 p0 p1 : Nat} (cap : Nat) (two : Two w g k0 a0 i0 o0 n0 p0 k1 a1 i1 o1 n1 p1) (hg : lo ≤ g ∧ g < hi)
    (h0 : TreeB lo hi w T0 [.int .i64 k0, .int .i64 a0, .int .i64 i0, .slice o0 n0 p0]) (h1 : TreeB lo hi w T1 [.int .i64 k1, .int .i64 a1, .int .i64 i1, .slice o1 n1 p1])
    (hi' : -9223372036854775808 ≤ k ∧ k ≤ 9223372036854775807 ∧ -9223372036854775808 ≤ a ∧ a ≤ 9223372036854775807 ∧ -9223372036854775808 ≤ i ∧ i ≤ 9223372036854775807) :
    TreeB lo hi w (.mk k a i [T0, T1]) [.int .i64 k, .int .i64 a, .int .i64 i, .slice (some ⟨g, 0, none⟩) 2 cap] := by
  obtain ⟨c0, c1, c2, c3, c4, c5, c6, c7, _⟩ := two
  refine .mk k a i _ (some ⟨g, 0, none⟩) cap (fun j => if j = 0 then [.int .i64 k0, .int .i64 a0, .int .i64 i0, .slice o0 n0 p0] else [.int .i64 k1, .int .i64 a1, .int .i64 i1, .slice o1 n1 p1]) (by show 2 ≤ maxLen; decide) hi' (fun j hj => ⟨g, 0, rfl, hg.1, hg.2, fun q v hv => ?_⟩) (fun j hj => ?_)
  · have hj2 : j = 0 ∨ j = 1 := by have : j < 2 := hj; omega
    have hq : q < 4 := by
      have := (List.getElem?_eq_some_iff.1 hv).1
      rcases hj2 with rfl | rfl <;> simpa using this
    have hq2 : q = 0 ∨ q = 1 ∨ q = 2 ∨ q = 3 := by omega
    rcases hj2 with rfl | rfl <;> rcases hq2 with rfl | rfl | rfl | rfl <;> simp at hv <;> subst hv <;> simpa using (by assumption)
  · have hj2 : j = 0 ∨ j = 1 := by have : j < 2 := hj; omega
    rcases hj2 with rfl | rfl
    · exact h0
    · exact h1
theorem Two.keep {w w' : World} {g : Nat} {k0 a0 i0 k1 a1 i1 : Int} {o0 o1 : Option Addr} {n0 n1 p0 p1 : Nat} (h : Two w g k0 a0 i0 o0 n0 p0 k1 a1 i1 o1 n1 p1) (hb : w'.heap[g]? = w.heap[g]?) : Two w' g k0 a0 i0 o0 n0 p0 k1 a1 i1 o1 n1 p1 := by
  have e : ∀ i, w'.cell? ⟨g, i, none⟩ = w.cell? ⟨g, i, none⟩ := fun i => World.cell?_of_block (w := w) (a := ⟨g, i, none⟩) hb
  have f : ∀ i, w'.frozen? ⟨g, i, none⟩ = w.frozen? ⟨g, i, none⟩ := fun i => by unfold World.frozen?; rw [hb]
  obtain ⟨c0, c1, c2, c3, c4, c5, c6, c7, fz⟩ := h
  exact ⟨by rw [e]; exact c0, by rw [e]; exact c1, by rw [e]; exact c2, by rw [e]; exact c3, by rw [e]; exact c4, by rw [e]; exact c5, by rw [e]; exact c6, by rw [e]; exact c7, fun i => by rw [f]; exact fz i⟩
/-- The sizes that occur n levels above the bottom. -/
def Sz (n : Nat) (w h : Int) : Prop := n ≤ 82 ∧ -(40 * (82 - (n : Int))) ≤ w ∧ w ≤ 40 ∧ -(40 * (82 - (n : Int))) ≤ h ∧ h ≤ 40
theorem Sz.bd {n : Nat} {w h : Int} (z : Sz n w h) : -3280 ≤ w ∧ w ≤ 40 ∧ -3280 ≤ h ∧ h ≤ 40 := by unfold Sz at z; omega
theorem Sz.down {n : Nat} {w h a : Int} (z : Sz (n + 1) w h) (h1 : 1 ≤ a) (h2 : a ≤ 39) : Sz n a h ∧ Sz n (w - a) h ∧ Sz n w a ∧ Sz n w (h - a) ∧ Sz n (h - a) h ∧ Sz n w (w - a) := by
  unfold Sz at *
  omega
/-- What was there reads as before. -/
theorem bcell {W w1 : World} (hb : Below W.heap.size W w1) : (∀ b o, b < W.heap.size → w1.cell? ⟨b, o, none⟩ = W.cell? ⟨b, o, none⟩) ∧ (∀ b o, b < W.heap.size → w1.frozen? ⟨b, o, none⟩ = W.frozen? ⟨b, o, none⟩) :=
  ⟨fun b o h => hb.cell (p := ⟨b, o, none⟩) h, fun b o h => hb.frozen (p := ⟨b, o, none⟩) h⟩
/-- Two steps: from w to w1, and from there on. -/
theorem bafter {w w1 w2 : World} (h : Below w.heap.size w w1) (h2 : Below w1.heap.size w1 w2) : Below w.heap.size w w2 := bthen h h2
end Go.Proofs.Ytmfmpmemdplloaa
