/-
  The walk of the machine's align. Own text.
-/
import Derived.Test.YtcpjpmijfjdifaaGreatDoorEmpty
import Derived.Deep.LoopGhost
namespace Go.Proofs.YtcpjpmijfjdifaaGreatDoor
open Go.RowKit
set_option linter.unusedVariables false
/-- From block Z on nothing turns. -/
structure Calm (Z : Nat) (w w' : World) : Prop where
  size : w.heap.size ≤ w'.heap.size
  blk : ∀ g, Z ≤ g → g < w.heap.size → w'.heap[g]? = w.heap[g]?
theorem Calm.refl (Z : Nat) (w : World) : Calm Z w w := ⟨Nat.le_refl _, fun _ _ _ => rfl⟩
theorem Calm.trans {Z : Nat} {w w1 w2 : World} (h : Calm Z w w1) (k : Calm Z w1 w2) : Calm Z w w2 :=
  ⟨Nat.le_trans h.size k.size, fun g h1 h2 => by have := h.size; rw [k.blk g h1 (by omega), h.blk g h1 h2]⟩
theorem Calm.drewN {Z : Nat} {w w1 : World} (h : Calm Z w w1) (q : Nat) : Calm Z w (w1.drewN q) := ⟨h.size, h.blk⟩
theorem Calm.set {Z : Nat} {w w1 : World} (h : Calm Z w w1) {b : Nat} (hb : b < Z) (o : Nat) (v : Value) : Calm Z w (w1.setCell ⟨b, o, none⟩ v) :=
  ⟨by simpa using h.size, fun g h1 h2 => by rw [Below.heap_setCell _ _ _ _ (fun e => by have e' : g = b := e; omega)]; exact h.blk g h1 h2⟩
theorem Calm.below {Z : Nat} {w w1 w2 : World} (h : Calm Z w w1) (k : Below w1.heap.size w1 w2) : Calm Z w w2 :=
  ⟨Nat.le_trans h.size k.size, fun g h1 h2 => by have := h.size; rw [k.block g (by omega), h.blk g h1 h2]⟩
theorem Own.calm {α : Type} {w w' : World} {Z : Nat} {e : TypeId} {k : Nat} {enc : α → List Value} {v : Value} {xs : List α} (h : Own w Z e k enc v xs) (hc : Calm Z w w') : Own w' Z e k enc v xs := by
  refine ⟨h.1, ?_⟩
  rcases h.2 with hv | ⟨g, cap, cur, rfl, hbg, hg, rest⟩
  · exact .inl hv
  · refine .inr ⟨g, cap, cur, rfl, hbg, ?_, rest⟩
    rw [hc.blk g hbg (Array.getElem?_eq_some_iff.1 hg).1]
    exact hg
/-- How many parts are left. -/
def remTo (fs : List (List Pt)) (a : Nat → Nat) (n : Nat) : Nat := ((List.range n).map fun k => ln fs k - a k).sum
theorem remTo_succ (fs : List (List Pt)) (a : Nat → Nat) (n : Nat) : remTo fs a (n + 1) = remTo fs a n + (ln fs n - a n) := by
  simp [remTo, List.range_succ]
theorem remTo_le (fs : List (List Pt)) (a b : Nat → Nat) (n : Nat) (h : ∀ k, k < n → a k ≤ b k) : remTo fs b n ≤ remTo fs a n := by
  induction n with
  | zero => simp [remTo]
  | succ n ih =>
    have := ih fun k hk => h k (by omega)
    have := h n (by omega)
    rw [remTo_succ, remTo_succ]
    omega
theorem remTo_lt (fs : List (List Pt)) (a b : Nat → Nat) (n : Nat) (h : ∀ k, k < n → a k ≤ b k) (k : Nat) (hk : k < n) (h1 : a k < ln fs k) (h2 : a k < b k) : remTo fs b n < remTo fs a n := by
  induction n with
  | zero => omega
  | succ n ih =>
    rw [remTo_succ, remTo_succ]
    have h3 := h n (by omega)
    by_cases e : k = n
    · subst e
      have := remTo_le fs a b k fun j hj => h j (by omega)
      omega
    · have := ih (fun j hj => h j (by omega)) (by omega)
      omega
theorem rem_bump {fs : List (List Pt)} {a : Nat → Nat} (he : hasEmpty fs a = false) (hw : Within fs a) (hl : anyLag fs a = true) : remTo fs (bumpV fs (mostV fs a) a) fs.length < remTo fs a fs.length := by
  obtain ⟨k, hk, hlk⟩ := List.any_eq_true.1 hl
  have hk' := List.mem_range.1 hk
  refine remTo_lt fs a _ _ (fun j hj => ?_) k hk' (hasEmpty_no he hw hk') ?_
  · unfold bumpV; split <;> omega
  · unfold bumpV; rw [if_pos hlk]; omega
def lagTo (fs : List (List Pt)) (m : Int) (a : Nat → Nat) (k : Nat) : Bool := (List.range k).any (lag fs m a)
theorem lagTo_succ (fs : List (List Pt)) (m : Int) (a : Nat → Nat) (k : Nat) : lagTo fs m a (k + 1) = (lagTo fs m a k || lag fs m a k) := by
  simp [lagTo, List.range_succ]
def midB (fs : List (List Pt)) (m : Int) (a : Nat → Nat) (k : Nat) : Nat → Nat := fun j => if j < k then bumpV fs m a j else a j
theorem midB_zero (fs : List (List Pt)) (m : Int) (a : Nat → Nat) : midB fs m a 0 = a := by funext j; simp [midB]
theorem midB_keep (fs : List (List Pt)) (m : Int) (a : Nat → Nat) (k : Nat) (h : lag fs m a k = false) : midB fs m a (k + 1) = midB fs m a k := by
  funext j
  unfold midB
  by_cases e : j = k
  · subst e; simp [bumpV, h]
  · by_cases e2 : j < k
    · have : j < k + 1 := by omega
      simp [e2, this]
    · have : ¬ j < k + 1 := by omega
      simp [e2, this]
theorem midB_bump (fs : List (List Pt)) (m : Int) (a : Nat → Nat) (k : Nat) (h : lag fs m a k = true) : midB fs m a (k + 1) = upd (midB fs m a k) k (a k + 1) := by
  funext j
  unfold midB upd
  by_cases e : j = k
  · subst e; simp [bumpV, h]
  · by_cases e2 : j < k
    · have : j < k + 1 := by omega
      simp [e, e2, this]
    · have : ¬ j < k + 1 := by omega
      simp [e, e2, this]
theorem midB_at (fs : List (List Pt)) (m : Int) (a : Nat → Nat) (k : Nat) : midB fs m a k k = a k := by simp [midB]
def lessG (a : Nat → Nat) (G : Nat) : Nat → Int := fun k => (a k : Int) - G
theorem lessG_upd (a : Nat → Nat) (G k x : Nat) : lessG (upd a k x) G = upd (lessG a G) k ((x : Int) - G) := by
  funext j
  unfold lessG upd
  by_cases e : j = k
  · simp [e]
  · simp [e]
/-- What align hands back. -/
def alignRes : Option Int → Value
  | none => .tuple #[.int .i64 0, .bool false]
  | some m => .tuple #[.int .i64 m, .bool true]
def RetAlign (w0 w : World) (Z : Nat) (fs : List (List Pt)) (so : Nat → Option Addr) (sc : Nat → Nat) (mb bf cf : Nat) (fb a : Nat → Nat) (G : Nat) (vg vp : Value) (c : Nat) (e : Ending) (w' : World) : Prop :=
  ∃ r a', e = .returned (alignRes r) ∧ Align fs a r a' ∧ Mach w0 w' fs so sc mb bf cf fb a' (lessG a' G) vg vp c ∧ Calm Z w w'
end Go.Proofs.YtcpjpmijfjdifaaGreatDoor
