/-
  law4.piled. Own text.
-/
import Derived.Test.YtmfmpmemdplloaaWalkH
import Derived.Test.YtmfmpmemdplloaaNodeB
import Derived.Test.YtmfmpmemdplloaaWalkA2
import Derived.Test.YtmfmpmemdplloaaIn
import Derived.Test.YtmfmpmemdplloaaRegion
import Derived.Test.YtmfmpmemdplloaaWalkE
import Derived.Test.YtmfmpmemdplloaaCut
import Derived.Test.YtmfmpmemdplloaaPieces
namespace Go.Proofs.Ytmfmpmemdplloaa
open Go.RowKit
set_option linter.unusedVariables false
/-- What piled returns. -/
def RetPiled (r : Res) (w : World) (e : Ending) (w' : World) : Prop :=
  Below w.heap.size w w' ∧ ∃ kb, w.heap.size ≤ kb ∧ e = .returned (.tuple #[.pointer (some ⟨kb, 0, none⟩), .int .i64 r.code]) ∧ ∀ s, r = .ok s → ∃ iv rv, WalkerAt w' kb iv s rv
theorem new_pile (w : World) (T : TypeId) (oi : Option Addr) (ni ci : Nat) : WalkerAt (w.alloc (.cells #[.slice oi ni ci, .int .i64 0, .slice none 0 0, .int .i64 0] T)) w.heap.size (.slice oi ni ci) ⟨0, [], 0⟩ (.slice none 0 0) := by
  refine ⟨?_, ?_, ?_, ?_, fun i => ?_, Own.nil _ _ _ _ _⟩
  all_goals go_simp
theorem new_pile2 (w : World) (o : Obj) (T : TypeId) (oi : Option Addr) (ni ci : Nat) : WalkerAt ((w.alloc o).alloc (.cells #[.slice oi ni ci, .int .i64 0, .slice none 0 0, .int .i64 0] T)) (w.heap.size + 1) (.slice oi ni ci) ⟨0, [], 0⟩ (.slice none 0 0) := by
  have h := new_pile (w.alloc o) T oi ni ci
  have e : (w.alloc o).heap.size = w.heap.size + 1 := by simp
  rw [e] at h
  exact h
theorem piled_below {w w9 : World} {o o1 : Obj} {rv : Value} (h9 : Touch (w.heap.size + 1) (.slice none 0 0) rv ((w.alloc o).alloc o1) w9) : Below w.heap.size w w9 := by
  have a2 : Below (w.heap.size + 1) ((w.alloc o).alloc o1) w9 := h9.below (fun g hg => by cases hg) (by simp)
  exact (balloc (balloc (Below.refl _ w) o) o1).trans (a2.mono (by omega))
theorem beginV_in {W H : Int} {items : List Item} (h : beginV W H items = 0) : inB W 1 40 = true ∧ inB H 1 40 = true ∧ itemsErr items = 0 := by
  unfold beginV at h
  split at h
  · exact ⟨inB_yes (by omega) (by omega), inB_yes (by omega) (by omega), h⟩
  · omega
theorem beginV_bad {W H : Int} {items : List Item} (h : ¬ beginV W H items = 0) : (inB W 1 40 = false ∧ beginV W H items = 3) ∨ (inB W 1 40 = true ∧ inB H 1 40 = false ∧ beginV W H items = 3) ∨ (inB W 1 40 = true ∧ inB H 1 40 = true ∧ beginV W H items = itemsErr items ∧ itemsErr items ≠ 0) := by
  unfold beginV at *
  unfold inB
  simp only [decide_eq_true_eq, decide_eq_false_iff_not]
  split at h
  · rename_i h1
    rw [if_pos h1]
    exact .inr (.inr ⟨by omega, by omega, rfl, h⟩)
  · rename_i h1
    rw [if_neg h1]
    by_cases h2 : 1 ≤ W ∧ W ≤ 40
    · exact .inr (.inl ⟨h2, by omega, rfl⟩)
    · exact .inl ⟨h2, rfl⟩
end Go.Proofs.Ytmfmpmemdplloaa
