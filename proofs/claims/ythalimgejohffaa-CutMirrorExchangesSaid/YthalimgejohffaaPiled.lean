/-
  law4.piled. Own text.
-/
import Derived.Test.YthalimgejohffaaNodeH
import Derived.Test.YthalimgejohffaaItemsErr
import Derived.Test.YthalimgejohffaaPieces
namespace Go.Proofs.Ythalimgejohffaa
open Go.RowKit
set_option linter.unusedVariables false
/-- What piled returns. -/
def RetPiled (r : Res) (w : World) (e : Ending) (w' : World) : Prop :=
  Below w.heap.size w w' ∧ ∃ kb, w.heap.size ≤ kb ∧ e = .returned (.tuple #[.pointer (some ⟨kb, 0, none⟩), .int .i64 r.code]) ∧ ∀ s, r = .ok s → ∃ iv rv, WalkerAt w' kb iv s rv
theorem new_pile (w : World) (T : TypeId) (oi : Option Addr) (ni ci : Nat) : WalkerAt (w.alloc (.cells #[.slice oi ni ci, .int .i64 0, .slice none 0 0, .int .i64 0] T)) w.heap.size (.slice oi ni ci) ⟨0, [], 0⟩ (.slice none 0 0) := by
  refine ⟨?_, ?_, ?_, ?_, fun i => ?_, Own.nil _ _ _ _ _⟩
  all_goals go_simp
theorem new_pile2 (w : World) (o : Obj) (T : TypeId) (oi : Option Addr) (ni ci : Nat) : WalkerAt ((w.alloc o).alloc (.cells #[.slice oi ni ci, .int .i64 0, .slice none 0 0, .int .i64 0] T)) (w.heap.size + 1) (.slice oi ni ci) ⟨0, [], 0⟩ (.slice none 0 0) := by
  have h := new_pile (w.alloc o) T oi ni ci
  have e : (w.alloc o).heap.size = w.heap.size + 1 := by simp
  rw [e] at h
  exact h
theorem piled_below {w w9 : World} {o o1 : Obj} {rv : Value} (h9 : Touch (w.heap.size + 1) (.slice none 0 0) rv ((w.alloc o).alloc o1) w9) : Below w.heap.size w w9 := by
  have a2 : Below (w.heap.size + 1) ((w.alloc o).alloc o1) w9 := h9.below (fun g hg => by cases hg) (by simp)
  exact (balloc (balloc (Below.refl _ w) o) o1).trans (a2.mono (by omega))
theorem beginV_in {W H : Int} {items : List Item} (h : beginV W H items = 0) : inB W 1 40 = true ∧ inB H 1 40 = true ∧ itemsErr items = 0 := by
  unfold beginV at h
  split at h
  · exact ⟨inB_yes (by omega) (by omega), inB_yes (by omega) (by omega), h⟩
  · omega
theorem beginV_bad {W H : Int} {items : List Item} (h : ¬ beginV W H items = 0) : (inB W 1 40 = false ∧ beginV W H items = 3) ∨ (inB W 1 40 = true ∧ inB H 1 40 = false ∧ beginV W H items = 3) ∨ (inB W 1 40 = true ∧ inB H 1 40 = true ∧ beginV W H items = itemsErr items ∧ itemsErr items ≠ 0) := by
  unfold beginV at *
  unfold inB
  simp only [decide_eq_true_eq, decide_eq_false_iff_not]
  split at h
  · rename_i h1
    rw [if_pos h1]
    exact .inr (.inr ⟨by omega, by omega, rfl, h⟩)
  · rename_i h1
    rw [if_neg h1]
    by_cases h2 : 1 ≤ W ∧ W ≤ 40
    · exact .inr (.inl ⟨h2, by omega, rfl⟩)
    · exact .inl ⟨h2, rfl⟩
set_option maxRecDepth 100000 in
set_option maxHeartbeats 4000000 in
theorem piled_any (W H : Int) (oi : Option Addr) (items : List Item) (ci : Nat) (t : Tree) (k a i : Int) (oa : Option Addr) (nk cap : Nat) (w : World) (hm : items.length ≤ maxLen) (hx : Flat w 4 encItem oi items) (hT : TreeAt w t [.int .i64 k, .int .i64 a, .int .i64 i, .slice oa nk cap]) :
    Calls Try.prog 13 #[.int .i64 W, .int .i64 H, .slice oi items.length ci, .agg #[.int .i64 k, .int .i64 a, .int .i64 i, .slice oa nk cap]] w (RetPiled (piecesV W H items t) w) := by
  have hil : (items.length : Int) ≤ 9223372036854775807 := by unfold maxLen at hm; omega
  have hb1 : Hid (Below w.heap.size w ((w.alloc (.cells #[.int .i64 k, .int .i64 a, .int .i64 i, .slice oa nk cap] 25)).alloc (.cells #[.slice oi items.length ci, .int .i64 0, .slice none 0 0, .int .i64 0] 39))) := balloc (balloc (Below.refl _ w) _) _
  by_cases hz : beginV W H items = 0
  · have hbx := beginV_zero hz
    obtain ⟨hw1, hh1, hi1⟩ := beginV_in hz
    have E : Hid (piecesV W H items t = walkV items 80 t 0 0 W H ⟨0, [], 0⟩) := by show piecesV W H items t = _; unfold piecesV; rw [if_neg (by rw [hz]; omega)]
    have HI := Lib.hid hi1; clear hi1 hz
    have hbx := Lib.hid hbx
    have hx2 := Lib.hid hx
    have hT2 := Lib.hid hT
    have hxm := Lib.hid (hx.below (balloc (balloc (Below.refl _ w) (.cells #[.int .i64 k, .int .i64 a, .int .i64 i, .slice oa nk cap] 25)) (.cells #[.slice oi items.length ci, .int .i64 0, .slice none 0 0, .int .i64 0] 39)))
    clear hx hT
    go_enter Try.func13, Try.ntmps13
    go_wp2_with (first
      | (go_at_call 23; refine (in_any _ _ _ _).mono ?_; rintro e w' ⟨rfl, rfl⟩)
      | (go_at_call 15; refine (itemsError_any _ _ _ _ hm hxm.out).mono ?_; rintro e w' ⟨rfl, rfl⟩; rw [HI.out])
      | (go_at_call 33; refine (node_any items oi ci w hx2.out hil 80 t _ 0 0 W H 0 ⟨0, [], 0⟩ (w.heap.size + 1) (.slice none 0 0) _ (by omega) (by omega) hT2.out hbx.out good0 (by omega) hb1.out (new_pile2 w _ _ oi items.length ci)).mono ?_; intro e w9 hpost; obtain ⟨rv2, hT9, rfl, hwa⟩ := hpost.touch; clear hpost))
    go_ret2
    rw [E.out]
    exact ⟨piled_below hT9, w.heap.size + 1, by omega, rfl, fun s hs => ⟨_, rv2, hwa s hs⟩⟩
  · have E : Hid (piecesV W H items t = .err (beginV W H items)) := by show piecesV W H items t = _; unfold piecesV; rw [if_pos hz]
    have hxm := Lib.hid (hx.below (balloc (balloc (Below.refl _ w) (.cells #[.int .i64 k, .int .i64 a, .int .i64 i, .slice oa nk cap] 25)) (.cells #[.slice oi items.length ci, .int .i64 0, .slice none 0 0, .int .i64 0] 39)))
    clear hT hx
    rcases beginV_bad hz with ⟨h1, h2⟩ | ⟨h1, h2, h3⟩ | ⟨h1, h2, h3, h4⟩
    · have E2 := Lib.hid h2; clear h2 hz
      go_enter Try.func13, Try.ntmps13
      go_wp2_with (go_at_call 23; refine (in_any _ _ _ _).mono ?_; rintro e w' ⟨rfl, rfl⟩)
      go_ret2
      rw [E.out, E2.out]
      exact ⟨hb1.out, w.heap.size + 1, by omega, rfl, fun s hs => by cases hs⟩
    · have E2 := Lib.hid h3; clear h3 hz
      go_enter Try.func13, Try.ntmps13
      go_wp2_with (go_at_call 23; refine (in_any _ _ _ _).mono ?_; rintro e w' ⟨rfl, rfl⟩)
      go_ret2
      rw [E.out, E2.out]
      exact ⟨hb1.out, w.heap.size + 1, by omega, rfl, fun s hs => by cases hs⟩
    · have E2 := Lib.hid h3; clear h3 hz
      have h5 : (itemsErr items != 0) = true := by simpa using h4
      clear h4
      go_enter Try.func13, Try.ntmps13
      go_wp2_with (first
        | (go_at_call 23; refine (in_any _ _ _ _).mono ?_; rintro e w' ⟨rfl, rfl⟩)
        | (go_at_call 15; refine (itemsError_any _ _ _ _ hm hxm.out).mono ?_; rintro e w' ⟨rfl, rfl⟩))
      go_ret2
      rw [E.out, E2.out]
      exact ⟨hb1.out, w.heap.size + 1, by omega, rfl, fun s hs => by cases hs⟩
end Go.Proofs.Ythalimgejohffaa
