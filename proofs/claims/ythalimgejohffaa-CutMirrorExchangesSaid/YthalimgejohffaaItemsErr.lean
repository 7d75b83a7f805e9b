/-
  law4.itemsError. Own text.
-/
import Derived.Test.YthalimgejohffaaCut
namespace Go.Proofs.Ythalimgejohffaa
open Go.RowKit
set_option linter.unusedVariables false
set_option maxHeartbeats 2000000 in
theorem itemsError_any (oa : Option Addr) (xs : List Item) (cap : Nat) (w : World) (hm : xs.length ≤ maxLen) (hx : Flat w 4 encItem oa xs) :
    Calls Try.prog 15 #[.slice oa xs.length cap] w fun e w' => e = .returned (.int .i64 (itemsErr xs)) ∧ w = w' := by
  have hm9 : xs.length ≤ 9223372036854775807 := by unfold maxLen at hm; omega
  by_cases h8 : 8 < xs.length
  · have E : Hid (itemsErr xs = 2) := by show itemsErr xs = 2; unfold itemsErr; rw [if_pos h8]
    go_enter Try.func15, Try.ntmps15
    go_wp2
    go_ret
    exact ⟨by rw [E.out]; rfl, rfl⟩
  · go_enter Try.func15, Try.ntmps15
    go_wp2
    go_loop [9] (fun i => ∃ k : Nat, k ≤ xs.length ∧ i = .int .i64 k ∧ AllTo pieceOk xs k) (fun i => xs.length - (intOf i).toNat)
    case atStart => exact ⟨0, by omega, rfl, AllTo.zero _ _⟩
    case round =>
      obtain ⟨k, hk, rfl, hall⟩ := hrel
      by_cases hlt : k < xs.length
      · obtain ⟨b, off, rfl, c0, c1, c2, c3⟩ := hx.item hlt
        by_cases hp : pieceOk xs[k] = true
        · have hall' := hall.succ hlt hp
          obtain ⟨i1, i2, i3, i4, i5, i6⟩ := of_decide_eq_true hp
          have j1 : inB xs[k].w 1 40 = true := inB_yes i1 i2
          have j2 : inB xs[k].h 1 40 = true := inB_yes i3 i4
          have j3 : inB xs[k].value 0 1000 = true := inB_yes i5 i6
          clear hp hall
          go_wp2_with (go_at_call 23; refine (in_any _ _ _ _).mono ?_; rintro e w' ⟨rfl, rfl⟩)
          go_round
          case rel => exact ⟨k + 1, by omega, by go_num, hall'⟩
          case measure => simp [intOf]; omega
        · have hp0 : pieceOk xs[k] = false := by simpa using hp
          have E : Hid (itemsErr xs = 3) := itemsErr_bad h8 hlt hp0
          have hn : ¬ (1 ≤ xs[k].w ∧ xs[k].w ≤ 40 ∧ 1 ≤ xs[k].h ∧ xs[k].h ≤ 40 ∧ 0 ≤ xs[k].value ∧ xs[k].value ≤ 1000) := of_decide_eq_false hp0
          have hn2 : inB xs[k].w 1 40 = false ∨ (inB xs[k].w 1 40 = true ∧ inB xs[k].h 1 40 = false) ∨ (inB xs[k].w 1 40 = true ∧ inB xs[k].h 1 40 = true ∧ inB xs[k].value 0 1000 = false) := by
            unfold inB
            simp only [decide_eq_true_eq, decide_eq_false_iff_not]
            omega
          clear hp hp0 hn hall
          rcases hn2 with a1 | ⟨a1, a2⟩ | ⟨a1, a2, a3⟩
          all_goals
            go_wp2_with (go_at_call 23; refine (in_any _ _ _ _).mono ?_; rintro e w' ⟨rfl, rfl⟩)
            go_ret
            exact ⟨by rw [E.out]; rfl, rfl⟩
      · have E : Hid (itemsErr xs = 0) := itemsErr_ok h8 hall (by omega)
        clear hall
        go_wp2
        go_ret
        exact ⟨by rw [E.out]; rfl, rfl⟩
end Go.Proofs.Ythalimgejohffaa
