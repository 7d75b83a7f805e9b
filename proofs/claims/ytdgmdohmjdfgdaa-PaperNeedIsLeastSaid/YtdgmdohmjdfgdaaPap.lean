/-
  Walks for PaperYieldMatchesReference. Own text.
-/
import Derived.Test.YtdgmdohmjdfgdaaStep
import Derived.Test.YtdgmdohmjdfgdaaRef
namespace Go.Proofs.Ytdgmdohmjdfgdaa
open Go.RowKit
set_option linter.unusedVariables false
set_option maxHeartbeats 400000 in
theorem certain_any (s p x : Int) (w : World) (h0 : 0 ≤ s) (h1 : s ≤ 1073741824) (h2 : 0 ≤ p) (h3 : p ≤ 999) (h4 : -1 ≤ x) (h5 : x ≤ 1073741825) :
    Calls Try.prog 17 #[.agg #[.int .i64 s, .int .i64 p], .int .i64 x] w fun e w' => e = .returned (.int .i64 (afterV s p x)) ∧ Below w.heap.size w w' := by
  by_cases h : x ≤ s
  · have E1 := Lib.hid (after_le (p := p) h)
    go_enter Try.func17, Try.ntmps17
    go_wp2_with (go_at_call 25; refine (Ceil_any _ _ _ (by omega) (by omega) (by omega) (by omega)).mono ?_; rintro e w' ⟨rfl, rfl⟩)
    go_ret
    exact ⟨by rw [E1.out]; rfl, (Below.refl _ _).alloc (Nat.le_refl _) _⟩
  · have E1 := Lib.hid (after_gt (p := p) h)
    have q1 : 0 ≤ (x - s) * p := Int.mul_nonneg (by omega) h2
    have q2 : (x - s) * p ≤ (x - s) * 999 := Int.mul_le_mul_of_nonneg_left h3 (by omega)
    go_enter Try.func17, Try.ntmps17
    go_wp2_with (go_at_call 25; refine (Ceil_any _ _ _ (by omega) (by omega) (by omega) (by omega)).mono ?_; rintro e w' ⟨rfl, rfl⟩)
    go_ret
    exact ⟨by rw [E1.out]; rfl, (Below.refl _ _).alloc (Nat.le_refl _) _⟩
set_option maxHeartbeats 400000 in
theorem stepsError_any (oa : Option Addr) (xs : List (Int × Int)) (cap : Nat) (w : World) (hm : xs.length ≤ maxLen) (hx : Flat w 2 encInt2 oa xs) :
    Calls Try.prog 15 #[.slice oa xs.length cap] w fun e w' => e = .returned (.int .i64 (chk xs)) ∧ Below w.heap.size w w' := by
  have hm : xs.length ≤ 9223372036854775807 := by unfold maxLen at hm; omega
  by_cases h16 : 16 < xs.length
  · have e1 : chk xs = 2 := if_pos h16
    have E1 := Lib.hid e1; clear e1
    go_enter Try.func15, Try.ntmps15
    go_wp2
    go_ret
    exact ⟨by rw [E1.out]; rfl, Below.refl _ _⟩
  · go_enter Try.func15, Try.ntmps15
    go_wp2
    go_loopw [10] (fun i wr => ∃ k : Nat, k ≤ xs.length ∧ i = .int .i64 k ∧ AllTo stepOk xs k ∧ Below w.heap.size w wr) (fun i _ => xs.length - (intOf i).toNat)
    case atStart => exact ⟨0, by omega, rfl, AllTo.zero _ _, Below.refl _ _⟩
    case round =>
      obtain ⟨k, hk, rfl, hok, hb⟩ := hrel
      by_cases hlt : k < xs.length
      · obtain ⟨b, off, rfl, hc1, hc2⟩ := (hx.below hb).int2 hlt
        by_cases hs : stepOk xs[k] = true
        · have hok' := hok.succ hlt hs
          obtain ⟨h1, h2, h3, h4⟩ := of_decide_eq_true hs
          have i1 := inB_yes h1 h2
          have i2 : inB xs[k].2 0 999 = true := inB_yes h3 (by omega)
          go_wp2_with (go_at_call 11; refine (in_any _ _ _ _).mono ?_; rintro e w' ⟨rfl, rfl⟩)
          go_roundw
          case rel => exact ⟨k + 1, by omega, by go_num, hok', balloc hb _⟩
          case measure => simp [intOf]; omega
        · have hs0 : stepOk xs[k] = false := by simpa using hs
          have h5 : ¬ (0 ≤ xs[k].1 ∧ xs[k].1 ≤ 1073741824 ∧ 0 ≤ xs[k].2 ∧ xs[k].2 < 1000) := of_decide_eq_false hs0
          have h6 : inB xs[k].1 0 1073741824 = false ∨ (inB xs[k].1 0 1073741824 = true ∧ inB xs[k].2 0 999 = false) := by
            unfold inB
            simp only [decide_eq_true_eq, decide_eq_false_iff_not]
            omega
          have e1 : chk xs = 3 := by unfold chk; rw [if_neg h16, all_no hlt hs0]; rfl
          have E1 := Lib.hid e1; clear e1 h5
          rcases h6 with h6 | ⟨h6, h7⟩
          all_goals
            go_wp2_with (go_at_call 11; refine (in_any _ _ _ _).mono ?_; rintro e w' ⟨rfl, rfl⟩)
            go_ret
            exact ⟨by rw [E1.out]; rfl, balloc hb _⟩
      · have e1 : chk xs = 0 := by unfold chk; rw [if_neg h16, hok.all (by omega)]; rfl
        have E1 := Lib.hid e1; clear e1
        go_wp2
        go_ret
        exact ⟨by rw [E1.out]; rfl, hb⟩
theorem papers_lit : chk [((10 : Int), (100 : Int))] = 0 ∧ yieldV [((10 : Int), (100 : Int))] 30 = 18 := by decide
set_option maxHeartbeats 400000 in
theorem papers_any (w : World) : Calls Try.prog 12 #[] w fun e w' => e = .returned (.bool true) ∧ Below w.heap.size w w' := by
  have E := Lib.hid papers_lit.2
  go_enter Try.func12, Try.ntmps12
  go_wp2_with fail
  refine (yield_ok (some ⟨w.heap.size, 0, none⟩) [((10 : Int), (100 : Int))] 1 30 _ (by decide) (Flat.lit1 w 2 encInt2 (10, 100) 36 rfl) papers_lit.1 (by omega) (by omega)).mono ?_
  rintro e w' ⟨rfl, hb⟩
  rw [E.out]
  go_wp2
  go_ret
  exact ⟨rfl, balloc_lt _ _ hb⟩
end Go.Proofs.Ytdgmdohmjdfgdaa
