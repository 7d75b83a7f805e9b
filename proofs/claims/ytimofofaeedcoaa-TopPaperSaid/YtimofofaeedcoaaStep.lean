/-
  Walks of package paper. Own text.
-/
import Derived.Test.YtimofofaeedcoaaRows
import Derived.Test.YtimofofaeedcoaaInk
import Derived.Test.YtimofofaeedcoaaRead
import Derived.WalkKit
import Derived.WalkSpells
import Derived.WalkLawsBesides
import Derived.Deep.QuietTactic
import Derived.BigQuiet
namespace Go.Proofs.Ytimofofaeedcoaa
open Go.RowKit
set_option linter.unusedVariables false
set_option maxHeartbeats 400000 in
theorem check_any (oa : Option Addr) (xs : List (Int × Int)) (cap : Nat) (w : World) (hm : xs.length ≤ maxLen) (hx : Flat w 2 encInt2 oa xs) :
    Calls Try.prog 7 #[.slice oa xs.length cap] w fun e w' => e = .returned (.int .i64 (chk xs)) ∧ Below w.heap.size w w' := by
  have hm : xs.length ≤ 9223372036854775807 := by unfold maxLen at hm; omega
  by_cases h16 : 16 < xs.length
  · have e1 : chk xs = 2 := if_pos h16
    have E1 := Lib.hid e1; clear e1
    go_enter Try.func7, Try.ntmps7
    go_wp2
    go_ret
    exact ⟨by rw [E1.out]; rfl, Below.refl _ _⟩
  · go_enter Try.func7, Try.ntmps7
    go_wp2
    go_loopw [10] (fun i wr => ∃ k : Nat, k ≤ xs.length ∧ i = .int .i64 k ∧ AllTo stepOk xs k ∧ Below w.heap.size w wr) (fun i _ => xs.length - (intOf i).toNat)
    case atStart => exact ⟨0, by omega, rfl, AllTo.zero _ _, Below.refl _ _⟩
    case round =>
      obtain ⟨k, hk, rfl, hok, hb⟩ := hrel
      by_cases hlt : k < xs.length
      · obtain ⟨b, off, rfl, hc1, hc2⟩ := (hx.below hb).int2 hlt
        by_cases hs : stepOk xs[k] = true
        · have hok' := hok.succ hlt hs
          obtain ⟨h1, h2, h3, h4⟩ := of_decide_eq_true hs
          go_wp2
          go_roundw
          case rel => exact ⟨k + 1, by omega, by go_num, hok', hb.alloc hb.size _⟩
          case measure => simp [intOf]; omega
        · have hs0 : stepOk xs[k] = false := by simpa using hs
          have h5 : ¬ (0 ≤ xs[k].1 ∧ xs[k].1 ≤ 1073741824 ∧ 0 ≤ xs[k].2 ∧ xs[k].2 < 1000) := of_decide_eq_false hs0
          have e1 : chk xs = 3 := by unfold chk; rw [if_neg h16, all_no hlt hs0]; rfl
          have E1 := Lib.hid e1; clear e1
          go_wp2
          all_goals
            go_ret
            exact ⟨by rw [E1.out]; rfl, hb.alloc hb.size _⟩
      · have e1 : chk xs = 0 := by unfold chk; rw [if_neg h16, hok.all (by omega)]; rfl
        have E1 := Lib.hid e1; clear e1
        go_wp2
        go_ret
        exact ⟨by rw [E1.out]; rfl, hb⟩
theorem after_le {s p x : Int} (h : x ≤ s) : afterV s p x = 0 := if_pos h
theorem after_gt {s p x : Int} (h : ¬ x ≤ s) : afterV s p x = (x - s) - ((x - s) * p + 1000 - 1) / 1000 := if_neg h
set_option maxHeartbeats 400000 in
theorem after_any (s p x : Int) (w : World) (h0 : 0 ≤ s) (h1 : s ≤ 1073741824) (h2 : 0 ≤ p) (h3 : p ≤ 999) (h4 : 0 ≤ x) (h5 : x ≤ 1073741824) :
    Calls Try.prog 21 #[.agg #[.int .i64 s, .int .i64 p], .int .i64 x] w fun e w' => e = .returned (.int .i64 (afterV s p x)) ∧ Below w.heap.size w w' := by
  by_cases h : x ≤ s
  · have E1 := Lib.hid (after_le (p := p) h)
    have g1 : IntKind.i64.wrap (x - s) = x - s := IntWalk.i64_in _ (by omega)
    go_enter Try.func21, Try.ntmps21
    go_wp2
    go_quiet ((go_at_call 23; exact quiet_eq (up_any _ _ _ (by omega) (by omega) (by omega) (by omega))))
    go_wp2
    go_ret
    exact ⟨by rw [E1.out]; rfl, bdrewN ((Below.refl _ _).alloc (Nat.le_refl _) _) _⟩
  · have E1 := Lib.hid (after_gt (p := p) h)
    have q1 : 0 ≤ (x - s) * p := Int.mul_nonneg (by omega) h2
    have q2 : (x - s) * p ≤ (x - s) * 999 := Int.mul_le_mul_of_nonneg_left h3 (by omega)
    have g1 : IntKind.i64.wrap (x - s) = x - s := IntWalk.i64_in _ (by omega)
    have g2 : IntKind.i64.wrap ((x - s) * p) = (x - s) * p := IntWalk.i64_in _ (by omega)
    have g4 : 0 ≤ (x - s) - ((x - s) * p + 1000 - 1) / 1000 := by omega
    have g3 : IntKind.i64.wrap ((x - s) - ((x - s) * p + 1000 - 1) / 1000) = (x - s) - ((x - s) * p + 1000 - 1) / 1000 := IntWalk.i64_in _ (by omega)
    have E2 : (if 0 < (x - s) - ((x - s) * p + 1000 - 1) / 1000 then (x - s) - ((x - s) * p + 1000 - 1) / 1000 else 0) = (x - s) - ((x - s) * p + 1000 - 1) / 1000 := by split <;> omega
    go_enter Try.func21, Try.ntmps21
    go_wp2
    go_quiet ((go_at_call 23; exact quiet_eq (up_any _ _ _ (by omega) (by omega) (by omega) (by omega))))
    go_wp2
    all_goals
      go_ret
      exact ⟨by rw [E1.out]; first | rfl | exact ret_int (by omega), bdrewN ((Below.refl _ _).alloc (Nat.le_refl _) _) _⟩
set_option maxHeartbeats 400000 in
theorem yield_bad (oa : Option Addr) (xs : List (Int × Int)) (cap : Nat) (n : Int) (w : World) (hm : xs.length ≤ maxLen) (hx : Flat w 2 encInt2 oa xs) (hc : (chk xs != 0) = true) :
    Calls Try.prog 8 #[.slice oa xs.length cap, .int .i64 n] w fun e w' => e = .returned (.tuple #[.int .i64 0, .int .i64 (chk xs)]) ∧ Below w.heap.size w w' := by
  go_enter Try.func8, Try.ntmps8
  go_wp2_with (go_at_call 7; refine (check_any _ _ _ _ hm hx).mono ?_; rintro e w' ⟨rfl, hb⟩)
  go_ret2
  exact ⟨rfl, hb⟩
set_option maxHeartbeats 400000 in
theorem yield_far (oa : Option Addr) (xs : List (Int × Int)) (cap : Nat) (n : Int) (w : World) (hm : xs.length ≤ maxLen) (hx : Flat w 2 encInt2 oa xs) (hc : chk xs = 0) (hn : n < 0 ∨ 1073741824 < n) :
    Calls Try.prog 8 #[.slice oa xs.length cap, .int .i64 n] w fun e w' => e = .returned (.tuple #[.int .i64 0, .int .i64 3]) ∧ Below w.heap.size w w' := by
  rcases hn with hn | hn
  all_goals
    go_enter Try.func8, Try.ntmps8
    go_wp2_with (go_at_call 7; refine (check_any _ _ _ _ hm hx).mono ?_; rintro e w' ⟨rfl, hb⟩)
    go_ret2
    exact ⟨rfl, hb⟩
set_option maxHeartbeats 400000 in
theorem yield_ok (oa : Option Addr) (xs : List (Int × Int)) (cap : Nat) (n : Int) (w : World) (hm : xs.length ≤ maxLen) (hx : Flat w 2 encInt2 oa xs) (hc : chk xs = 0) (h0 : 0 ≤ n) (h1 : n ≤ 1073741824) :
    Calls Try.prog 8 #[.slice oa xs.length cap, .int .i64 n] w fun e w' => e = .returned (.tuple #[.int .i64 (yieldV xs n), .int .i64 0]) ∧ Below w.heap.size w w' := by
  obtain ⟨hl, hxs⟩ := chk_zero hc
  have HX := Lib.hid hxs; clear hxs
  go_enter Try.func8, Try.ntmps8
  go_wp2_with (go_at_call 7; refine (check_any _ _ _ _ hm hx).mono ?_; rintro e w' ⟨rfl, hb⟩)
  go_loopw [1, 22] (fun v i wr => ∃ k : Nat, k ≤ xs.length ∧ i = .int .i64 k ∧ v = .int .i64 (yieldV (xs.take k) n) ∧ Below w.heap.size w wr) (fun _ i _ => xs.length - (intOf i).toNat)
  case atStart => exact ⟨0, by omega, rfl, rfl, hb⟩
  case round =>
    obtain ⟨k, hk, rfl, rfl, hb1⟩ := hrel
    by_cases hlt : k < xs.length
    · obtain ⟨b, off, rfl, hc1, hc2⟩ := (hx.below hb1).int2 hlt
      have hy := yield_bd (xs := xs.take k) (fun x hx => HX.out x (List.mem_of_mem_take hx)) h0
      have hs := HX.out xs[k] (List.getElem_mem hlt)
      have E := Lib.hid (yield_step hlt n)
      go_wp2_with (go_at_call 21; refine (after_any _ _ _ _ (by omega) (by omega) (by omega) (by omega) (by omega) (by omega)).mono ?_; rintro e w2 ⟨rfl, hb2⟩)
      go_roundw
      case rel => exact ⟨k + 1, by omega, by go_num, by rw [E.out], (hb1.alloc hb1.size _).trans (hb2.mono (by have := hb1.size; simp; omega))⟩
      case measure => simp [intOf]; omega
    · have E := Lib.hid (show xs.take k = xs from List.take_of_length_le (by omega))
      go_wp2
      go_ret2
      exact ⟨by rw [E.out]; rfl, hb1⟩
theorem sElemInt : ElemType Try.prog 3 (.int .i64 0) 1 8 := ElemType.mk (by kernel_rfl) rfl (by decide)
/-- Returns a new slice of ints and an error's number. -/
def RetInts (xs : List Int) (n : Int) (w : World) (e : Ending) (w' : World) : Prop :=
  ∃ oa cap, e = .returned (.tuple #[.slice oa xs.length cap, .int .i64 n]) ∧ xs.length ≤ maxLen ∧ Flat w' 1 encInt oa xs ∧ Below w.heap.size w w'
end Go.Proofs.Ytimofofaeedcoaa
