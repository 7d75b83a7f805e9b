/-
  Walks of paper.before and paper.Need. Own text.
-/
import Derived.Test.YtimofofaeedcoaaStep
import Derived.Test.YtimofofaeedcoaaNeedV
namespace Go.Proofs.Ytimofofaeedcoaa
open Go.RowKit
set_option linter.unusedVariables false
theorem before_zero (s p : Int) : beforeV s p 0 = 0 := if_pos rfl
theorem before_pos {s p g : Int} (h : g ≠ 0) : beforeV s p g = (g * 1000 + (1000 - p) - 1) / (1000 - p) + s := if_neg h
set_option maxHeartbeats 400000 in
theorem before_any (s p g : Int) (w : World) (h0 : 0 ≤ s) (h1 : s ≤ 1073741824) (h2 : 0 ≤ p) (h3 : p ≤ 999) (h4 : 0 ≤ g) (h5 : g ≤ 1073741824) :
    Calls Try.prog 12 #[.agg #[.int .i64 s, .int .i64 p], .int .i64 g] w fun e w' => e = .returned (.int .i64 (beforeV s p g)) ∧ Below w.heap.size w w' := by
  by_cases hg : g = 0
  · subst hg
    have E := Lib.hid (before_zero s p)
    go_enter Try.func12, Try.ntmps12
    go_wp2
    go_ret
    exact ⟨by rw [E.out]; rfl, (Below.refl _ _).alloc (Nat.le_refl _) _⟩
  · have E := Lib.hid (before_pos (s := s) (p := p) hg)
    have hg2 : (g == 0) = false := by simpa using hg
    have hu := up_bd (a := g * 1000) (b := 1000 - p) (by omega) (by omega)
    clear hg
    go_enter Try.func12, Try.ntmps12
    go_wp2_with (go_at_call 23; refine (up_any _ _ _ (by omega) (by omega) (by omega) (by omega)).mono ?_; rintro e w' ⟨rfl, rfl⟩)
    go_ret
    exact ⟨by rw [E.out]; rfl, (Below.refl _ _).alloc (Nat.le_refl _) _⟩
set_option maxHeartbeats 400000 in
theorem need_bad (oa : Option Addr) (xs : List (Int × Int)) (cap : Nat) (n : Int) (w : World) (hm : xs.length ≤ maxLen) (hx : Flat w 2 encInt2 oa xs) (hc : (chk xs != 0) = true) :
    Calls Try.prog 4 #[.slice oa xs.length cap, .int .i64 n] w fun e w' => e = .returned (.tuple #[.int .i64 0, .int .i64 (chk xs)]) ∧ Below w.heap.size w w' := by
  go_enter Try.func4, Try.ntmps4
  go_wp2_with (go_at_call 7; refine (check_any _ _ _ _ hm hx).mono ?_; rintro e w' ⟨rfl, hb⟩)
  go_ret2
  exact ⟨rfl, hb⟩
set_option maxHeartbeats 400000 in
theorem need_far (oa : Option Addr) (xs : List (Int × Int)) (cap : Nat) (n : Int) (w : World) (hm : xs.length ≤ maxLen) (hx : Flat w 2 encInt2 oa xs) (hc : chk xs = 0) (hn : n < 0 ∨ 1073741824 < n) :
    Calls Try.prog 4 #[.slice oa xs.length cap, .int .i64 n] w fun e w' => e = .returned (.tuple #[.int .i64 0, .int .i64 3]) ∧ Below w.heap.size w w' := by
  rcases hn with hn | hn
  all_goals
    go_enter Try.func4, Try.ntmps4
    go_wp2_with (go_at_call 7; refine (check_any _ _ _ _ hm hx).mono ?_; rintro e w' ⟨rfl, hb⟩)
    go_ret2
    exact ⟨rfl, hb⟩
set_option maxHeartbeats 1000000 in
theorem need_ok (oa : Option Addr) (xs : List (Int × Int)) (cap : Nat) (n : Int) (w : World) (hm : xs.length ≤ maxLen) (hx : Flat w 2 encInt2 oa xs) (hc : chk xs = 0) (h0 : 0 ≤ n) (h1 : n ≤ 1073741824) :
    Calls Try.prog 4 #[.slice oa xs.length cap, .int .i64 n] w fun e w' => e = .returned (.tuple #[.int .i64 (needR xs n).1, .int .i64 (needR xs n).2]) ∧ Below w.heap.size w w' := by
  obtain ⟨hl, hxs⟩ := chk_zero hc
  have HX := Lib.hid (show GoodSteps xs from hxs); clear hxs
  have HC := Lib.hid hc; clear hc
  go_enter Try.func4, Try.ntmps4
  go_wp2_with (go_at_call 7; refine (check_any _ _ _ _ hm hx).mono ?_; rintro e w' ⟨rfl, hb⟩; rw [HC.out])
  go_loopw [1, 7] (fun v i wr => ∃ (k : Nat) (g : Int), k ≤ xs.length ∧ i = .int .i64 ((k : Int) - 1) ∧ v = .int .i64 g ∧ 0 ≤ g ∧ g ≤ 1073741824 ∧ needL (xs.drop k) n = some g ∧ Below w.heap.size w wr) (fun _ i _ => (intOf i + 1).toNat)
  case atStart => exact ⟨xs.length, n, by omega, rfl, rfl, h0, h1, by simp [needL], hb⟩
  case round =>
    obtain ⟨k, g, hk, rfl, rfl, hg0, hg1, hnd, hb1⟩ := hrel
    have HN := Lib.hid hnd; clear hnd
    cases k with
    | zero =>
      have E : Hid (needR xs n = (g, 0)) := by have := HN.out; simp only [List.drop_zero] at this; unfold needR; rw [this]; rfl
      go_wp2
      go_ret2
      exact ⟨by rw [E.out]; rfl, hb1⟩
    | succ j =>
      have hlt : j < xs.length := by omega
      rw [show ((j + 1 : Nat) : Int) - 1 = (j : Int) by omega]
      obtain ⟨b, off, rfl, hc1, hc2⟩ := (hx.below hb1).int2 hlt
      have hs := HX.out xs[j] (List.getElem_mem hlt)
      have hbd := before_bd (g := g) hs.1 hs.2.2.1 hs.2.2.2 hg0
      have hst := needL_step hlt HN.out
      by_cases hgt : 1073741824 < beforeV xs[j].1 xs[j].2 g
      · rw [if_pos hgt] at hst
        have E : Hid (needR xs n = (0, 10)) := by unfold needR; rw [needL_drop_none _ hst]; rfl
        clear hst
        go_wp2_with (go_at_call 12; refine (before_any _ _ _ _ (by omega) (by omega) (by omega) (by omega) (by omega) (by omega)).mono ?_; rintro e w2 ⟨rfl, hb2⟩)
        go_ret2
        exact ⟨by rw [E.out]; rfl, bthen hb1 hb2⟩
      · rw [if_neg hgt] at hst
        have HS := Lib.hid hst; clear hst
        go_wp2_with (go_at_call 12; refine (before_any _ _ _ _ (by omega) (by omega) (by omega) (by omega) (by omega) (by omega)).mono ?_; rintro e w2 ⟨rfl, hb2⟩)
        go_roundw
        case rel => exact ⟨j, _, by omega, rfl, rfl, by omega, by omega, HS.out, bthen hb1 hb2⟩
        case measure => simp [intOf]
end Go.Proofs.Ytimofofaeedcoaa
