/-
  The walk of PaperNeedIsLeast. Own text.
-/
import Derived.Test.YtdgmdohmjdfgdaaPap
import Derived.Test.YtdgmdohmjdfgdaaNeed
import Derived.Test.YtdgmdohmjdfgdaaSteps
namespace Go.Proofs.Ytdgmdohmjdfgdaa
open Go.RowKit
set_option linter.unusedVariables false
set_option maxHeartbeats 1000000 in
theorem nil_bad (oa : Option Addr) (xs : List (Int × Int)) (cap : Nat) (n : Int) (w : World) (hm : xs.length ≤ maxLen) (hx : Flat w 2 encInt2 oa xs) (hc : (chk xs != 0) = true) (hc2 : (chk xs == 0) = false) :
    Calls Try.prog 7 #[.slice oa xs.length cap, .int .i64 n] w fun e w' => e = .returned (.bool true) ∧ Below w.heap.size w w' := by
  have hm9 : xs.length ≤ 9223372036854775807 := by unfold maxLen at hm; omega
  go_enter Try.func7, Try.ntmps7
  go_wp2_with fail
  refine (papers_any _).mono ?_
  rintro e w1 ⟨rfl, hb1⟩
  go_wp2_with fail
  refine (need_bad _ _ _ _ _ hm (hx.below hb1) hc).mono ?_
  rintro e w2 ⟨rfl, hb2⟩
  have hb3 := bthen hb1 hb2
  go_wp2_with fail
  refine (stepsError_any _ _ _ _ hm (hx.below hb3)).mono ?_
  rintro e w4 ⟨rfl, hb6⟩
  have hb7 := bthen hb3 hb6
  go_wp2
  go_loopw [7, 8, 9] (fun f v i wr => (∃ z : Int, -1 ≤ z ∧ z < xs.length ∧ i = .int .i64 z) ∧ v = .int .i64 n ∧ f = .int .i64 (chk xs) ∧ Below w.heap.size w wr) (fun _ _ i _ => (intOf i + 1).toNat)
  case atStart => exact ⟨⟨_, by omega, by omega, rfl⟩, rfl, rfl, hb7⟩
  case round =>
    obtain ⟨⟨z, hz1, hz2, rfl⟩, rfl, rfl, hr⟩ := hrel
    go_wp2
    all_goals
      go_ret
      exact ⟨rfl, hr⟩
set_option maxHeartbeats 1000000 in
theorem nil_far (oa : Option Addr) (xs : List (Int × Int)) (cap : Nat) (n : Int) (w : World) (hm : xs.length ≤ maxLen) (hx : Flat w 2 encInt2 oa xs) (hc : chk xs = 0) (hn : n < 0 ∨ 1073741824 < n) :
    Calls Try.prog 7 #[.slice oa xs.length cap, .int .i64 n] w fun e w' => e = .returned (.bool true) ∧ Below w.heap.size w w' := by
  have hm9 : xs.length ≤ 9223372036854775807 := by unfold maxLen at hm; omega
  have hi : inB n 0 1073741824 = false := inB_no (by omega)
  have HC := Lib.hid hc; clear hc
  go_enter Try.func7, Try.ntmps7
  go_wp2_with fail
  refine (papers_any _).mono ?_
  rintro e w1 ⟨rfl, hb1⟩
  go_wp2_with fail
  refine (need_far _ _ _ _ _ hm (hx.below hb1) HC.out hn).mono ?_
  rintro e w2 ⟨rfl, hb2⟩
  have hb3 := bthen hb1 hb2
  go_wp2_with fail
  refine (stepsError_any _ _ _ _ hm (hx.below hb3)).mono ?_
  rintro e w4 ⟨rfl, hb6⟩
  have hb7 := bthen hb3 hb6
  rw [HC.out]
  go_wp2_with (go_at_call 11; refine (in_any _ _ _ _).mono ?_; rintro e w' ⟨rfl, rfl⟩)
  go_loopw [7, 8, 9] (fun f v i wr => (∃ z : Int, -1 ≤ z ∧ z < xs.length ∧ i = .int .i64 z) ∧ v = .int .i64 n ∧ f = .int .i64 3 ∧ Below w.heap.size w wr) (fun _ _ i _ => (intOf i + 1).toNat)
  case atStart => exact ⟨⟨_, by omega, by omega, rfl⟩, rfl, rfl, hb7⟩
  case round =>
    obtain ⟨⟨z, hz1, hz2, rfl⟩, rfl, rfl, hr⟩ := hrel
    go_wp2
    all_goals
      go_ret
      exact ⟨rfl, hr⟩
set_option maxHeartbeats 2000000 in
theorem nil_ok (oa : Option Addr) (xs : List (Int × Int)) (cap : Nat) (n : Int) (w : World) (hm : xs.length ≤ maxLen) (hx : Flat w 2 encInt2 oa xs) (hc : chk xs = 0) (h0 : 0 ≤ n) (h1 : n ≤ 1073741824) :
    Calls Try.prog 7 #[.slice oa xs.length cap, .int .i64 n] w fun e w' => e = .returned (.bool true) ∧ Below w.heap.size w w' := by
  have hi : inB n 0 1073741824 = true := inB_yes h0 h1
  obtain ⟨hl, hxs⟩ := chk_zero hc
  have HX := Lib.hid (show GoodSteps xs from hxs); clear hxs
  have HC := Lib.hid hc; clear hc
  go_enter Try.func7, Try.ntmps7
  go_wp2_with fail
  refine (papers_any _).mono ?_
  rintro e w1 ⟨rfl, hb1⟩
  go_wp2_with fail
  refine (need_ok _ _ _ _ _ hm (hx.below hb1) HC.out h0 h1).mono ?_
  rintro e w2 ⟨rfl, hb2⟩
  have hb3 := bthen hb1 hb2
  go_wp2_with fail
  refine (stepsError_any _ _ _ _ hm (hx.below hb3)).mono ?_
  rintro e w4 ⟨rfl, hb6⟩
  have hb7 := bthen hb3 hb6
  rw [HC.out]
  clear hb1 hb2 hb3 hb6
  go_wp2_with (go_at_call 11; refine (in_any _ _ _ _).mono ?_; rintro e w' ⟨rfl, rfl⟩)
  go_loopw [7, 8, 9] (fun f v i wr => ((∃ (k : Nat) (g : Int), k ≤ xs.length ∧ i = .int .i64 ((k : Int) - 1) ∧ v = .int .i64 g ∧ f = .int .i64 0 ∧ 0 ≤ g ∧ g ≤ 1073741824 ∧ needL (xs.drop k) n = some g) ∨ (∃ z g : Int, -1 ≤ z ∧ z ≤ 16 ∧ i = .int .i64 z ∧ v = .int .i64 g ∧ f = .int .i64 10 ∧ needR xs n = (0, 10))) ∧ Below w.heap.size w wr) (fun _ _ i _ => (intOf i + 1).toNat)
  case atStart => exact ⟨.inl ⟨xs.length, n, by omega, rfl, rfl, rfl, h0, h1, by simp [needL]⟩, hb7⟩
  case round =>
    obtain ⟨hrel, hr⟩ := hrel
    rcases hrel with ⟨k, g, hk, rfl, rfl, rfl, hg0, hg1, hnd⟩ | ⟨z, g, hz1, hz2, rfl, rfl, rfl, hE⟩
    · have HN := Lib.hid hnd; clear hnd
      cases k with
      | zero =>
        have hE : needR xs n = (g, 0) := by have := HN.out; simp only [List.drop_zero] at this; unfold needR; rw [this]
        go_wp2
        go_ret
        exact ⟨rfl, hr⟩
      | succ j =>
        have hlt : j < xs.length := by omega
        rw [show ((j + 1 : Nat) : Int) - 1 = (j : Int) by omega]
        have hs := HX.out xs[j] (List.getElem_mem hlt)
        have hbd := before_bd (g := g) hs.1 hs.2.2.1 hs.2.2.2 hg0
        have HST := Lib.hid (needL_step hlt HN.out)
        obtain ⟨wo, rfl⟩ : ∃ wo : World, wo = wr := ⟨_, rfl⟩
        go_wp2
        go_loopw [10, 11] (fun lo hi wr => ∃ l h : Int, lo = .int .i64 l ∧ hi = .int .i64 h ∧ -1 ≤ l ∧ l < h ∧ h ≤ 1073741825 ∧ l < beforeV xs[j].1 xs[j].2 g ∧ (h ≤ 1073741824 → beforeV xs[j].1 xs[j].2 g ≤ h) ∧ Below w.heap.size w wr) (fun lo hi _ => (intOf hi - intOf lo).toNat)
        case atStart => exact ⟨-1, 1073741825, rfl, rfl, by omega, by omega, by omega, by omega, by omega, hr⟩
        case round =>
          obtain ⟨l, h, rfl, rfl, hl0, hlh, hh, hlb, hhb, hr2⟩ := hrel
          by_cases hgo : 1 < h - l
          · obtain ⟨b, off, rfl, hc1, hc2⟩ := (hx.below hr2).int2 hlt
            have hiff := after_iff (x := l + (h - l) / 2) hs.1 hs.2.2.1 hs.2.2.2 (by omega) hg0
            have hm2 : l < l + (h - l) / 2 ∧ l + (h - l) / 2 < h := by omega
            by_cases hy : g ≤ afterV xs[j].1 xs[j].2 (l + (h - l) / 2)
            · have hy2 := hiff.1 hy
              clear hiff
              go_wp2_with (go_at_call 17; refine (certain_any _ _ _ _ (by omega) (by omega) (by omega) (by omega) (by omega) (by omega)).mono ?_; rintro e w2 ⟨rfl, hb3⟩)
              go_roundw
              case rel => exact ⟨l, _, rfl, rfl, by omega, by omega, by omega, by omega, by omega, bthen hr2 hb3⟩
              case measure => simp [intOf]; omega
            · have hy2 : ¬ beforeV xs[j].1 xs[j].2 g ≤ l + (h - l) / 2 := fun hz => hy (hiff.2 hz)
              clear hiff
              go_wp2_with (go_at_call 17; refine (certain_any _ _ _ _ (by omega) (by omega) (by omega) (by omega) (by omega) (by omega)).mono ?_; rintro e w2 ⟨rfl, hb3⟩)
              go_roundw
              case rel => exact ⟨_, h, rfl, rfl, by omega, by omega, by omega, by omega, by omega, bthen hr2 hb3⟩
              case measure => simp [intOf]; omega
          · by_cases hbig : 1073741824 < h
            · have hgt : 1073741824 < beforeV xs[j].1 xs[j].2 g := by omega
              have E : Hid (needR xs n = (0, 10)) := by
                have := HST.out
                rw [if_pos hgt] at this
                unfold needR; rw [needL_drop_none _ this]; rfl
              go_wp2
              go_roundw
              case rel => exact ⟨.inr ⟨_, _, by omega, by omega, rfl, rfl, rfl, E.out⟩, hr2⟩
              case measure => simp [intOf]
            · have heq : h = beforeV xs[j].1 xs[j].2 g := by omega
              have E : Hid (needL (xs.drop j) n = some h) := by
                have := HST.out
                rw [if_neg (by omega), ← heq] at this
                exact this
              clear heq
              go_wp2
              go_roundw
              case rel => exact ⟨.inl ⟨j, h, by omega, rfl, rfl, rfl, by omega, by omega, E.out⟩, hr2⟩
              case measure => simp [intOf]
    · go_wp2
      all_goals
        go_ret
        exact ⟨rfl, hr⟩
theorem needLeast_law (v : Value) {w : World} (hv : StepsArg w v) (n : Int) (_hn : i64ok n) :
    Calls Try.prog 7 #[v, .int .i64 n] w fun e w' => e = .returned (.bool true) ∧ Below w.heap.size w w' := by
  obtain ⟨xs, oa, cap, rfl, hm, hx, _⟩ := hv
  by_cases hc : chk xs = 0
  · by_cases hn : 0 ≤ n ∧ n ≤ 1073741824
    · exact nil_ok oa xs cap n w hm hx hc hn.1 hn.2
    · exact nil_far oa xs cap n w hm hx hc (by omega)
  · exact nil_bad oa xs cap n w hm hx (by simpa using hc) (by simpa using hc)
end Go.Proofs.Ytdgmdohmjdfgdaa
