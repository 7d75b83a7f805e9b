/-
  The walk of PaperYieldMatchesReference. Own text.
-/
import Derived.Test.YtdgmdohmjdfgdaaPap
namespace Go.Proofs.Ytdgmdohmjdfgdaa
open Go.RowKit
set_option linter.unusedVariables false
set_option maxHeartbeats 1000000 in
theorem ymr_bad (oa : Option Addr) (xs : List (Int × Int)) (cap : Nat) (n : Int) (w : World) (hm : xs.length ≤ maxLen) (hx : Flat w 2 encInt2 oa xs) (hc : (chk xs != 0) = true) (hc2 : (chk xs == 0) = false) :
    Calls Try.prog 5 #[.slice oa xs.length cap, .int .i64 n] w fun e w' => e = .returned (.bool true) ∧ Below w.heap.size w w' := by
  go_enter Try.func5, Try.ntmps5
  go_wp2_with fail
  refine (papers_any _).mono ?_
  rintro e w1 ⟨rfl, hb1⟩
  go_wp2_with fail
  refine (yield_bad _ _ _ _ _ hm (hx.below hb1) hc).mono ?_
  rintro e w2 ⟨rfl, hb2⟩
  have hb3 := bthen hb1 hb2
  go_wp2_with fail
  refine (waste_bad _ _ _ _ _ hm (hx.below hb3) hc).mono ?_
  rintro e w3 ⟨rfl, hb4⟩
  have hb5 := bthen hb3 hb4
  go_wp2_with fail
  refine (stepsError_any _ _ _ _ hm (hx.below hb5)).mono ?_
  rintro e w4 ⟨rfl, hb6⟩
  have hb7 := bthen hb5 hb6
  go_wp2_with fail
  refine (check_any _ _ _ _ hm (hx.below hb7)).mono ?_
  rintro e w5 ⟨rfl, hb8⟩
  have hb9 := bthen hb7 hb8
  go_wp2
  go_ret
  exact ⟨rfl, hb9⟩
set_option maxHeartbeats 1000000 in
theorem ymr_far (oa : Option Addr) (xs : List (Int × Int)) (cap : Nat) (n : Int) (w : World) (hm : xs.length ≤ maxLen) (hx : Flat w 2 encInt2 oa xs) (hc : chk xs = 0) (hn : n < 0 ∨ 1073741824 < n) :
    Calls Try.prog 5 #[.slice oa xs.length cap, .int .i64 n] w fun e w' => e = .returned (.bool true) ∧ Below w.heap.size w w' := by
  have hi : inB n 0 1073741824 = false := inB_no (by omega)
  have HC := Lib.hid hc; clear hc
  go_enter Try.func5, Try.ntmps5
  go_wp2_with fail
  refine (papers_any _).mono ?_
  rintro e w1 ⟨rfl, hb1⟩
  go_wp2_with fail
  refine (yield_far _ _ _ _ _ hm (hx.below hb1) HC.out hn).mono ?_
  rintro e w2 ⟨rfl, hb2⟩
  have hb3 := bthen hb1 hb2
  go_wp2_with fail
  refine (waste_far _ _ _ _ _ hm (hx.below hb3) HC.out hn).mono ?_
  rintro e w3 ⟨rfl, hb4⟩
  have hb5 := bthen hb3 hb4
  go_wp2_with fail
  refine (stepsError_any _ _ _ _ hm (hx.below hb5)).mono ?_
  rintro e w4 ⟨rfl, hb6⟩
  have hb7 := bthen hb5 hb6
  rw [HC.out]
  go_wp2_with fail
  refine (check_any _ _ _ _ hm (hx.below hb7)).mono ?_
  rintro e w5 ⟨rfl, hb8⟩
  have hb9 := bthen hb7 hb8
  rw [HC.out]
  go_wp2_with (go_at_call 11; refine (in_any _ _ _ _).mono ?_; rintro e w' ⟨rfl, rfl⟩)
  go_ret
  exact ⟨rfl, hb9⟩
set_option maxHeartbeats 2000000 in
theorem ymr_ok (oa : Option Addr) (xs : List (Int × Int)) (cap : Nat) (n : Int) (w : World) (hm : xs.length ≤ maxLen) (hx : Flat w 2 encInt2 oa xs) (hc : chk xs = 0) (h0 : 0 ≤ n) (h1 : n ≤ 1073741824) :
    Calls Try.prog 5 #[.slice oa xs.length cap, .int .i64 n] w fun e w' => e = .returned (.bool true) ∧ Below w.heap.size w w' := by
  have hi : inB n 0 1073741824 = true := inB_yes h0 h1
  obtain ⟨hl, hxs⟩ := chk_zero hc
  have HX := Lib.hid hxs; clear hxs
  have HC := Lib.hid hc; clear hc
  go_enter Try.func5, Try.ntmps5
  go_wp2_with fail
  refine (papers_any _).mono ?_
  rintro e w1 ⟨rfl, hb1⟩
  go_wp2_with fail
  refine (yield_ok _ _ _ _ _ hm (hx.below hb1) HC.out h0 h1).mono ?_
  rintro e w2 ⟨rfl, hb2⟩
  have hb3 := bthen hb1 hb2
  go_wp2_with fail
  refine (waste_ok _ _ _ _ _ hm (hx.below hb3) HC.out h0 h1).mono ?_
  rintro e w3 ⟨oaw, capw, rfl, hmw, hfw, hb4⟩
  have hb5 := bthen hb3 hb4
  go_wp2_with fail
  refine (stepsError_any _ _ _ _ hm (hx.below hb5)).mono ?_
  rintro e w4 ⟨rfl, hb6⟩
  have hb7 := bthen hb5 hb6
  rw [HC.out]
  go_wp2_with fail
  refine (check_any _ _ _ _ hm (hx.below hb7)).mono ?_
  rintro e w5 ⟨rfl, hb8⟩
  have hb9 := bthen hb7 hb8
  rw [HC.out]
  have hfw5 := (hfw.below hb6).below hb8
  clear hb1 hb2 hb3 hb4 hb5 hb6 hb7 hb8 hfw
  go_wp2_with (go_at_call 11; refine (in_any _ _ _ _).mono ?_; rintro e w' ⟨rfl, rfl⟩)
  go_loopw [1, 10, 62] (fun v out i wr => ∃ k : Nat, k ≤ xs.length ∧ i = .int .i64 k ∧ v = .int .i64 (yieldV (xs.take k) n) ∧ Own wr w5.heap.size 3 1 encInt out (wasteV (xs.take k) n) ∧ Below w5.heap.size w5 wr) (fun _ _ i _ => xs.length - (intOf i).toNat)
  case atStart => exact ⟨0, by omega, rfl, rfl, Own.nil _ _ _ _ _, Below.refl _ _⟩
  case round =>
    obtain ⟨k, hk, rfl, rfl, hown, hr⟩ := hrel
    by_cases hlt : k < xs.length
    · obtain ⟨b, off, rfl, hc1, hc2⟩ := (hx.below (bthen hb9 hr)).int2 hlt
      have hy := yield_bd (xs := xs.take k) (fun x hx => HX.out x (List.mem_of_mem_take hx)) h0
      have hs := HX.out xs[k] (List.getElem_mem hlt)
      have ha := after_bd xs[k].1 xs[k].2 _ hs.1 hs.2.2.1 hs.2.2.2 hy.1
      have hwl : (wasteV (xs.take k) n).length ≤ 16 := by rw [wasteV_length, List.length_take]; omega
      have E := Lib.hid (yield_step hlt n)
      have E2 := Lib.hid (waste_step hlt n)
      go_wp2_with (first | (go_at_call 17; refine (certain_any _ _ _ _ (by omega) (by omega) (by omega) (by omega) (by omega) (by omega)).mono ?_; rintro e w2 ⟨rfl, hb3⟩; have hbw : Below wr.heap.size wr w2 := balloc_lt _ _ hb3; have hown2 := hown.below hbw; have hr2 := bthen hr hbw; clear hb3 hbw) | (at_builtin; go_must (refine wpList_app1 rfl (.tmp 69) (.tmp 73) 31 rfl elemInt Try.underlying31 w5.heap.size _ _ encInt rfl (hown2.alloc _) (yieldV (xs.take k) n - afterV xs[k].1 xs[k].2 (yieldV (xs.take k) n)) ⟨w2.heap.size, 0, none⟩ 1 rfl rfl ?c1 ?c2 ?c3 ?c4 ?c5 ?_)))
      case c1 => exact cell_one_new _ _ _
      case c2 => simp [encInt, Value.oneCell']
      case c3 => omega
      case c4 => unfold maxLen; omega
      case c5 => have := hr2.size; simp; omega
      intro v' w3 hown3 hg3
      have hb5 := (hown2.alloc _).grown (balloc hr2 _) (Nat.le_refl _) hg3
      rw [← E2.out] at hown3
      clear hg3 hown2 hr2
      go_wp2
      go_roundw
      case rel => exact ⟨k + 1, by omega, by go_num, by rw [E.out], hown3, hb5⟩
      case measure => simp [intOf]; omega
    · have E := Lib.hid (show xs.take k = xs from List.take_of_length_le (by omega))
      rw [E.out] at hown
      obtain ⟨oa', cap', rfl, hm', hf'⟩ := hown.flat (fun _ => rfl)
      have hfw6 := hfw5.below hr
      have hb10 := bthen hb9 hr
      clear hown hr hfw5 hx
      rw [E.out]
      go_wp2_with fail
      refine (sameInts_any _ _ _ _ _ _ _ hmw hm' hfw6 hf').mono ?_
      rintro e w7 ⟨rfl, hb11⟩
      rw [sameB_self]
      go_wp2
      go_ret
      exact ⟨rfl, bthen hb10 hb11⟩
/-- The law's walk: all cases. -/
theorem ymr_any (oa : Option Addr) (xs : List (Int × Int)) (cap : Nat) (n : Int) (w : World) (hm : xs.length ≤ maxLen) (hx : Flat w 2 encInt2 oa xs) :
    Calls Try.prog 5 #[.slice oa xs.length cap, .int .i64 n] w fun e w' => e = .returned (.bool true) ∧ Below w.heap.size w w' := by
  by_cases hc : chk xs = 0
  · by_cases hn : 0 ≤ n ∧ n ≤ 1073741824
    · exact ymr_ok oa xs cap n w hm hx hc hn.1 hn.2
    · exact ymr_far oa xs cap n w hm hx hc (by omega)
  · exact ymr_bad oa xs cap n w hm hx (by simpa using hc) (by simpa using hc)
end Go.Proofs.Ytdgmdohmjdfgdaa
