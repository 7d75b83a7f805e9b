/-
  Walks of gang.Need, gang.Allot, the reference's ShortestRun; GangNeedSums. Own text.
-/
import Derived.Test.YtimofofaeedcoaaGang
import Derived.Test.YtimofofaeedcoaaGangW
import Derived.Test.YtimofofaeedcoaaMore
namespace Go.Proofs.Ytimofofaeedcoaa
open Go.RowKit
set_option linter.unusedVariables false
theorem elemInt : ElemType Try.prog 3 (.int .i64 0) 1 8 := ElemType.mk (by kernel_rfl) rfl (by decide)
/-- Returns a new slice of ints, a run and no error. -/
def RetAllot (ys : List Int) (r : Int) (w : World) (e : Ending) (w' : World) : Prop :=
  ∃ oa cap, e = .returned (.tuple #[.slice oa ys.length cap, .int .i64 r, .int .i64 0]) ∧ (oa = none → cap = 0) ∧ ys.length ≤ maxLen ∧ Flat w' 1 encInt oa ys ∧ Below w.heap.size w w'
def allotV (xs : List Int) (r : Int) : List Int := xs.map fun d => cl d r
set_option maxHeartbeats 400000 in
theorem allot_bad (oa : Option Addr) (xs : List Int) (cap : Nat) (s : Int) (w : World) (hm : xs.length ≤ maxLen) (hx : Flat w 1 encInt oa xs) (hc : (gchk xs s != 0) = true) :
    Calls Try.prog 19 #[.slice oa xs.length cap, .int .i64 s] w fun e w' => e = .returned (.tuple #[.slice none 0 0, .int .i64 0, .int .i64 (gchk xs s)]) ∧ w = w' := by
  go_enter Try.func19, Try.ntmps19
  go_wp2_with (go_at_call 13; refine (gcheck_any _ _ _ _ _ hm hx).mono ?_; rintro e w' ⟨rfl, rfl⟩)
  go_ret3
  exact ⟨rfl, rfl⟩
set_option maxHeartbeats 400000 in
theorem allot_fit (oa : Option Addr) (xs : List Int) (cap : Nat) (s : Int) (w : World) (hm : xs.length ≤ maxLen) (hx : Flat w 1 encInt oa xs) (hc : gchk xs s = 0) (hs : s < xs.length) :
    Calls Try.prog 19 #[.slice oa xs.length cap, .int .i64 s] w fun e w' => e = .returned (.tuple #[.slice none 0 0, .int .i64 0, .int .i64 19]) ∧ w = w' := by
  obtain ⟨l1, l2, hd, s1, s2⟩ := gchk_zero hc
  have HD := Lib.hid hd; clear hd
  have HC := Lib.hid hc; clear hc
  have HL := Lib.hid (leastV_zero hs)
  go_enter Try.func19, Try.ntmps19
  go_wp2_with (first | (go_at_call 13; refine (gcheck_any _ _ _ _ _ hm hx).mono ?_; rintro e w' ⟨rfl, rfl⟩; rw [HC.out]) | (go_at_call 18; refine (least_any _ _ _ _ _ (by omega) l1 hx HD.out).mono ?_; rintro e w' ⟨rfl, rfl⟩; rw [HL.out]))
  go_ret3
  exact ⟨rfl, rfl⟩
set_option maxHeartbeats 1000000 in
theorem allot_ok (oa : Option Addr) (xs : List Int) (cap : Nat) (s : Int) (w : World) (hm : xs.length ≤ maxLen) (hx : Flat w 1 encInt oa xs) (hc : gchk xs s = 0) (hs : (xs.length : Int) ≤ s) :
    Calls Try.prog 19 #[.slice oa xs.length cap, .int .i64 s] w (RetAllot (allotV xs (leastV xs s)) (leastV xs s) w) := by
  obtain ⟨l1, l2, hd, s1, s2⟩ := gchk_zero hc
  have hle := leastV_isLeast hd hs
  have HD := Lib.hid hd; clear hd
  have HC := Lib.hid hc; clear hc
  have hr1 := hle.1.1
  have hr2 := hle.2
  clear hle
  generalize hr : leastV xs s = r at *
  have HR := Lib.hid hr; clear hr
  have hr0 : (r == 0) = false := by simp; omega
  go_enter Try.func19, Try.ntmps19
  go_wp2_with (first | (go_at_call 13; refine (gcheck_any _ _ _ _ _ hm hx).mono ?_; rintro e w' ⟨rfl, rfl⟩; rw [HC.out]) | (go_at_call 18; refine (least_any _ _ _ _ _ (by omega) l1 hx HD.out).mono ?_; rintro e w' ⟨rfl, rfl⟩; rw [HR.out]))
  go_loopw [9, 25] (fun out i wr => ∃ k : Nat, k ≤ xs.length ∧ i = .int .i64 k ∧ Own wr w.heap.size 3 1 encInt out (allotV (xs.take k) r) ∧ Below w.heap.size w wr) (fun _ i _ => xs.length - (intOf i).toNat)
  case atStart => exact ⟨0, by omega, rfl, Own.nil _ _ _ _ _, Below.refl _ _⟩
  case round =>
    obtain ⟨k, hk, rfl, hown, hb⟩ := hrel
    by_cases hlt : k < xs.length
    · obtain ⟨b, off, rfl, hc1⟩ := (hx.below hb).int hlt
      have hd := HD.out xs[k] (List.getElem_mem hlt)
      have E2 : Hid (allotV (xs.take (k + 1)) r = allotV (xs.take k) r ++ [cl xs[k] r]) := by
        show allotV (xs.take (k + 1)) r = allotV (xs.take k) r ++ [cl xs[k] r]
        unfold allotV
        rw [List.take_succ_eq_append_getElem hlt, List.map_append]
        rfl
      have hlen : (allotV (xs.take k) r).length ≤ 12 := by unfold allotV; rw [List.length_map, List.length_take]; omega
      go_wp2_with (first | (go_at_call 28; refine (gup_any _ _ _ (by omega) (by omega) (by omega) (by omega)).mono ?_; rintro e w2 ⟨rfl, rfl⟩) | (at_builtin; go_must (refine wpList_app1 rfl (.tmp 29) (.tmp 33) 23 rfl elemInt Try.underlying23 w.heap.size _ _ encInt rfl (hown.alloc _) (cl xs[k] r) ⟨wr.heap.size, 0, none⟩ 1 rfl rfl ?c1 ?c2 ?c3 ?c4 ?c5 ?_)))
      case c1 => exact cell_one_new _ _ _
      case c2 => simp [encInt, Value.oneCell']
      case c3 => omega
      case c4 => unfold maxLen; omega
      case c5 => have := hb.size; simp; omega
      intro v' w3 hown3 hg3
      have hb5 := (hown.alloc _).grown (balloc hb _) (Nat.le_refl _) hg3
      rw [← E2.out] at hown3
      clear hg3 hown
      go_wp2
      go_roundw
      case rel => exact ⟨k + 1, by omega, by go_num, hown3, hb5⟩
      case measure => simp [intOf]; omega
    · have E := Lib.hid (show xs.take k = xs from List.take_of_length_le (by omega))
      rw [E.out] at hown
      obtain ⟨oa', cap', rfl, hn0, hm', hf'⟩ := hown.isSlice (fun _ => rfl)
      have HF := Lib.hid (show RetAllot (allotV xs r) r w _ wr from ⟨oa', cap', rfl, hn0, hm', hf', hb⟩)
      clear hf' hown hn0
      go_wp2
      go_ret3
      exact HF.out
end Go.Proofs.Ytimofofaeedcoaa
