/-
  The walks of GangNeedSums and GangAllotLeast. Own text.
-/
import Derived.Test.YtobmpleddhcloaaGang2
import Derived.Test.YtobmpleddhcloaaInts
namespace Go.Proofs.Ytobmpleddhcloaa
open Go.RowKit
set_option linter.unusedVariables false
theorem gangs_lit : gchk [5, 3] 4 = 0 ∧ leastV [5, 3] 4 = 3 ∧ allotV [5, 3] 3 = [2, 1] :=
  ⟨by decide, leastV_eq (by intro d hd; simp at hd; omega) (by decide) ⟨by decide, by decide, .inr (by decide)⟩, by decide⟩
set_option maxHeartbeats 400000 in
theorem gangs_any (w : World) : Calls Try.prog 11 #[] w fun e w' => e = .returned (.bool true) ∧ Below w.heap.size w w' := by
  have HL := Lib.hid gangs_lit.2.1
  have HA := Lib.hid gangs_lit.2.2
  go_enter Try.func11, Try.ntmps11
  go_wp2_with fail
  refine (allot_ok (some ⟨w.heap.size, 0, none⟩) [5, 3] 2 4 _ (by decide) (Flat.litN w 1 encInt [5, 3] 3 (fun _ => rfl)) gangs_lit.1 (by decide)).mono ?_
  rw [HL.out, HA.out]
  rintro e w1 ⟨oa, cap, rfl, _, hm, hf, hb⟩
  have hb1 := balloc_lt _ _ hb
  go_wp2_with fail
  refine (sameInts_any oa (some ⟨w1.heap.size, 0, none⟩) [2, 1] [2, 1] cap 2 _ hm (by decide) (hf.below ((Below.refl _ _).alloc (Nat.le_refl _) _)) (Flat.litN w1 1 encInt [2, 1] 3 (fun _ => rfl))).mono ?_
  rintro e w2 ⟨rfl, hb2⟩
  rw [sameB_self]
  go_wp2
  go_ret
  exact ⟨rfl, bthen hb1 (balloc_lt _ _ hb2)⟩
set_option maxHeartbeats 1000000 in
theorem needSums_any (oa : Option Addr) (xs : List Int) (cap : Nat) (s r : Int) (w : World) (hm : xs.length ≤ maxLen) (hx : Flat w 1 encInt oa xs) :
    Calls Try.prog 4 #[.slice oa xs.length cap, .int .i64 s, .int .i64 r] w fun e w' => e = .returned (.bool true) ∧ Below w.heap.size w w' := by
  by_cases hc : gchk xs s = 0
  · obtain ⟨l1, l2, hd, s1, s2⟩ := gchk_zero hc
    have HD := Lib.hid hd; clear hd
    have HC := Lib.hid hc; clear hc
    by_cases hr : 1 ≤ r ∧ r ≤ 1048576
    · have hin : inB r 1 1048576 = true := inB_yes hr.1 hr.2
      obtain ⟨r1, r2⟩ := hr
      go_enter Try.func4, Try.ntmps4
      go_wp2_with fail
      refine (gangs_any _).mono ?_
      rintro e w1 ⟨rfl, hb⟩
      have hx1 := hx.below hb
      clear hx
      go_wp2_with (first | (go_at_call 16; refine (gneed_ok _ _ _ _ _ _ hm hx1 HC.out r1 r2).mono ?_; rintro e w' ⟨rfl, rfl⟩) | (go_at_call 13; refine (demandsError_any _ _ _ _ _ hm hx1).mono ?_; rintro e w' ⟨rfl, rfl⟩; rw [HC.out]) | (go_at_call 17; refine (gcheck_any _ _ _ _ _ hm hx1).mono ?_; rintro e w' ⟨rfl, rfl⟩; rw [HC.out]) | (go_at_call 18; refine (in_any _ _ _ _).mono ?_; rintro e w' ⟨rfl, rfl⟩) | (go_at_call 19; refine (places_any _ _ _ _ _ (by omega) hx1 HD.out r1 r2).mono ?_; rintro e w' ⟨rfl, rfl⟩))
      go_ret
      exact ⟨rfl, hb⟩
    · have hin : inB r 1 1048576 = false := inB_no hr
      have HR : Hid (r < 1 ∨ 1048576 < r) := by show _ ∨ _; omega
      clear hr
      go_enter Try.func4, Try.ntmps4
      go_wp2_with fail
      refine (gangs_any _).mono ?_
      rintro e w1 ⟨rfl, hb⟩
      have hx1 := hx.below hb
      clear hx
      go_wp2_with (first | (go_at_call 16; refine (gneed_far _ _ _ _ _ _ hm hx1 HC.out HR.out).mono ?_; rintro e w' ⟨rfl, rfl⟩) | (go_at_call 13; refine (demandsError_any _ _ _ _ _ hm hx1).mono ?_; rintro e w' ⟨rfl, rfl⟩; rw [HC.out]) | (go_at_call 17; refine (gcheck_any _ _ _ _ _ hm hx1).mono ?_; rintro e w' ⟨rfl, rfl⟩; rw [HC.out]) | (go_at_call 18; refine (in_any _ _ _ _).mono ?_; rintro e w' ⟨rfl, rfl⟩))
      go_ret
      exact ⟨rfl, hb⟩
  · have hc1 : (gchk xs s != 0) = true := by simpa using hc
    have hc2 : (gchk xs s == 0) = false := by simpa using hc
    clear hc
    go_enter Try.func4, Try.ntmps4
    go_wp2_with fail
    refine (gangs_any _).mono ?_
    rintro e w1 ⟨rfl, hb⟩
    have hx1 := hx.below hb
    clear hx
    go_wp2_with (first | (go_at_call 16; refine (gneed_bad _ _ _ _ _ _ hm hx1 hc1).mono ?_; rintro e w' ⟨rfl, rfl⟩) | (go_at_call 13; refine (demandsError_any _ _ _ _ _ hm hx1).mono ?_; rintro e w' ⟨rfl, rfl⟩) | (go_at_call 17; refine (gcheck_any _ _ _ _ _ hm hx1).mono ?_; rintro e w' ⟨rfl, rfl⟩))
    go_ret
    exact ⟨rfl, hb⟩
theorem needSums_law (v : Value) {w : World} (hv : IntsArg w v) (s : Int) (_hs : i64ok s) (r : Int) (_hr : i64ok r) :
    Calls Try.prog 4 #[v, .int .i64 s, .int .i64 r] w fun e w' => e = .returned (.bool true) ∧ Below w.heap.size w w' := by
  obtain ⟨xs, oa, cap, rfl, hm, hx, _⟩ := hv
  exact needSums_any oa xs cap s r w hm hx
set_option maxHeartbeats 1000000 in
theorem allotLeast_any (oa : Option Addr) (xs : List Int) (cap : Nat) (s : Int) (w : World) (hm : xs.length ≤ maxLen) (hx : Flat w 1 encInt oa xs) :
    Calls Try.prog 3 #[.slice oa xs.length cap, .int .i64 s] w fun e w' => e = .returned (.bool true) ∧ Below w.heap.size w w' := by
  by_cases hc : gchk xs s = 0
  · obtain ⟨l1, l2, hd, s1, s2⟩ := gchk_zero hc
    have HC := Lib.hid hc; clear hc
    by_cases hs : s < xs.length
    · clear hd
      go_enter Try.func3, Try.ntmps3
      go_wp2_with fail
      refine (gangs_any _).mono ?_
      rintro e w1 ⟨rfl, hb⟩
      have hx1 := hx.below hb
      clear hx
      go_wp2_with (first | (go_at_call 12; refine (allot_fit _ _ _ _ _ hm hx1 HC.out hs).mono ?_; rintro e w' ⟨rfl, rfl⟩) | (go_at_call 13; refine (demandsError_any _ _ _ _ _ hm hx1).mono ?_; rintro e w' ⟨rfl, rfl⟩; rw [HC.out]))
      go_ret
      exact ⟨rfl, hb⟩
    · have hs2 : (xs.length : Int) ≤ s := by omega
      have hle := leastV_isLeast hd hs2
      have HD := Lib.hid hd; clear hd
      have r1 := hle.1.1
      have r2 := hle.2
      clear hle
      have hlen : (allotV xs (leastV xs s)).length = xs.length := by unfold allotV; rw [List.length_map]
      have hget : ∀ k (h1 : k < (allotV xs (leastV xs s)).length) (h2 : k < xs.length), (allotV xs (leastV xs s))[k] = cl xs[k] (leastV xs s) := by
        intro k h1 h2
        simp [allotV]
      generalize hv : allotV xs (leastV xs s) = ys at *
      generalize hr : leastV xs s = r at *
      have HV := Lib.hid hv; clear hv
      have HR := Lib.hid hr; clear hr
      have HG := Lib.hid hget; clear hget
      have HLEN := Lib.hid hlen
      have hl3 : ys.length ≤ 12 := by omega
      have hne : ((ys.length : Int) != (xs.length : Int)) = false := by simp [hlen]
      clear hlen
      go_enter Try.func3, Try.ntmps3
      go_wp2_with fail
      refine (gangs_any _).mono ?_
      rintro e w1 ⟨rfl, hb⟩
      have hx1 := hx.below hb
      clear hx
      go_wp2_with fail
      refine (allot_ok _ _ _ _ _ hm hx1 HC.out hs2).mono ?_
      rw [HR.out, HV.out]
      rintro e w2 ⟨oay, capy, rfl, _, hmy, hfy, hb2⟩
      have hb3 := bthen hb hb2
      have hx2 := hx1.below hb2
      clear hx1 hb hb2
      go_wp2_with (first | (go_at_call 13; refine (demandsError_any _ _ _ _ _ hm hx2).mono ?_; rintro e w' ⟨rfl, rfl⟩; rw [HC.out]) | (go_at_call 14; refine (shortestRun_any _ _ _ _ _ (by omega) l1 hx2 HD.out s1 s2).mono ?_; rw [HR.out]; rintro e w' ⟨rfl, rfl⟩))
      go_loopw [62] (fun i wr => ∃ k : Nat, k ≤ ys.length ∧ i = .int .i64 k ∧ Below w2.heap.size w2 wr) (fun i _ => ys.length - (intOf i).toNat)
      case atStart => exact ⟨0, by omega, rfl, Below.refl _ _⟩
      case round =>
        obtain ⟨k, hk, rfl, hr⟩ := hrel
        by_cases hlt : k < ys.length
        · have hlt2 : k < xs.length := by have := HLEN.out; omega
          obtain ⟨b, off, rfl, hc1⟩ := (hfy.below hr).int hlt
          obtain ⟨b', off', rfl, hc2⟩ := (hx2.below hr).int hlt2
          have hg := HG.out k hlt hlt2
          rw [hg] at hc1
          have hd := HD.out xs[k] (List.getElem_mem hlt2)
          clear hg
          go_wp2_with fail
          go_quiet ((go_at_call 15; exact quiet_eq (rceil_any _ _ _ (by omega) (by omega) (by omega) (by omega))))
          go_wp2
          go_roundw
          case rel => exact ⟨k + 1, by omega, by go_num, bdrewN hr _⟩
          case measure => simp [intOf]; omega
        · go_wp2
          go_ret
          exact ⟨rfl, bthen hb3 hr⟩
  · have hc1 : (gchk xs s != 0) = true := by simpa using hc
    have hc2 : (gchk xs s == 0) = false := by simpa using hc
    clear hc
    go_enter Try.func3, Try.ntmps3
    go_wp2_with fail
    refine (gangs_any _).mono ?_
    rintro e w1 ⟨rfl, hb⟩
    have hx1 := hx.below hb
    clear hx
    go_wp2_with (first | (go_at_call 12; refine (allot_bad _ _ _ _ _ hm hx1 hc1).mono ?_; rintro e w' ⟨rfl, rfl⟩) | (go_at_call 13; refine (demandsError_any _ _ _ _ _ hm hx1).mono ?_; rintro e w' ⟨rfl, rfl⟩))
    go_ret
    exact ⟨rfl, hb⟩
theorem allotLeast_law (v : Value) {w : World} (hv : IntsArg w v) (s : Int) (_hs : i64ok s) :
    Calls Try.prog 3 #[v, .int .i64 s] w fun e w' => e = .returned (.bool true) ∧ Below w.heap.size w w' := by
  obtain ⟨xs, oa, cap, rfl, hm, hx, _⟩ := hv
  exact allotLeast_any oa xs cap s w hm hx
end Go.Proofs.Ytobmpleddhcloaa
