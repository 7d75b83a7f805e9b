/-
  The walk of GangFormsCheapest. Own text.
-/
import Derived.Test.YtobmpleddhcloaaRightW
import Derived.Test.YtobmpleddhcloaaFormsX
import Derived.Test.YtobmpleddhcloaaGang3
namespace Go.Proofs.Ytobmpleddhcloaa
open Go.RowKit
set_option linter.unusedVariables false
set_option maxHeartbeats 2000000 in
theorem cheapest_any (oa : Option Addr) (ds : List Int) (cap : Nat) (s p : Int) (w : World) (hm : ds.length ≤ maxLen) (hx : Flat w 1 encInt oa ds) :
    Calls Try.prog 7 #[.slice oa ds.length cap, .int .i64 s, .int .i64 p] w fun e w' => e = .returned (.bool true) ∧ Below w.heap.size w w' := by
  by_cases hc : gchk ds s = 0
  · have HC := Lib.hid hc
    by_cases hp : 0 ≤ p ∧ p ≤ 1048576
    · obtain ⟨l1, l2, hd, s1, s2⟩ := gchk_zero hc
      have hin : inB p 0 1048576 = true := inB_yes hp.1 hp.2
      have HD := Lib.hid hd
      clear hc hd
      go_enter Try.func7, Try.ntmps7
      go_wp2_with fail
      refine (gangs_any _).mono ?_
      rintro e w1 ⟨rfl, hb⟩
      have hx1 := hx.below hb
      go_wp2_with fail
      refine (forms_ok _ _ _ _ _ _ hx1 HC.out hp.1 hp.2).mono ?_
      rintro e w2 ⟨B, N, m, of, cf, rfl, hB, hmn, hend, hlt, hfs, hb2⟩
      have hx2 := hx1.below hb2
      obtain ⟨b0, o0, rfl⟩ : ∃ b o, oa = some ⟨b, o, none⟩ := by
        obtain ⟨b, o, h, _⟩ := hx2.int (i := 0) (by omega)
        exact ⟨_, _, h⟩
      have hb3 := Lib.hid (bthen hb hb2)
      clear hx hx1 hb hb2
      have HB := Lib.hid hB
      have HLT := Lib.hid hlt
      have HEND := Lib.hid hend
      have HFS := Lib.hid hfs
      have hbd : Hid (∀ j, j ≤ ds.length → 0 ≤ B j ∧ B j ≤ 25165824) := fun j hj => by
        have := hB.bd j (Nat.zero_le _) (by rw [vals_len]; exact hj)
        rw [vals_len] at this
        omega
      have hfl : (formsV ds s N m).length = m := formsV_len _ _ _ _
      clear hB hlt hend hfs
      go_wp2_with (first | (go_at_call 13; refine (demandsError_any _ _ _ _ _ hm hx2).mono ?_; rintro e w' ⟨rfl, rfl⟩; rw [HC.out]) | (go_at_call 18; refine (in_any _ _ _ _).mono ?_; rintro e w' ⟨rfl, rfl⟩; rw [hin]))
      go_loopw [11, 50] (fun c t wr => ∃ a : Nat, a ≤ m ∧ t = .int .i64 a ∧ c = .int .i64 (B 0 - B (pos N a)) ∧ Below w2.heap.size w2 wr) (fun _ t _ => m - (intOf t).toNat)
      case atStart => exact ⟨0, by omega, rfl, by rw [show pos N 0 = 0 from rfl, Int.sub_self], Below.refl _ _⟩
      case round =>
        obtain ⟨a, ha, rfl, rfl, hb⟩ := hrel
        by_cases hlta : a < m
        · obtain ⟨c1, c2, c3, c4⟩ := chain_at HB.out HLT.out hlta
          have hal : a < (formsV ds s N m).length := by rw [hfl]; exact hlta
          obtain ⟨b, off, oj, cj, ou, cu, rfl, e0, e1, e2, lj, lu, fj, fu⟩ := (HFS.out.below hb).at hal
          rw [formsV_get hal] at e0 e1 e2
          have hR : (formV ds s (pos N a) (pos N (a + 1))).run = runV (vals ds) s (pos N a) (pos N (a + 1)) := rfl
          rw [hR] at e2
          have hv := vals_len ds
          obtain ⟨_, r1, r2⟩ := runV_least (s := s) (i := pos N a) (k := pos N (a + 1)) (vals_demands HD.out) (by omega) (by omega) c3
          generalize (formV ds s (pos N a) (pos N (a + 1))).jobs.length = j0 at *
          generalize (formV ds s (pos N a) (pos N (a + 1))).ups.length = u0 at *
          generalize runV (vals ds) s (pos N a) (pos N (a + 1)) = R at *
          have d1 := hbd.out (pos N a) (by omega)
          have d2 := hbd.out (pos N (a + 1)) c2
          have d3 := hbd.out 0 (by omega)
          have E : Hid (B 0 - B (pos N a) + (p + R) = B 0 - B (pos N (a + 1))) := by show _ = _; omega
          clear c1 c2 c3 lj lu fj fu hR
          generalize B (pos N a) = x at *
          obtain ⟨y, hy⟩ : ∃ y, y = B (pos N (a + 1)) := ⟨_, rfl⟩
          rw [← hy] at d2 E c4
          replace hy := Lib.hid hy
          obtain ⟨c, hcc⟩ : ∃ c, c = B 0 := ⟨_, rfl⟩
          rw [← hcc] at d3 E ⊢
          replace hcc := Lib.hid hcc
          have hb' := Lib.hid hb
          clear c4 hb
          go_wp2
          go_roundw
          case rel => exact ⟨a + 1, by omega, by go_num, by rw [E.out, hcc.out, hy.out], balloc hb'.out _⟩
          case measure => simp [intOf]; omega
        · obtain rfl : a = m := by omega
          have E : Hid (B 0 - B (pos N a) = B 0) := by
            have h := HB.out.last
            rw [vals_len] at h
            show _ = _
            rw [HEND.out, h, Int.sub_zero]
          rw [E.out]
          have HF27 : Hid (Calls Try.prog 27 #[.slice (some ⟨b0, o0, none⟩) ds.length cap, .int .i64 s, .slice of a cf] wr fun e w' => e = .returned (.bool true) ∧ Below wr.heap.size wr w') :=
            formsRight_ok b0 o0 ds cap s p of cf a wr B N (hx2.below hb) HC.out HB.out hmn HEND.out HLT.out (HFS.out.below hb)
          have hb' := Lib.hid hb
          clear hb
          go_wp2_with (first | (go_at_call 27; refine HF27.out.mono ?_; rintro e w3 ⟨rfl, hb4⟩; have hb5 := Lib.hid (bthen hb'.out hb4)) | (go_at_call 28; refine (formsCost_any _ _ _ _ _ _ B N (hx2.below hb5.out) HC.out hp.1 hp.2 HB.out).mono ?_; rintro e w4 ⟨rfl, hb6⟩; have hb7 := Lib.hid (bthen hb5.out hb6)))
          go_ret
          exact ⟨rfl, bthen hb3.out hb7.out⟩
    · have hin : inB p 0 1048576 = false := inB_no hp
      clear hc
      go_enter Try.func7, Try.ntmps7
      go_wp2_with fail
      refine (gangs_any _).mono ?_
      rintro e w1 ⟨rfl, hb⟩
      have hx1 := hx.below hb
      go_wp2_with fail
      refine (forms_far _ _ _ _ _ _ hm hx1 HC.out (by omega)).mono ?_
      rintro e w2 ⟨rfl, hb2⟩
      have hx2 := hx1.below hb2
      have hb3 := Lib.hid (bthen hb hb2)
      clear hx hx1 hb hb2
      go_wp2_with (first | (go_at_call 13; refine (demandsError_any _ _ _ _ _ hm hx2).mono ?_; rintro e w' ⟨rfl, rfl⟩; rw [HC.out]) | (go_at_call 18; refine (in_any _ _ _ _).mono ?_; rintro e w' ⟨rfl, rfl⟩; rw [hin]))
      go_ret
      exact ⟨rfl, hb3.out⟩
  · have hne : (gchk ds s == 0) = false := by simpa using hc
    have hne2 : (gchk ds s != 0) = true := by simpa using hc
    obtain ⟨r, hr⟩ : ∃ r, gchk ds s = r := ⟨_, rfl⟩
    rw [hr] at hne hne2
    have HR := Lib.hid hr
    clear hc hr
    go_enter Try.func7, Try.ntmps7
    go_wp2_with fail
    refine (gangs_any _).mono ?_
    rintro e w1 ⟨rfl, hb⟩
    have hx1 := hx.below hb
    go_wp2_with fail
    refine (forms_bad _ _ _ _ p _ hm hx1 (by rw [HR.out]; exact hne2)).mono ?_
    rw [HR.out]
    rintro e w2 ⟨rfl, hb2⟩
    have hx2 := hx1.below hb2
    have hb3 := Lib.hid (bthen hb hb2)
    clear hx hx1 hb hb2
    go_wp2_with (first | (go_at_call 13; refine (demandsError_any _ _ _ _ _ hm hx2).mono ?_; rintro e w' ⟨rfl, rfl⟩; rw [HR.out]))
    go_ret
    exact ⟨rfl, hb3.out⟩
theorem cheapest_law (v : Value) {w : World} (hv : IntsArg w v) (s : Int) (_hs : i64ok s) (p : Int) (_hp : i64ok p) :
    Calls Try.prog 7 #[v, .int .i64 s, .int .i64 p] w fun e w' => e = .returned (.bool true) ∧ Below w.heap.size w w' := by
  obtain ⟨xs, oa, cap, rfl, hm, hx, _⟩ := hv
  exact cheapest_any oa xs cap s p w hm hx
end Go.Proofs.Ytobmpleddhcloaa
