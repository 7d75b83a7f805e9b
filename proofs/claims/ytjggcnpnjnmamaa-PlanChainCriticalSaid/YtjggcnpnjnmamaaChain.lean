/-
  PlanChainCritical: its walk. Own text.
-/
import Derived.Test.YtjggcnpnjnmamaaTimesLaw
import Derived.Test.YtjggcnpnjnmamaaTimesZ
namespace Go.Proofs.Ytjggcnpnjnmamaa
open Go.RowKit
set_option linter.unusedVariables false
theorem inK_true (x lo hi : Int) (w : World) (h1 : lo ≤ x) (h2 : x ≤ hi) :
    Calls Try.prog 33 #[.int .i64 x, .int .i64 lo, .int .i64 hi] w fun e w' => e = .returned (.bool true) ∧ w = w' := by
  go_enter Try.func33, Try.ntmps33
  go_wp2
  go_ret
  exact ⟨rfl, rfl⟩
set_option maxHeartbeats 1000000 in
theorem index_found (oa : Option Addr) (xs : List Int) (cap : Nat) (w : World) (n p : Nat) (x : Int) (hn : n = xs.length) (hm : n ≤ maxLen) (hx : Flat w 1 encInt oa xs) (hp : p < n) (he : at0 xs p = x) :
    Calls Try.prog 41 #[.slice oa n cap, .int .i64 x] w fun e w' => (∃ i : Int, e = .returned (.int .i64 i) ∧ 0 ≤ i) ∧ w = w' := by
  have HX := Lib.hid hx
  have HN := Lib.hid hn
  have HE := Lib.hid he
  have hn9 : n ≤ 9223372036854775807 := by unfold maxLen at hm; omega
  clear hx hn he hm
  go_enter Try.func41, Try.ntmps41
  go_wp2
  go_loop [8] (fun s8 => ∃ k : Nat, k ≤ p ∧ s8 = .int .i64 k) (fun s8 => n - (intOf s8).toNat)
  case atStart => exact ⟨0, by omega, rfl⟩
  case round =>
    obtain ⟨k, hk, rfl⟩ := hrel
    have hkn : k < n := by omega
    obtain ⟨b, off, rfl, kc⟩ := HX.out.int (i := k) (by rw [← HN.out]; exact hkn)
    rw [at0_eq] at kc
    have HA : Hid (k = p → at0 xs k = x) := fun e => by rw [e]; exact HE.out
    generalize at0 xs k = A at *
    have i1 : (k : Int) < (n : Int) := by omega
    by_cases e : A = x
    · have t1 : (x == A) = true := by simp [e]
      clear e
      go_wp2
      go_returns
      exact ⟨⟨k, rfl, by omega⟩, rfl⟩
    · have t1 : (x == A) = false := by simp; exact fun h => e h.symm
      have hkp : k < p := by
        by_cases e2 : k = p
        · exact absurd (HA.out e2) e
        · omega
      clear e
      go_wp2
      go_round
      case rel => exact ⟨k + 1, by omega, by go_num⟩
      case measure => simp [intOf]; omega
set_option maxHeartbeats 1000000 in
theorem contains_true (oa : Option Addr) (xs : List Int) (cap : Nat) (w : World) (n p : Nat) (x : Int) (hn : n = xs.length) (hm : n ≤ maxLen) (hx : Flat w 1 encInt oa xs) (hp : p < n) (he : at0 xs p = x) :
    Calls Try.prog 34 #[.slice oa n cap, .int .i64 x] w fun e w' => e = .returned (.bool true) ∧ w = w' := by
  have HI := Lib.hid (index_found oa xs cap w n p x hn hm hx hp he)
  clear hx hn he hm hp
  go_enter Try.func34, Try.ntmps34
  go_wp2_with (go_at_call 41; (with_reducible refine (HI.out).mono ?_); rintro e w' ⟨⟨i, rfl, hi⟩, rfl⟩)
  go_ret
  exact ⟨rfl, rfl⟩
set_option maxRecDepth 100000 in
set_option maxHeartbeats 16000000 in
theorem chain_law_ok (oa : Option Addr) (l : List Task) (cap n : Nat) (w : World) (hn : n = l.length) (hx : TasksAt w oa l) (hc : tasksErr l = 0) :
    Calls Try.prog 10 #[.slice oa n cap] w fun e w' => e = .returned (.bool true) ∧ Below w.heap.size w w' := by
  have hG := GoodTasks.of hc
  have hn40 : n ≤ 40 := by rw [hn]; exact hG.n40
  have hm : n ≤ maxLen := by unfold maxLen; omega
  have HN := Lib.hid hn
  have HG := Lib.hid hG
  have HX := Lib.hid hx
  have HT := Lib.hid (fun w1 (hb : Below w.heap.size w w1) => times_ok oa l cap n w1 hn (hx.below hb) hc)
  obtain ⟨E, hE⟩ : ∃ E, E = endV l := ⟨_, rfl⟩
  have b0 := endV_bd hG
  rw [← hE] at b0
  have HE := Lib.hid hE
  clear hx hc hn hm hG hE
  go_enter Try.func10, Try.ntmps10
  go_wp2_with (first | (go_at_call 19; (with_reducible refine (plansK_any _).mono ?_); rintro e w1 ⟨rfl, hb1⟩; have HB1 := Lib.hid hb1; clear hb1) | (go_at_call 24; (with_reducible refine (HT.out _ HB1.out).mono ?_); rintro e w2 ⟨gb, gl, oc, cc, d, rfl, htb, htl, hch, hfl, hb2⟩; rw [← HE.out]; have HTB := Lib.hid htb; have HTL := Lib.hid htl; have HCH := Lib.hid hch; have HFL := Lib.hid hfl; have HB2 := Lib.hid (bthen HB1.out hb2); have HB3 := Lib.hid (balloc (Below.refl _ w2) (.cells #[.slice (some ⟨gb, 0, none⟩) n n, .slice (some ⟨gl, 0, none⟩) n n, .int .i64 E, .slice oc d cc] 43)); obtain ⟨r0, r1, r2, r3, _⟩ := resCells (Below.refl _ (w2.alloc (.cells #[.slice (some ⟨gb, 0, none⟩) n n, .slice (some ⟨gl, 0, none⟩) n n, .int .i64 E, .slice oc d cc] 43))); clear htb htl hch hfl hb2))
  generalize hw5 : w2.alloc (.cells #[.slice (some ⟨gb, 0, none⟩) n n, .slice (some ⟨gl, 0, none⟩) n n, .int .i64 E, .slice oc d cc] 43) = w5 at *
  clear hw5
  have F1 : Hid (Flat w5 1 encInt (some ⟨gb, 0, none⟩) (lst n (beg l))) := HTB.out.lst.below HB3.out
  have F2 : Hid (Flat w5 1 encInt (some ⟨gl, 0, none⟩) (lst n (lat l))) := HTL.out.lst.below HB3.out
  have F3 : Hid (Flat w5 1 encInt oc (chD l (beg l) (last l) d).reverse) := HFL.out.below HB3.out
  have HB5 : Hid (Below w.heap.size w w5) := bthen HB2.out HB3.out
  have hd41 : d ≤ 41 := by have := chain_len HG.out HCH.out; have := HN.out; omega
  have R0 := Lib.hid r0
  have R1 := Lib.hid r1
  have R2 := Lib.hid r2
  have R3 := Lib.hid r3
  have cellB : Hid (∀ i, i < n → w5.cell? ⟨gb, i, none⟩ = some (.int .i64 (beg l i))) := by
    intro i hi
    obtain ⟨b, off, e, hc⟩ := F1.out.int (i := i) (by rw [lst_length]; exact hi)
    cases e
    rw [show (lst n (beg l))[i]'(by rw [lst_length]; exact hi) = beg l i by simp [lst], Nat.zero_add] at hc
    exact hc
  have cellL : Hid (∀ i, i < n → w5.cell? ⟨gl, i, none⟩ = some (.int .i64 (lat l i))) := by
    intro i hi
    obtain ⟨b, off, e, hc⟩ := F2.out.int (i := i) (by rw [lst_length]; exact hi)
    cases e
    rw [show (lst n (lat l))[i]'(by rw [lst_length]; exact hi) = lat l i by simp [lst], Nat.zero_add] at hc
    exact hc
  clear r0 r1 r2 r3 HT HTB HTL HFL HB1 HB2 HB3 F1 F2
  go_loopw [41] (fun s41 wr => ∃ i : Nat, i ≤ n ∧ s41 = .int .i64 i ∧ Hid (Below w5.heap.size w5 wr)) (fun s41 _ => n - (intOf s41).toNat)
  case atStart => exact ⟨0, by omega, rfl, Lib.hid (Below.refl _ _)⟩
  case round =>
    obtain ⟨i, hi, rfl, HW⟩ := hrel
    by_cases hlt : i < n
    · have hil : i < l.length := by rw [← HN.out]; exact hlt
      obtain ⟨b, off, rfl⟩ := HX.out.some (by omega)
      have kl := (HX.out.below (bthen HB5.out HW.out)).len hil
      obtain ⟨oa', cap', ka1, fa1⟩ := HX.out.aft hil
      have ka := keepCell (bthen HB5.out HW.out) ka1
      obtain ⟨m, hmm⟩ : ∃ m, m = aftL l i := ⟨_, rfl⟩
      obtain ⟨L, hL⟩ : ∃ L, L = lenN l i := ⟨_, rfl⟩
      obtain ⟨BI, hBI⟩ : ∃ BI, BI = beg l i := ⟨_, rfl⟩
      obtain ⟨LI, hLI⟩ : ∃ LI, LI = lat l i := ⟨_, rfl⟩
      have hm40 : m ≤ 40 := by rw [hmm]; exact HG.out.m40 i hil
      have b1 := HG.out.len i hil
      have b2 := beg_bd HG.out i
      have b3 := lat_bd HG.out hil
      have b4 := beg_lat HG.out _ i hil (Nat.lt_succ_self _)
      have b5 := lat_end HG.out hil
      rw [← hmm] at ka
      rw [← hL] at kl b1 b5
      rw [← hBI] at b2 b4
      rw [← hLI] at b3 b4 b5
      rw [← HE.out] at b5
      have q0 := keepCell (balloc HW.out (.cells #[.int .i64 L, .slice oa' m cap'] 49)) R0.out
      have q1 := keepCell (balloc HW.out (.cells #[.int .i64 L, .slice oa' m cap'] 49)) R1.out
      have q2 := keepCell (balloc HW.out (.cells #[.int .i64 L, .slice oa' m cap'] 49)) R2.out
      have qB := keepCell (balloc HW.out (.cells #[.int .i64 L, .slice oa' m cap'] 49)) (cellB.out i hlt)
      have qL := keepCell (balloc HW.out (.cells #[.int .i64 L, .slice oa' m cap'] 49)) (cellL.out i hlt)
      have z0 : (wr.alloc (.cells #[.int .i64 L, .slice oa' m cap'] 49)).cell? ⟨wr.heap.size, 0, none⟩ = some (.int .i64 L) := by rw [cell_of_row _ wr.heap.size 0 _ _ (0, 0) (heap_alloc_new wr _)]; rfl
      have z1 : (wr.alloc (.cells #[.int .i64 L, .slice oa' m cap'] 49)).cell? ⟨wr.heap.size, 1, none⟩ = some (.slice oa' m cap') := by rw [cell_of_row _ wr.heap.size 1 _ _ (0, 0) (heap_alloc_new wr _)]; rfl
      rw [← hBI] at qB
      rw [← hLI] at qL
      have HBQ : Hid (Below w5.heap.size w5 (wr.alloc (.cells #[.int .i64 L, .slice oa' m cap'] 49))) := balloc HW.out _
      have HF := Lib.hid fa1
      have HM := Lib.hid hmm
      have HLI := Lib.hid hLI
      have HBI := Lib.hid hBI
      have g1 : IntKind.i64.wrap (LI + L) = LI + L := IntWalk.i64_in _ (by omega)
      have t1 : decide (BI < 0) = false := decide_eq_false (by omega)
      have t2 : decide (LI < BI) = false := decide_eq_false (by omega)
      have t3 : decide (E < LI + L) = false := decide_eq_false (by omega)
      have i1 : (i : Int) < (n : Int) := by omega
      clear hmm hL hBI hLI fa1 ka1 HW
      go_upto_region 11 with fail
      clear ka kl
      generalize hwq : wr.alloc (.cells #[.int .i64 L, .slice oa' m cap'] 49) = wq at *
      clear hwq
      go_quiet (fail)
      go_wp2
      go_loopw [81] (fun s81 wx => ∃ q : Nat, q ≤ m ∧ s81 = .int .i64 q ∧ Hid (Below w5.heap.size w5 wx)) (fun s81 _ => m - (intOf s81).toNat)
      case atStart => exact ⟨0, by omega, rfl, Lib.hid (bdrewN HBQ.out _)⟩
      case round =>
        clear q0 q1 q2 qB qL z0 z1 HBQ t1 t2 t3 g1
        obtain ⟨q, hq, rfl, HQ⟩ := hrel
        by_cases hltq : q < m
        · have hq2 : q < aftL l i := by rw [← HM.out]; exact hltq
          have HBx : Hid (Below w.heap.size w wr) := bthen HB5.out HQ.out
          obtain ⟨ba, offa, rfl, kk⟩ := aftCell HG.out hil hq2 (HF.out.below HBx.out)
          have hK1 := (HG.out.aft i q hil hq2).2
          have c1 := beg_aft HG.out hil hq2
          have c2 := lat_aft HG.out hil hq2
          obtain ⟨K, hK⟩ : ∃ K, K = aftN l i q := ⟨_, rfl⟩
          rw [← hK] at kk hK1 c1 c2
          rw [← HBI.out] at c1
          rw [← HLI.out] at c2
          have kn : K < n := by omega
          have kB := keepCell HQ.out (cellB.out K kn)
          have kL := keepCell HQ.out (cellL.out K kn)
          have kBi := keepCell HQ.out (cellB.out i hlt)
          have kLi := keepCell HQ.out (cellL.out i hlt)
          rw [← HBI.out] at kBi
          rw [← HLI.out] at kLi
          have q0 := keepCell HQ.out R0.out
          have q1 := keepCell HQ.out R1.out
          have kt := (HX.out.below HBx.out).len (i := K) (by omega)
          have d1 := beg_bd HG.out K
          have d2 := lat_bd HG.out (i := K) (by omega)
          have d3 := HG.out.len K (by omega)
          generalize beg l K = BK at *
          generalize lat l K = LK at *
          generalize lenN l K = NK at *
          have g1 : IntKind.i64.wrap (BK + NK) = BK + NK := IntWalk.i64_in _ (by omega)
          have g2 : IntKind.i64.wrap (LK + NK) = LK + NK := IntWalk.i64_in _ (by omega)
          have t1 : decide (BI < BK + NK) = false := decide_eq_false (by omega)
          have t2 : decide (LI < LK + NK) = false := decide_eq_false (by omega)
          have i2 : (K : Int) < (n : Int) := by omega
          clear hK
          go_wp2
          go_quiet (fail)
          go_wp2
          go_roundw
          case rel => exact ⟨q + 1, by omega, by go_num, Lib.hid (bdrewN HQ.out _)⟩
          case measure => simp [intOf]; omega
        · obtain rfl : m = q := by omega
          go_wp2
          go_roundw
          case rel => exact ⟨i + 1, by omega, by go_num, HQ⟩
          case measure => simp [intOf]; omega
    · obtain rfl : n = i := by omega
      have k3 := keepCell HW.out R3.out
      go_wp2
      go_loopw [9, 126] (fun s9 s126 wr => ∃ k : Nat, k ≤ d ∧ s126 = .int .i64 k ∧ s9 = .int .i64 (nowV l d k) ∧ Hid (Below w5.heap.size w5 wr)) (fun _ s126 _ => d - (intOf s126).toNat)
      case atStart => exact ⟨0, by omega, rfl, by rw [now_zero HG.out HCH.out], HW⟩
      case round =>
        clear k3 HW
        obtain ⟨k, hk, rfl, rfl, HW⟩ := hrel
        by_cases hlt2 : k < d
        · obtain ⟨c1, c2, c3⟩ := ck_at HG.out HCH.out hlt2
          have hkl : k < (chD l (beg l) (last l) d).reverse.length := by rw [List.length_reverse, chD_len]; exact hlt2
          have e1 := now_succ HG.out HCH.out hlt2
          have e2 : nowV l d k = beg l (ck l d k) := by unfold nowV; rw [if_pos hlt2]
          obtain ⟨bc, offc, rfl, kc⟩ := (F3.out.below HW.out).int (i := k) hkl
          rw [chain_get HG.out HCH.out hlt2 hkl] at kc
          have nb := now_bd HG.out d k
          obtain ⟨i, hi2⟩ : ∃ i, i = ck l d k := ⟨_, rfl⟩
          rw [← hi2] at c1 c3 e1 e2 kc
          have hin : i < n := by have := HN.out; omega
          obtain ⟨b, off, rfl⟩ := HX.out.some (by omega)
          have HBx : Hid (Below w.heap.size w wr) := bthen HB5.out HW.out
          have kl := (HX.out.below HBx.out).len c1
          obtain ⟨oa', cap', ka1, fa1⟩ := HX.out.aft c1
          have ka := keepCell HBx.out ka1
          have q0 := keepCell HW.out R0.out
          have q1 := keepCell HW.out R1.out
          have q3 := keepCell HW.out R3.out
          have qB := keepCell HW.out (cellB.out i hin)
          have qL := keepCell HW.out (cellL.out i hin)
          rw [c3] at qL
          rw [← e2] at qB qL
          have b1 := HG.out.len i c1
          have hm40 := HG.out.m40 i c1
          obtain ⟨N1, hN1⟩ : ∃ N1, N1 = nowV l d k := ⟨_, rfl⟩
          rw [← hN1] at qB qL e1 nb ⊢
          obtain ⟨L, hL⟩ : ∃ L, L = lenN l i := ⟨_, rfl⟩
          rw [← hL] at kl b1 e1
          obtain ⟨m, hmm⟩ : ∃ m, m = aftL l i := ⟨_, rfl⟩
          rw [← hmm] at ka hm40
          have g1 : IntKind.i64.wrap (N1 + L) = N1 + L := IntWalk.i64_in _ (by omega)
          have g2 : IntKind.i64.wrap ((n : Int) - 1) = (n : Int) - 1 := IntWalk.i64_in _ (by omega)
          have t1 : (N1 != N1) = false := by simp
          have i1 : (i : Int) < (n : Int) := by omega
          have i2 : (k : Int) < (d : Int) := by omega
          have EN := Lib.hid e1
          have HIK : Hid (∀ w', Calls Try.prog 33 #[.int .i64 i, .int .i64 0, .int .i64 ((n : Int) - 1)] w' fun e w'' => e = .returned (.bool true) ∧ w' = w'') := fun w' => inK_true _ _ _ _ (by omega) (by omega)
          by_cases hk0 : k = 0
          · have t2 : decide ((0 : Int) < (k : Int)) = false := decide_eq_false (by omega)
            have t3 : decide (0 < k) = false := decide_eq_false (by omega)
            have t4 : ¬ 0 < k := by omega
            clear e1 e2 c1 c2 c3 hi2 hN1 hL hmm ka1 fa1 hk0
            go_wp2
            go_quiet ((go_at_call 33; exact quiet_eq (HIK.out _)))
            go_wp2
            go_roundw
            case rel => exact ⟨k + 1, by omega, by go_num, by rw [EN.out], Lib.hid (bdrewN HW.out _)⟩
            case measure => simp [intOf]; omega
          · have t2 : decide ((0 : Int) < (k : Int)) = true := decide_eq_true (by omega)
            obtain ⟨k1, rfl⟩ : ∃ k1, k = k1 + 1 := ⟨k - 1, by omega⟩
            obtain ⟨p, p1, p2, p3⟩ := ck_next HG.out HCH.out hlt2
            have hkl1 : k1 < (chD l (beg l) (last l) d).reverse.length := by rw [List.length_reverse, chD_len]; omega
            obtain ⟨bc2, offc2, e5, kc1⟩ := (F3.out.below HW.out).int (i := k1) hkl1
            cases e5
            rw [chain_get HG.out HCH.out (by omega) hkl1] at kc1
            rw [← hi2, ← hmm] at p1
            rw [← hi2] at p2
            obtain ⟨j, hj⟩ : ∃ j, j = ck l d k1 := ⟨_, rfl⟩
            rw [← hj] at kc1 p2
            have HCT : Hid (∀ w', Below w.heap.size w w' → Calls Try.prog 34 #[.slice oa' m cap', .int .i64 (j : Int)] w' fun e w'' => e = .returned (.bool true) ∧ w' = w'') := by
              intro w' hb'
              have hq2 : p < aftL l i := by rw [← hmm]; exact p1
              exact contains_true oa' (taskN l i).after cap' w' m p j hmm (by unfold maxLen; omega) (fa1.below hb') p1 (by rw [(HG.out.aft i p c1 hq2).1, p2])
            have g3 : IntKind.i64.wrap (((k1 + 1 : Nat) : Int) - 1) = (k1 : Int) := by rw [IntWalk.i64_in _ (by omega)]; omega
            have i3 : (k1 : Int) < (d : Int) := by omega
            clear e1 e2 c1 c2 c3 hi2 hN1 hL hmm ka1 fa1 hk0 p1 p2 p3 hj
            go_wp2
            go_quiet (first | (go_at_call 33; exact quiet_eq (HIK.out _)) | (go_at_call 34; exact quiet_eq (HCT.out _ (bdrewN HBx.out _))))
            go_wp2
            go_roundw
            case rel => exact ⟨k1 + 1 + 1, by omega, by go_num, by rw [EN.out], Lib.hid (bdrewN HW.out _)⟩
            case measure => simp [intOf]; omega
        · obtain rfl : d = k := by omega
          have e1 : nowV l d d = E := by unfold nowV; rw [if_neg (by omega), HE.out]
          rw [e1]
          have q2 := keepCell HW.out R2.out
          have t1 : (E == E) = true := by simp
          clear e1
          go_wp2
          go_ret
          exact ⟨rfl, bthen HB5.out HW.out⟩
set_option maxRecDepth 100000 in
set_option maxHeartbeats 4000000 in
theorem chain_law_bad (oa : Option Addr) (l : List Task) (cap : Nat) (w : World) (hm : l.length ≤ maxLen) (hx : TasksAt w oa l) (hc : tasksErr l ≠ 0) :
    Calls Try.prog 10 #[.slice oa l.length cap] w fun e w' => e = .returned (.bool true) ∧ Below w.heap.size w w' := by
  have HT := Lib.hid (fun w1 (hb : Below w.heap.size w w1) => times_bad oa l cap w1 hm (hx.below hb) hc)
  have HK := Lib.hid (fun w1 (hb : Below w.heap.size w w1) => checkTasks_any oa l cap w1 hm (hx.below hb))
  obtain ⟨x, hx2⟩ : ∃ x, x = tasksErr l := ⟨_, rfl⟩
  rw [← hx2] at HT HK
  have t1 : (x != 0) = true := by rw [hx2]; exact bne_iff_ne.2 hc
  have t2 : (x == x) = true := by simp
  clear hx hc hx2 hm
  unfold noTimes at HT
  generalize l.length = n at *
  go_enter Try.func10, Try.ntmps10
  go_wp2_with (first | (go_at_call 19; (with_reducible refine (plansK_any _).mono ?_); rintro e w1 ⟨rfl, hb1⟩; have HB1 := Lib.hid hb1; clear hb1) | (go_at_call 24; (with_reducible refine (HT.out _ HB1.out).mono ?_); rintro e w2 ⟨rfl, hb2⟩; have HB2 := Lib.hid (bthen HB1.out hb2); have HB3 := Lib.hid (balloc HB2.out (.cells #[.slice none 0 0, .slice none 0 0, .int .i64 0, .slice none 0 0] 43)); clear hb2) | (go_at_call 26; (with_reducible refine (HK.out _ HB3.out).mono ?_); rintro e w5 ⟨rfl, hb5⟩; have HB5' := Lib.hid (bthen HB3.out hb5); clear hb5))
  go_ret
  exact ⟨rfl, HB5'.out⟩
theorem chain_law (v : Value) {w : World} (hv : TasksArg w v) :
    Calls Try.prog 10 #[v] w fun e w' => e = .returned (.bool true) ∧ Below w.heap.size w w' := by
  obtain ⟨l, oa, cap, rfl, hm, hx⟩ := hv
  by_cases hc : tasksErr l = 0
  · exact chain_law_ok oa l cap _ w rfl hx hc
  · exact chain_law_bad oa l cap w hm hx hc
end Go.Proofs.Ytjggcnpnjnmamaa
