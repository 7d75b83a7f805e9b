/-
  plan.Verify: its walk. Own text.
-/
import Derived.Test.YtjggcnpnjnmamaaProofE
import Derived.Test.YtjggcnpnjnmamaaMade
namespace Go.Proofs.Ytjggcnpnjnmamaa
open Go.RowKit
set_option linter.unusedVariables false
/-- The columns that the first k jobs have. -/
def usedTo (press : List Int) (k j : Nat) : Bool := (List.range k).any (fun q => at0 press q == (j : Int))
theorem usedTo_zero (press : List Int) (j : Nat) : usedTo press 0 j = false := rfl
theorem usedTo_succ {press : List Int} {k p : Nat} (h : at0 press k = (p : Int)) (j : Nat) : (if j = p then true else usedTo press k j) = usedTo press (k + 1) j := by
  unfold usedTo
  rw [List.range_succ, List.any_append]
  simp only [List.any_cons, List.any_nil, Bool.or_false, h]
  by_cases e : j = p
  · subst e; simp
  · have : ((p : Int) == (j : Int)) = false := by simp; omega
    rw [if_neg e, this, Bool.or_false]
theorem usedTo_yes {press : List Int} {k p : Nat} (h : usedTo press k p = true) : ∃ q, q < k ∧ at0 press q = (p : Int) := by
  unfold usedTo at h
  rw [List.any_eq_true] at h
  obtain ⟨q, h1, h2⟩ := h
  exact ⟨q, List.mem_range.1 h1, by simpa using h2⟩
theorem usedTo_no {press : List Int} {k p : Nat} (h : usedTo press k p = false) : ∀ q, q < k → at0 press q ≠ (p : Int) := by
  intro q hq e
  unfold usedTo at h
  rw [List.any_eq_false] at h
  exact h q (List.mem_range.2 hq) (by rw [e]; simp)
set_option maxHeartbeats 2000000 in
theorem verify_bad (oa : Option Addr) (rows : List (List Int)) (cap : Nat) (v0 v1 v2 v3 : Value) (w : World) (hm : rows.length ≤ maxLen) (hx : Rows1 w 1 encInt oa rows) (hc : costsErr rows ≠ 0) :
    Calls Try.prog 22 #[.slice oa rows.length cap, .agg #[v0, v1, v2, v3]] w fun e w' => e = .returned (.int .i64 (costsErr rows)) ∧ Below w.heap.size w w' := by
  have hb0 := balloc (Below.refl _ w) (.cells #[v0, v1, v2, v3] 27)
  have hx1 := Lib.hid (hx.below hb0)
  have HB0 := Lib.hid hb0
  obtain ⟨x, hx2⟩ : ∃ x, x = costsErr rows := ⟨_, rfl⟩
  have hxx : (x != 0) = true := by rw [hx2]; exact bne_iff_ne.2 hc
  replace hx2 := Lib.hid hx2
  clear hx hc hb0
  go_enter Try.func22, Try.ntmps22
  go_wp2_with (go_at_call 16; refine (check_any _ _ _ _ hm hx1.out).mono ?_; rintro e w' ⟨rfl, rfl⟩; rw [← hx2.out])
  go_ret
  exact ⟨by rw [← hx2.out]; rfl, HB0.out⟩
theorem check_N' (oa : Option Addr) (rows : List (List Int)) (cap N : Nat) (w : World) (hN : N = rows.length) (hm : N ≤ maxLen) (hx : Rows1 w 1 encInt oa rows) (hc : costsErr rows = 0) :
    Calls Try.prog 16 #[.slice oa N cap] w fun e w' => e = .returned (.int .i64 0) ∧ w = w' := by
  subst hN
  have := check_any oa rows cap w hm hx
  rw [hc] at this
  exact this
set_option maxRecDepth 100000 in
set_option maxHeartbeats 8000000 in
theorem verify_ok (b off cap : Nat) (rows : List (List Int)) (N m : Nat) (op oj of : Option Addr) (cp cj cf : Nat) (press job fee : List Int) (cost : Int) (w : World) (hNN : N = rows.length) (hG : GoodCosts rows m) (hc : costsErr rows = 0) (hx : Rows1 w 1 encInt (some ⟨b, off, none⟩) rows)
    (hp : Flat w 1 encInt op press) (hj : Flat w 1 encInt oj job) (hf : Flat w 1 encInt of fee) (lp : press.length ≤ maxLen) (lj : job.length ≤ maxLen) (lf : fee.length ≤ maxLen) :
    Calls Try.prog 22 #[.slice (some ⟨b, off, none⟩) N cap, .agg #[.slice op press.length cp, .slice oj job.length cj, .slice of fee.length cf, .int .i64 cost]] w fun e w' => e = .returned (.int .i64 (proofErr rows m press job fee cost)) ∧ Below w.heap.size w w' := by
  have hm12 := hG.n12
  have hn1 := hG.r1
  have hrn := hG.rn
  rw [← hNN] at hn1 hrn
  obtain ⟨np, hnp⟩ : ∃ n, n = press.length := ⟨_, rfl⟩
  obtain ⟨nj, hnj⟩ : ∃ n, n = job.length := ⟨_, rfl⟩
  obtain ⟨nf, hnf⟩ : ∃ n, n = fee.length := ⟨_, rfl⟩
  have HNN := Lib.hid hNN
  have HG := Lib.hid hG
  rw [← hnp, ← hnj, ← hnf]
  have hp9 : np ≤ 9223372036854775807 := by unfold maxLen at lp; omega
  have hj9 : nj ≤ 9223372036854775807 := by unfold maxLen at lj; omega
  have hf9 : nf ≤ 9223372036854775807 := by unfold maxLen at lf; omega
  have HV := Lib.hid (VIn.boxed (np := np) (cp := cp) (nj := nj) (cj := cj) (nf := nf) (cf := cf) (cost := cost) (e := 27) hx hp hj hf)
  have HB0 := Lib.hid (balloc (Below.refl _ w) (.cells #[.slice op np cp, .slice oj nj cj, .slice of nf cf, .int .i64 cost] 27))
  have HCK := Lib.hid (check_N' (some ⟨b, off, none⟩) rows cap N _ hNN (by unfold maxLen; omega) HV.out.rows' hc)
  obtain ⟨oa0, cap0, k0⟩ := HV.out.row0 hG
  have hz1 : (0 : Int) < (N : Int) := by omega
  have hz2 : 0 < N := by omega
  by_cases hl : np = N ∧ nj = N ∧ nf = m
  · obtain ⟨l1, l2, l3⟩ := hl
    have HL : Hid (LenOk rows m press job fee) := ⟨by omega, by omega, by omega⟩
    have HNP : Hid (np = press.length) := hnp
    have HNJ : Hid (nj = job.length) := hnj
    have HNF : Hid (nf = fee.length) := hnf
    clear hnp hnj hnf hNN hG lp lj lf hx hp hj hf hc
    obtain rfl : N = np := l1.symm
    obtain rfl : N = nj := l2.symm
    obtain rfl : m = nf := l3.symm
    clear l1 l2 l3
    have mk1 := run_makeArr (P := Try.prog) elemBool Try.underlying33 (.bool false) rfl m (by omega) (by omega)
    go_enter Try.func22, Try.ntmps22
    go_wp2_with (go_at_call 16; (with_reducible refine (HCK.out).mono ?_); rintro e w' ⟨rfl, rfl⟩)
    go_quiet (fail)
    generalize hw1 : World.drewN _ nq = w1
    have HV1 : Hid (VIn w.heap.size b off rows op oj of N cp N cj m cf press job fee cost w1) := by rw [← hw1]; exact HV.out.below (bdrewN (Below.refl _ _) nq)
    have HB1 : Hid (Below w.heap.size w w1) := by rw [← hw1]; exact bdrewN HB0.out nq
    clear hw1 HV HB0 k0 HCK
    have b0 := HV1.out.b0
    have b1 := HV1.out.b1
    have b2 := HV1.out.b2
    have q0 := keepCell (balloc (Below.refl _ w1) (.cells (madeArr (.bool false) m) 4)) b0
    have HU0 : Hid (Below w1.heap.size w1 (w1.alloc (.cells (madeArr (.bool false) m) 4)) ∧ FTab Value.bool (w1.alloc (.cells (madeArr (.bool false) m) 4)) w1.heap.size m (usedTo press 0)) := ⟨balloc (Below.refl _ _) _, (FTab.made Value.bool w1 m false 4).congr fun _ _ => rfl⟩
    go_wp2
    clear b0 b1 b2 q0 mk1
    go_loopw [9, 58] (fun s9 s58 wr => ∃ k : Nat, k ≤ N ∧ s58 = .int .i64 k ∧ s9 = .int .i64 (costOf rows press k) ∧ Hid (NoErr (pressAt m press) k) ∧ Hid (Below w1.heap.size w1 wr ∧ FTab Value.bool wr w1.heap.size m (usedTo press k))) (fun _ s58 _ => N - (intOf s58).toNat)
    case atStart => exact ⟨0, by omega, rfl, rfl, Lib.hid (NoErr.zero _), HU0⟩
    case round =>
      clear HU0
      obtain ⟨k, hk, rfl, rfl, HK, HW⟩ := hrel
      have HVr := Lib.hid (HV1.out.below HW.out.1)
      have HBr := Lib.hid (bthen HB1.out HW.out.1)
      have hcb := costOf_bd HG.out press k
      by_cases hlt : k < N
      · obtain ⟨bp, offp, rfl, kp⟩ := HVr.out.fp.int0 (i := k) (by rw [← HNP.out]; exact hlt)
        obtain ⟨P, hP⟩ : ∃ P, P = at0 press k := ⟨_, rfl⟩
        rw [← hP] at kp
        by_cases hin : 0 ≤ P ∧ P ≤ (m : Int) - 1
        · obtain ⟨p0, p1⟩ := hin
          have HIN : Hid (inB (at0 press k) 0 ((m : Int) - 1) = true) := by show _ = _; rw [← hP]; exact inB_yes p0 p1
          obtain ⟨p', hp'⟩ : ∃ p' : Nat, P = (p' : Int) := ⟨P.toNat, by omega⟩
          have HP : Hid (at0 press k = (p' : Int)) := by show _ = _; rw [← hP]; exact hp'
          have hpm : p' < m := by omega
          subst hp'
          have ku := HW.out.2.at' p' hpm
          have zu := HW.out.2.fz p'
          by_cases hu : usedTo press k p' = true
          · have HE : Hid (proofErr rows m press job fee cost = 7) := by
              obtain ⟨q, hq1, hq2⟩ := usedTo_yes hu
              exact proofErr_1 HL.out (HK.out.bad (k := k) (pressAt_twice HIN.out hq1 (by rw [hq2, HP.out])) (by decide) (by rw [← HNN.out]; exact hlt)) (by decide)
            rw [hu] at ku
            clear hP hu
            go_wp2
            go_ret
            exact ⟨by rw [HE.out]; rfl, HBr.out⟩
          · have hu2 : usedTo press k p' = false := by simpa using hu
            have HK2 := Lib.hid (HK.out.succ (pressAt_ok HIN.out (fun q hq => by rw [HP.out]; exact usedTo_no hu2 q hq)))
            rw [hu2] at ku
            have HW2 : Hid (Below w1.heap.size w1 (wr.setCell ⟨w1.heap.size, p', none⟩ (.bool true)) ∧ FTab Value.bool (wr.setCell ⟨w1.heap.size, p', none⟩ (.bool true)) w1.heap.size m (usedTo press (k + 1))) :=
              ⟨HW.out.1.setCell (p := ⟨w1.heap.size, p', none⟩) (Nat.le_refl _) _, (HW.out.2.set hpm true).congr fun j _ => usedTo_succ HP.out j⟩
            obtain ⟨bk, offk, capk, kc1, kc2⟩ := (HV1.out.below HW2.out.1).cost HG.out (r := k) (q := p') (by rw [← HNN.out]; exact hlt) hpm
            have hcx := HG.out.c (k + 1) (p' + 1)
            obtain ⟨X, hX⟩ : ∃ X, X = cOf rows (k + 1) (p' + 1) := ⟨_, rfl⟩
            rw [← hX] at kc2 hcx
            have HC : Hid (costOf rows press (k + 1) = costOf rows press k + X) := by
              show _ = _
              have e : costOf rows press (k + 1) = costOf rows press k + cOf rows (k + 1) ((at0 press k).toNat + 1) := rfl
              rw [e, HP.out, hX, Int.toNat_natCast]
            generalize costOf rows press k = C at *
            clear hP hX hu hu2
            go_wp2
            go_roundw
            case rel => exact ⟨k + 1, by omega, by go_num, by rw [HC.out], HK2, HW2⟩
            case measure => simp [intOf]; omega
        · have HE : Hid (proofErr rows m press job fee cost = 3) := proofErr_1 HL.out (HK.out.bad (k := k) (pressAt_range (by rw [← hP]; exact inB_no hin)) (by decide) (by rw [← HNN.out]; exact hlt)) (by decide)
          clear hP
          by_cases hn : P < 0
          · clear hin
            go_wp2
            go_ret
            exact ⟨by rw [HE.out]; rfl, HBr.out⟩
          · have hn2 : (m : Int) ≤ P := by omega
            clear hin
            go_wp2
            go_ret
            exact ⟨by rw [HE.out]; rfl, HBr.out⟩
      · obtain rfl : N = k := by omega
        have HE1 : Hid (firstErr (pressAt m press) rows.length = 0) := by
          have h := HK.out.all
          rw [HNN.out] at h
          exact h
        have b1 := HVr.out.b1
        have b2 := HVr.out.b2
        obtain ⟨C1, hC1⟩ : ∃ C, C = costOf rows press N := ⟨_, rfl⟩
        rw [← hC1] at hcb ⊢
        have HC1 := Lib.hid hC1
        clear HK hk hlt hC1 HW HV1 HB1
        obtain ⟨w2, rfl⟩ : ∃ w2 : World, w2 = wr := ⟨_, rfl⟩
        go_wp2
        have i0 : ∀ w, (Instr.index 66 (.agg #[.slice oj N cj, .slice of m cf]) (.int .i64 0)).run Try.prog w = .ok (.slice oj N cj) w := fun _ => by kernel_rfl
        have i1 : ∀ w, (Instr.index 66 (.agg #[.slice oj N cj, .slice of m cf]) (.int .i64 1)).run Try.prog w = .ok (.slice of m cf) w := fun _ => by kernel_rfl
        clear b1 b2
        go_loop [92] (fun s92 => ∃ k : Int, s92 = .int .i64 k ∧ (k = 0 ∨ (k = 1 ∧ Hid (firstErr (priceAt job) rows.length = 0)) ∨ (k = 2 ∧ Hid (firstErr (priceAt job) rows.length = 0) ∧ Hid (firstErr (priceAt fee) m = 0)))) (fun s92 => (2 - intOf s92).toNat)
        case atStart => exact ⟨0, rfl, .inl rfl⟩
        case round =>
          obtain ⟨k92, rfl, rfl | ⟨rfl, HE2⟩ | ⟨rfl, HE2, HE3⟩⟩ := hrel
          · skip
            have HX1 := Lib.hid (HVr.out.fj)
            go_wp2
            go_loop [97] (fun s97 => ∃ k : Nat, k ≤ N ∧ s97 = .int .i64 k ∧ Hid (NoErr (priceAt job) k)) (fun s97 => N - (intOf s97).toNat)
            case atStart => exact ⟨0, by omega, rfl, Lib.hid (NoErr.zero _)⟩
            case round =>
              obtain ⟨k, hk, rfl, HK⟩ := hrel
              by_cases hlt : k < N
              · obtain ⟨bj, offj, rfl, kj⟩ := HX1.out.int0 (i := k) (by rw [← HNJ.out]; exact hlt)
                obtain ⟨J, hJ⟩ : ∃ J, J = at0 job k := ⟨_, rfl⟩
                rw [← hJ] at kj
                by_cases hin : -12582912 ≤ J ∧ J ≤ 12582912
                · have HK2 := Lib.hid (HK.out.succ (priceAt_ok (show okP (at0 job k) = true by rw [← hJ]; exact inB_yes hin.1 hin.2)))
                  obtain ⟨n1, n2⟩ := hin
                  clear hJ
                  go_wp2
                  go_round
                  case rel => exact ⟨k + 1, by omega, by go_num, HK2⟩
                  case measure => simp [intOf]; omega
                · have HE : Hid (proofErr rows m press job fee cost = 3) := proofErr_2 HL.out HE1.out (HK.out.bad (k := k) (priceAt_bad (show okP (at0 job k) = false by rw [← hJ]; exact inB_no hin)) (by decide) (by rw [← HNN.out]; exact hlt)) (by decide)
                  clear hJ
                  by_cases hng : J < -12582912
                  · clear hin
                    go_wp2
                    go_ret
                    exact ⟨by rw [HE.out]; rfl, HBr.out⟩
                  · have hng2 : 12582912 < J := by omega
                    clear hin
                    go_wp2
                    go_ret
                    exact ⟨by rw [HE.out]; rfl, HBr.out⟩
              · obtain rfl : N = k := by omega
                have HE2 : Hid (firstErr (priceAt job) rows.length = 0) := by
                  have h := HK.out.all
                  rw [HNN.out] at h
                  exact h
                clear HK
                go_wp2
                go_round
                case rel => exact ⟨1, rfl, .inr (.inl ⟨rfl, HE2⟩)⟩
                case measure => simp [intOf]
          · skip
            have HX1 := Lib.hid (HVr.out.ff)
            go_wp2
            go_loop [97] (fun s97 => ∃ k : Nat, k ≤ m ∧ s97 = .int .i64 k ∧ Hid (NoErr (priceAt fee) k)) (fun s97 => m - (intOf s97).toNat)
            case atStart => exact ⟨0, by omega, rfl, Lib.hid (NoErr.zero _)⟩
            case round =>
              obtain ⟨k, hk, rfl, HK⟩ := hrel
              by_cases hlt : k < m
              · obtain ⟨bj, offj, rfl, kj⟩ := HX1.out.int0 (i := k) (by rw [← HNF.out]; exact hlt)
                obtain ⟨J, hJ⟩ : ∃ J, J = at0 fee k := ⟨_, rfl⟩
                rw [← hJ] at kj
                by_cases hin : -12582912 ≤ J ∧ J ≤ 12582912
                · have HK2 := Lib.hid (HK.out.succ (priceAt_ok (show okP (at0 fee k) = true by rw [← hJ]; exact inB_yes hin.1 hin.2)))
                  obtain ⟨n1, n2⟩ := hin
                  clear hJ
                  go_wp2
                  go_round
                  case rel => exact ⟨k + 1, by omega, by go_num, HK2⟩
                  case measure => simp [intOf]; omega
                · have HE : Hid (proofErr rows m press job fee cost = 3) := proofErr_3 HL.out HE1.out HE2.out (HK.out.bad (k := k) (priceAt_bad (show okP (at0 fee k) = false by rw [← hJ]; exact inB_no hin)) (by decide) hlt) (by decide)
                  clear hJ
                  by_cases hng : J < -12582912
                  · clear hin
                    go_wp2
                    go_ret
                    exact ⟨by rw [HE.out]; rfl, HBr.out⟩
                  · have hng2 : 12582912 < J := by omega
                    clear hin
                    go_wp2
                    go_ret
                    exact ⟨by rw [HE.out]; rfl, HBr.out⟩
              · obtain rfl : m = k := by omega
                have HE3 : Hid (firstErr (priceAt fee) m = 0) := HK.out.all
                clear HK
                go_wp2
                go_round
                case rel => exact ⟨2, rfl, .inr (.inr ⟨rfl, HE2, HE3⟩)⟩
                case measure => simp [intOf]
          · have HJZ : Hid (∀ q, q < N → -12582912 ≤ at0 job q ∧ at0 job q ≤ 12582912) := by
              intro q hq
              have h := firstErr_zero HE2.out
              rw [← HNN.out] at h
              exact priceAt_zero (h q hq)
            have HFZ : Hid (∀ q, q < m → -12582912 ≤ at0 fee q ∧ at0 fee q ≤ 12582912) := fun q hq => priceAt_zero (firstErr_zero HE3.out q hq)
            clear i0 i1
            have b1 := HVr.out.b1
            go_wp2
            clear b1
            go_loop [16, 112] (fun s16 s112 => ∃ k : Nat, k ≤ N ∧ s112 = .int .i64 k ∧ s16 = .int .i64 (sumN (at0 job) k) ∧ Hid (NoErr (fun i => firstErr (aboveAt rows job fee i) m) k)) (fun _ s112 => N - (intOf s112).toNat)
            case atStart => exact ⟨0, by omega, rfl, rfl, Lib.hid (NoErr.zero _)⟩
            case round =>
              obtain ⟨k, hk, rfl, rfl, HK⟩ := hrel
              have hsb := sumN_bd (f := at0 job) (B := 12582912) (n := k) (fun q hq => HJZ.out q (by omega))
              by_cases hlt : k < N
              · obtain ⟨bj, offj, rfl, kj⟩ := HVr.out.fj.int0 (i := k) (by rw [← HNJ.out]; exact hlt)
                have b2 := HVr.out.b2
                have hjb := HJZ.out k hlt
                obtain ⟨J, hJ⟩ : ∃ J, J = at0 job k := ⟨_, rfl⟩
                rw [← hJ] at kj hjb
                have HS : Hid (sumN (at0 job) (k + 1) = sumN (at0 job) k + J) := by show _ = _; rw [hJ]; rfl
                have HJ := Lib.hid hJ
                generalize sumN (at0 job) k = S at *
                clear hJ
                go_wp2
                clear b2 kj
                go_loop [123] (fun s123 => ∃ q : Nat, q ≤ m ∧ s123 = .int .i64 q ∧ Hid (NoErr (aboveAt rows job fee k) q)) (fun s123 => m - (intOf s123).toNat)
                case atStart => exact ⟨0, by omega, rfl, Lib.hid (NoErr.zero _)⟩
                case round =>
                  obtain ⟨q, hq, rfl, HQ⟩ := hrel
                  by_cases hltq : q < m
                  · obtain ⟨bf, offf, rfl, kf⟩ := HVr.out.ff.int0 (i := q) (by rw [← HNF.out]; exact hltq)
                    obtain ⟨bk, offk, capk, kc1, kc2⟩ := HVr.out.cost HG.out (r := k) (q := q) (by rw [← HNN.out]; exact hlt) hltq
                    have hfb2 := HFZ.out q hltq
                    obtain ⟨F, hF⟩ : ∃ F, F = at0 fee q := ⟨_, rfl⟩
                    obtain ⟨X, hX⟩ : ∃ X, X = cOf rows (k + 1) (q + 1) := ⟨_, rfl⟩
                    rw [← hF] at kf hfb2
                    rw [← hX] at kc2
                    by_cases hab : X < J + F
                    · have HE : Hid (proofErr rows m press job fee cost = 20) := by
                        have e1 : aboveAt rows job fee k q = 20 := by unfold aboveAt; rw [← HJ.out, ← hF, ← hX, if_pos hab]
                        exact proofErr_4 HL.out HE1.out HE2.out HE3.out (HK.out.bad (k := k) (HQ.out.bad (k := q) e1 (by decide) hltq) (by decide) (by rw [← HNN.out]; exact hlt)) (by decide)
                      clear hF hX
                      go_wp2
                      go_ret
                      exact ⟨by rw [HE.out]; rfl, HBr.out⟩
                    · have HQ2 : Hid (NoErr (aboveAt rows job fee k) (q + 1)) := HQ.out.succ (by unfold aboveAt; rw [← HJ.out, ← hF, ← hX, if_neg hab])
                      clear hF hX
                      go_wp2
                      go_round
                      case rel => exact ⟨q + 1, by omega, by go_num, HQ2⟩
                      case measure => simp [intOf]; omega
                  · obtain rfl : m = q := by omega
                    have HK2 := Lib.hid (HK.out.succ HQ.out.all)
                    go_wp2
                    go_round
                    case rel => exact ⟨k + 1, by omega, by go_num, by rw [HS.out], HK2⟩
                    case measure => simp [intOf]; omega
              · obtain rfl : N = k := by omega
                have HE4 : Hid (firstErr (fun i => firstErr (aboveAt rows job fee i) m) rows.length = 0) := by
                  have h := HK.out.all
                  rw [HNN.out] at h
                  exact h
                have b2 := HVr.out.b2
                obtain ⟨S1, hS1⟩ : ∃ S, S = sumN (at0 job) N := ⟨_, rfl⟩
                rw [← hS1] at hsb ⊢
                have HS1 := Lib.hid hS1
                clear HK hk hlt hS1
                go_wp2
                clear b2
                go_loop [16, 144] (fun s16 s144 => ∃ k : Nat, k ≤ m ∧ s144 = .int .i64 k ∧ s16 = .int .i64 (S1 + sumN (at0 fee) k) ∧ Hid (NoErr (positiveAt fee) k)) (fun _ s144 => m - (intOf s144).toNat)
                case atStart => exact ⟨0, by omega, rfl, by simp [sumN], Lib.hid (NoErr.zero _)⟩
                case round =>
                  obtain ⟨k, hk, rfl, rfl, HK⟩ := hrel
                  have hfb := sumN_bd (f := at0 fee) (B := 12582912) (n := k) (fun q hq => HFZ.out q (by omega))
                  by_cases hlt : k < m
                  · obtain ⟨bf, offf, rfl, kf⟩ := HVr.out.ff.int0 (i := k) (by rw [← HNF.out]; exact hlt)
                    have hfb2 := HFZ.out k hlt
                    obtain ⟨F, hF⟩ : ∃ F, F = at0 fee k := ⟨_, rfl⟩
                    rw [← hF] at kf hfb2
                    have HS : Hid (S1 + sumN (at0 fee) (k + 1) = S1 + sumN (at0 fee) k + F) := by show _ = _; rw [hF]; simp only [sumN]; omega
                    generalize sumN (at0 fee) k = S at *
                    by_cases hpos : 0 < F
                    · have HE : Hid (proofErr rows m press job fee cost = 20) := proofErr_5 HL.out HE1.out HE2.out HE3.out HE4.out (HK.out.bad (k := k) (by unfold positiveAt; rw [← hF, if_pos hpos]) (by decide) hlt) (by decide)
                      clear hF
                      go_wp2
                      go_ret
                      exact ⟨by rw [HE.out]; rfl, HBr.out⟩
                    · have HK2 : Hid (NoErr (positiveAt fee) (k + 1)) := HK.out.succ (by unfold positiveAt; rw [← hF, if_neg hpos])
                      clear hF
                      go_wp2
                      go_round
                      case rel => exact ⟨k + 1, by omega, by go_num, by rw [HS.out], HK2⟩
                      case measure => simp [intOf]; omega
                  · obtain rfl : m = k := by omega
                    have HE5 : Hid (firstErr (positiveAt fee) m = 0) := HK.out.all
                    have E := Lib.hid (proofErr_6 (cost := cost) HL.out HE1.out HE2.out HE3.out HE4.out HE5.out)
                    have b3 := HVr.out.b3
                    have HCC : Hid (costOf rows press rows.length = C1) := by show _ = _; rw [HC1.out, HNN.out]
                    obtain ⟨S2, hS2⟩ : ∃ S, S = sumN (at0 fee) m := ⟨_, rfl⟩
                    have HSS : Hid (sumN (at0 job) rows.length + sumN (at0 fee) m = S1 + S2) := by show _ = _; rw [HS1.out, hS2, HNN.out]
                    rw [← hS2]
                    clear hS2
                    by_cases e1 : cost = C1
                    · have c1 : (C1 != cost) = false := by simp [e1]
                      by_cases e2 : S1 + S2 = C1
                      · have HE : Hid (proofErr rows m press job fee cost = 0) := by rw [E.out, HCC.out, HSS.out]; exact if_neg (by omega)
                        have c2 : (S1 + S2 != C1) = false := by simp [e2]
                        clear e1 e2
                        go_wp2
                        go_ret
                        exact ⟨by rw [HE.out]; rfl, HBr.out⟩
                      · have HE : Hid (proofErr rows m press job fee cost = 11) := by rw [E.out, HCC.out, HSS.out]; exact if_pos (by omega)
                        have c2 : (S1 + S2 != C1) = true := by simp [e2]
                        clear e1 e2
                        go_wp2
                        go_ret
                        exact ⟨by rw [HE.out]; rfl, HBr.out⟩
                    · have HE : Hid (proofErr rows m press job fee cost = 11) := by rw [E.out, HCC.out, HSS.out]; exact if_pos (by omega)
                      have c1 : (C1 != cost) = true := by simp; omega
                      clear e1
                      go_wp2
                      go_ret
                      exact ⟨by rw [HE.out]; rfl, HBr.out⟩
  · have HE : Hid (proofErr rows m press job fee cost = 4) := proofErr_len (by omega)
    clear hNN hG lp lj lf hx hp hj hf hnp hnj hnf hc
    by_cases e1 : np = N
    · subst e1
      by_cases e2 : nj = np
      · have e3 : ((nf : Int) != (m : Int)) = true := bne_iff_ne.2 (by omega)
        subst e2
        clear hl
        go_enter Try.func22, Try.ntmps22
        go_wp2_with (go_at_call 16; (with_reducible refine (HCK.out).mono ?_); rintro e w' ⟨rfl, rfl⟩)
        go_quiet (fail)
        go_wp2
        go_ret
        exact ⟨by rw [HE.out]; rfl, bdrewN HB0.out _⟩
      · have e3 : ((nj : Int) != (np : Int)) = true := bne_iff_ne.2 (by omega)
        clear hl e2
        go_enter Try.func22, Try.ntmps22
        go_wp2_with (go_at_call 16; (with_reducible refine (HCK.out).mono ?_); rintro e w' ⟨rfl, rfl⟩)
        go_quiet (fail)
        go_wp2
        go_ret
        exact ⟨by rw [HE.out]; rfl, bdrewN HB0.out _⟩
    · have e3 : ((np : Int) != (N : Int)) = true := bne_iff_ne.2 (by omega)
      clear hl e1
      go_enter Try.func22, Try.ntmps22
      go_wp2_with (go_at_call 16; (with_reducible refine (HCK.out).mono ?_); rintro e w' ⟨rfl, rfl⟩)
      go_quiet (fail)
      go_wp2
      go_ret
      exact ⟨by rw [HE.out]; rfl, bdrewN HB0.out _⟩
end Go.Proofs.Ytjggcnpnjnmamaa
