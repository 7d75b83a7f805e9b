/-
  printworkslaw4.proofError: its walk. Own text.
-/
import Derived.Test.YtjggcnpnjnmamaaRows
import Derived.Test.YtjggcnpnjnmamaaProofV
import Derived.Test.YtjggcnpnjnmamaaIn
import Derived.Test.YtjggcnpnjnmamaaAug
import Derived.Handy
import Derived.IntWalk
namespace Go.Proofs.Ytjggcnpnjnmamaa
open Go.RowKit
set_option linter.unusedVariables false
theorem Flat.int0 {w : World} {oa : Option Addr} {xs : List Int} (h : Flat w 1 encInt oa xs) {i : Nat} (hi : i < xs.length) : ∃ b off, oa = some ⟨b, off, none⟩ ∧ w.cell? ⟨b, off + i, none⟩ = some (.int .i64 (at0 xs i)) := by
  obtain ⟨b, off, e, hc⟩ := h.int hi
  rw [at0_eq hi] at hc
  exact ⟨b, off, e, hc⟩
/-- A table and a proof in memory; the proof's struct at block g. -/
structure VIn (g b off : Nat) (rows : List (List Int)) (op oj of : Option Addr) (np cp nj cj nf cf : Nat) (press job fee : List Int) (cost : Int) (w : World) : Prop where
  rows' : Rows1 w 1 encInt (some ⟨b, off, none⟩) rows
  fp : Flat w 1 encInt op press
  fj : Flat w 1 encInt oj job
  ff : Flat w 1 encInt of fee
  b0 : w.cell? ⟨g, 0, none⟩ = some (.slice op np cp)
  b1 : w.cell? ⟨g, 1, none⟩ = some (.slice oj nj cj)
  b2 : w.cell? ⟨g, 2, none⟩ = some (.slice of nf cf)
  b3 : w.cell? ⟨g, 3, none⟩ = some (.int .i64 cost)
theorem VIn.below {g b off : Nat} {rows : List (List Int)} {op oj of : Option Addr} {np cp nj cj nf cf : Nat} {press job fee : List Int} {cost : Int} {w w' : World} (h : VIn g b off rows op oj of np cp nj cj nf cf press job fee cost w) (hb : Below w.heap.size w w') : VIn g b off rows op oj of np cp nj cj nf cf press job fee cost w' :=
  ⟨h.rows'.below hb, h.fp.below hb, h.fj.below hb, h.ff.below hb, keepCell hb h.b0, keepCell hb h.b1, keepCell hb h.b2, keepCell hb h.b3⟩
theorem VIn.boxed {b off : Nat} {rows : List (List Int)} {op oj of : Option Addr} {np cp nj cj nf cf : Nat} {press job fee : List Int} {cost : Int} {w : World} {e : TypeId} (h1 : Rows1 w 1 encInt (some ⟨b, off, none⟩) rows) (h2 : Flat w 1 encInt op press) (h3 : Flat w 1 encInt oj job) (h4 : Flat w 1 encInt of fee) :
    VIn w.heap.size b off rows op oj of np cp nj cj nf cf press job fee cost (w.alloc (.cells #[.slice op np cp, .slice oj nj cj, .slice of nf cf, .int .i64 cost] e)) := by
  have hb := balloc (Below.refl _ w) (.cells #[.slice op np cp, .slice oj nj cj, .slice of nf cf, .int .i64 cost] e)
  refine ⟨h1.below hb, h2.below hb, h3.below hb, h4.below hb, ?_, ?_, ?_, ?_⟩
  · rw [cell_of_row _ w.heap.size 0 _ e (0, 0) (heap_alloc_new w _)]; rfl
  · rw [cell_of_row _ w.heap.size 1 _ e (0, 0) (heap_alloc_new w _)]; rfl
  · rw [cell_of_row _ w.heap.size 2 _ e (0, 0) (heap_alloc_new w _)]; rfl
  · rw [cell_of_row _ w.heap.size 3 _ e (0, 0) (heap_alloc_new w _)]; rfl
theorem VIn.cost {g b off : Nat} {rows : List (List Int)} {op oj of : Option Addr} {np cp nj cj nf cf m : Nat} {press job fee : List Int} {cost : Int} {w : World} (h : VIn g b off rows op oj of np cp nj cj nf cf press job fee cost w) (hG : GoodCosts rows m) {r q : Nat} (hr : r < rows.length) (hq : q < m) :
    ∃ bk offk capk, w.cell? ⟨b, off + r, none⟩ = some (.slice (some ⟨bk, offk, none⟩) m capk) ∧ w.cell? ⟨bk, offk + q, none⟩ = some (.int .i64 (cOf rows (r + 1) (q + 1))) := costCell h.rows' hG (Below.refl _ _) hr hq
theorem VIn.row0 {g b off : Nat} {rows : List (List Int)} {op oj of : Option Addr} {np cp nj cj nf cf m : Nat} {press job fee : List Int} {cost : Int} {w : World} (h : VIn g b off rows op oj of np cp nj cj nf cf press job fee cost w) (hG : GoodCosts rows m) : ∃ oa cap, w.cell? ⟨b, off, none⟩ = some (.slice oa m cap) := by
  have h1 := hG.r1
  obtain ⟨oa, cap, h2, h3, h4⟩ := h.rows'.at (i := 0) (by omega)
  rw [hG.len 0 (by omega)] at h2
  exact ⟨oa, cap, h2⟩
set_option maxRecDepth 100000 in
set_option maxHeartbeats 8000000 in
theorem proofError_any (b off cap : Nat) (rows : List (List Int)) (N m : Nat) (op oj of : Option Addr) (cp cj cf : Nat) (press job fee : List Int) (cost : Int) (w : World) (hNN : N = rows.length) (hG : GoodCosts rows m) (hx : Rows1 w 1 encInt (some ⟨b, off, none⟩) rows)
    (hp : Flat w 1 encInt op press) (hj : Flat w 1 encInt oj job) (hf : Flat w 1 encInt of fee) (lp : press.length ≤ maxLen) (lj : job.length ≤ maxLen) (lf : fee.length ≤ maxLen) :
    Calls Try.prog 18 #[.slice (some ⟨b, off, none⟩) N cap, .agg #[.slice op press.length cp, .slice oj job.length cj, .slice of fee.length cf, .int .i64 cost]] w fun e w' => e = .returned (.int .i64 (proofErr rows m press job fee cost)) ∧ Below w.heap.size w w' := by
  have hm12 := hG.n12
  have hn1 := hG.r1
  have hrn := hG.rn
  rw [← hNN] at hn1 hrn
  obtain ⟨np, hnp⟩ : ∃ n, n = press.length := ⟨_, rfl⟩
  obtain ⟨nj, hnj⟩ : ∃ n, n = job.length := ⟨_, rfl⟩
  obtain ⟨nf, hnf⟩ : ∃ n, n = fee.length := ⟨_, rfl⟩
  have HNN := Lib.hid hNN
  have HG := Lib.hid hG
  rw [← hnp, ← hnj, ← hnf]
  have hp9 : np ≤ 9223372036854775807 := by unfold maxLen at lp; omega
  have hj9 : nj ≤ 9223372036854775807 := by unfold maxLen at lj; omega
  have hf9 : nf ≤ 9223372036854775807 := by unfold maxLen at lf; omega
  have HV := Lib.hid (VIn.boxed (np := np) (cp := cp) (nj := nj) (cj := cj) (nf := nf) (cf := cf) (cost := cost) (e := 27) hx hp hj hf)
  have HB0 := Lib.hid (balloc (Below.refl _ w) (.cells #[.slice op np cp, .slice oj nj cj, .slice of nf cf, .int .i64 cost] 27))
  obtain ⟨oa0, cap0, k0⟩ := HV.out.row0 hG
  have hz1 : (0 : Int) < (N : Int) := by omega
  have hz2 : 0 < N := by omega
  by_cases hl : np = N ∧ nj = N ∧ nf = m
  · obtain ⟨l1, l2, l3⟩ := hl
    have HL : Hid (LenOk rows m press job fee) := ⟨by omega, by omega, by omega⟩
    have HNP : Hid (np = press.length) := hnp
    have HNJ : Hid (nj = job.length) := hnj
    have HNF : Hid (nf = fee.length) := hnf
    clear hnp hnj hnf hNN hG lp lj lf hx hp hj hf
    obtain rfl : N = np := l1.symm
    obtain rfl : N = nj := l2.symm
    obtain rfl : m = nf := l3.symm
    clear l1 l2 l3
    go_enter Try.func18, Try.ntmps18
    go_wp2
    go_quiet (fail)
    generalize hw1 : World.drewN _ nq = w1
    have HV1 : Hid (VIn w.heap.size b off rows op oj of N cp N cj m cf press job fee cost w1) := by rw [← hw1]; exact HV.out.below (bdrewN (Below.refl _ _) nq)
    have HB1 : Hid (Below w.heap.size w w1) := by rw [← hw1]; exact bdrewN HB0.out nq
    clear hw1 HV HB0 k0
    have b0 := HV1.out.b0
    have b1 := HV1.out.b1
    have b2 := HV1.out.b2
    go_wp2
    clear b0 b1 b2
    go_loop [48] (fun s48 => ∃ k : Nat, k ≤ N ∧ s48 = .int .i64 k ∧ Hid (NoErr (pressAt m press) k)) (fun s48 => N - (intOf s48).toNat)
    case atStart => exact ⟨0, by omega, rfl, Lib.hid (NoErr.zero _)⟩
    case round =>
      obtain ⟨k, hk, rfl, HK⟩ := hrel
      by_cases hlt : k < N
      · obtain ⟨bp, offp, rfl, kp⟩ := HV1.out.fp.int0 (i := k) (by rw [← HNP.out]; exact hlt)
        obtain ⟨P, hP⟩ : ∃ P, P = at0 press k := ⟨_, rfl⟩
        rw [← hP] at kp
        have HP := Lib.hid hP
        have g1 : IntKind.i64.wrap ((m : Int) - 1) = (m : Int) - 1 := IntWalk.i64_in _ (by omega)
        by_cases hin : inB P 0 ((m : Int) - 1) = true
        · have HIN : Hid (inB (at0 press k) 0 ((m : Int) - 1) = true) := by show _ = _; rw [← hP]; exact hin
          clear hP
          go_wp2_with (go_at_call 38; (with_reducible refine (in_any _ _ _ _).mono ?_); rintro e w' ⟨rfl, rfl⟩; rw [hin])
          clear kp g1 hin
          go_loop [9] (fun s9 => ∃ q : Nat, q ≤ k ∧ s9 = .int .i64 q ∧ Hid (∀ q', q' < q → at0 press q' ≠ at0 press k)) (fun s9 => k - (intOf s9).toNat)
          case atStart => exact ⟨0, by omega, rfl, Lib.hid (fun q' h => by omega)⟩
          case round =>
            obtain ⟨q, hq, rfl, HQ⟩ := hrel
            have b0 := HV1.out.b0
            by_cases hlq : q < k
            · obtain ⟨bp2, offp2, e1, kp2⟩ := HV1.out.fp.int0 (i := q) (by rw [← HNP.out]; omega)
              simp only [Option.some.injEq, Addr.mk.injEq, and_true] at e1
              obtain ⟨rfl, rfl⟩ := e1
              have hqN : q < N := by omega
              obtain ⟨R, hR⟩ : ∃ R, R = at0 press q := ⟨_, rfl⟩
              rw [← hR] at kp2
              by_cases he : R = P
              · have HE : Hid (proofErr rows m press job fee cost = 7) := proofErr_1 HL.out (HK.out.bad (k := k) (pressAt_twice HIN.out hlq (by rw [← hR, ← HP.out]; exact he)) (by decide) (by rw [← HNN.out]; exact hlt)) (by decide)
                have he2 : (R == P) = true := by simp [he]
                clear he hR
                go_wp2
                go_ret
                exact ⟨by rw [HE.out]; rfl, HB1.out⟩
              · have HQ2 : Hid (∀ q', q' < q + 1 → at0 press q' ≠ at0 press k) := by
                  intro q' h
                  by_cases e : q' = q
                  · subst e; rw [← hR, ← HP.out]; exact he
                  · exact HQ.out q' (by omega)
                have he2 : (R == P) = false := by simp [he]
                clear he hR
                go_wp2
                go_round
                case rel => exact ⟨q + 1, by omega, by go_num, HQ2⟩
                case measure => simp [intOf]; omega
            · obtain rfl : k = q := by omega
              have HK2 := Lib.hid (HK.out.succ (pressAt_ok HIN.out HQ.out))
              go_wp2
              go_round
              case rel => exact ⟨k + 1, by omega, by go_num, HK2⟩
              case measure => simp [intOf]; omega
        · have hin2 : inB P 0 ((m : Int) - 1) = false := by simpa using hin
          have HE : Hid (proofErr rows m press job fee cost = 3) := proofErr_1 HL.out (HK.out.bad (k := k) (pressAt_range (by rw [← hP]; exact hin2)) (by decide) (by rw [← HNN.out]; exact hlt)) (by decide)
          clear hin hP
          go_wp2_with (go_at_call 38; (with_reducible refine (in_any _ _ _ _).mono ?_); rintro e w' ⟨rfl, rfl⟩; rw [hin2])
          go_ret
          exact ⟨by rw [HE.out]; rfl, HB1.out⟩
      · obtain rfl : N = k := by omega
        have HE1 : Hid (firstErr (pressAt m press) rows.length = 0) := by
          have h := HK.out.all
          rw [HNN.out] at h
          exact h
        have b1 := HV1.out.b1
        clear HK hk hlt
        go_wp2
        clear b1
        have HPZ : Hid (∀ q, q < N → pressAt m press q = 0) := by
          have h := firstErr_zero HE1.out
          rw [← HNN.out] at h
          exact h
        go_loopw [10, 11, 74] (fun s10 s11 s74 wr => ∃ k : Nat, k ≤ N ∧ s74 = .int .i64 k ∧ s10 = .int .i64 (sumN (at0 job) k) ∧ s11 = .int .i64 (costOf rows press k) ∧ Hid (NoErr (priceAt job) k) ∧ Hid (VIn w.heap.size b off rows op oj of N cp N cj m cf press job fee cost wr ∧ Below w.heap.size w wr)) (fun _ _ s74 _ => N - (intOf s74).toNat)
        case atStart => exact ⟨0, by omega, rfl, rfl, rfl, Lib.hid (NoErr.zero _), Lib.hid ⟨HV1.out, HB1.out⟩⟩
        case round =>
          clear HV1 HB1
          obtain ⟨k, hk, rfl, rfl, rfl, HK, HW⟩ := hrel
          have hsb := sumN_prices HK.out
          have hcb := costOf_bd HG.out press k
          by_cases hlt : k < N
          · obtain ⟨bj, offj, rfl, kj⟩ := HW.out.1.fj.int0 (i := k) (by rw [← HNJ.out]; exact hlt)
            obtain ⟨J, hJ⟩ : ∃ J, J = at0 job k := ⟨_, rfl⟩
            rw [← hJ] at kj
            by_cases hin : inB J (-12582912) 12582912 = true
            · have HK2 := Lib.hid (HK.out.succ (priceAt_ok (show okP (at0 job k) = true by rw [← hJ]; exact hin)))
              have hjb := inB_true hin
              obtain ⟨⟨p0, p1⟩, _⟩ := pressAt_zero (HPZ.out k hlt)
              obtain ⟨p', hp'⟩ : ∃ p' : Nat, (p' : Int) = at0 press k := ⟨(at0 press k).toNat, by omega⟩
              obtain ⟨bp, offp, rfl, kp⟩ := HW.out.1.fp.int0 (i := k) (by rw [← HNP.out]; exact hlt)
              have b0 := HW.out.1.b0
              have hpm : p' < m := by omega
              obtain ⟨bk, offk, capk, kc1, kc2⟩ := HW.out.1.cost HG.out (r := k) (q := p') (by rw [← HNN.out]; exact hlt) hpm
              have hcx := HG.out.c (k + 1) (p' + 1)
              obtain ⟨X, hX⟩ : ∃ X, X = cOf rows (k + 1) (p' + 1) := ⟨_, rfl⟩
              rw [← hX] at kc2 hcx
              rw [← hp'] at kp
              have HS : Hid (sumN (at0 job) (k + 1) = sumN (at0 job) k + J) := by show _ = _; rw [hJ]; rfl
              have HC : Hid (costOf rows press (k + 1) = costOf rows press k + X) := by
                show _ = _
                have e : costOf rows press (k + 1) = costOf rows press k + cOf rows (k + 1) ((at0 press k).toNat + 1) := rfl
                rw [e, ← hp', hX, Int.toNat_natCast]
              generalize sumN (at0 job) k = S at *
              generalize costOf rows press k = C at *
              have g1 : IntKind.i64.wrap (C + X) = C + X := IntWalk.i64_in _ (by omega)
              have i1 : (p' : Int) < (m : Int) := by omega
              have i2 : (k : Int) < (N : Int) := by omega
              clear hX hJ hp' p0 p1
              go_wp2_with (go_at_call 38; (with_reducible refine (in_any _ _ _ _).mono ?_); rintro e w' ⟨rfl, rfl⟩; rw [hin])
              go_quiet (fail)
              have HW2 := Lib.hid (And.intro (HW.out.1.below (bdrewN (Below.refl _ wr) nq)) (bdrewN HW.out.2 nq))
              go_wp2
              go_roundw
              case rel => exact ⟨k + 1, by omega, by go_num, by rw [HS.out], by rw [HC.out], HK2, HW2⟩
              case measure => simp [intOf]; omega
            · have hin2 : inB J (-12582912) 12582912 = false := by simpa using hin
              have HE : Hid (proofErr rows m press job fee cost = 3) := proofErr_2 HL.out HE1.out (HK.out.bad (k := k) (priceAt_bad (show okP (at0 job k) = false by rw [← hJ]; exact hin2)) (by decide) (by rw [← HNN.out]; exact hlt)) (by decide)
              clear hin hJ
              go_wp2_with (go_at_call 38; (with_reducible refine (in_any _ _ _ _).mono ?_); rintro e w' ⟨rfl, rfl⟩; rw [hin2])
              go_ret
              exact ⟨by rw [HE.out]; rfl, HW.out.2⟩
          · obtain rfl : N = k := by omega
            have HE2 : Hid (firstErr (priceAt job) rows.length = 0) := by
              have h := HK.out.all
              rw [HNN.out] at h
              exact h
            have b2 := HW.out.1.b2
            obtain ⟨S1, hS1⟩ : ∃ S, S = sumN (at0 job) N := ⟨_, rfl⟩
            obtain ⟨C1, hC1⟩ : ∃ C, C = costOf rows press N := ⟨_, rfl⟩
            rw [← hS1] at hsb ⊢
            rw [← hC1] at hcb ⊢
            have HS1 := Lib.hid hS1
            have HC1 := Lib.hid hC1
            clear HK hk hlt hS1 hC1
            obtain ⟨w2, rfl⟩ : ∃ w2 : World, w2 = wr := ⟨_, rfl⟩
            go_wp2
            clear b2
            go_loopw [10, 102] (fun s10 s102 wr => ∃ k : Nat, k ≤ m ∧ s102 = .int .i64 k ∧ s10 = .int .i64 (S1 + sumN (at0 fee) k) ∧ Hid (NoErr (priceAt fee) k) ∧ w2 = wr) (fun _ s102 _ => m - (intOf s102).toNat)
            case atStart => exact ⟨0, by omega, rfl, by simp [sumN], Lib.hid (NoErr.zero _), rfl⟩
            case round =>
              obtain ⟨k, hk, rfl, rfl, HK, rfl⟩ := hrel
              have hfb := sumN_prices HK.out
              by_cases hlt : k < m
              · obtain ⟨bf, offf, rfl, kf⟩ := HW.out.1.ff.int0 (i := k) (by rw [← HNF.out]; exact hlt)
                obtain ⟨J, hJ⟩ : ∃ J, J = at0 fee k := ⟨_, rfl⟩
                rw [← hJ] at kf
                by_cases hin : inB J (-12582912) 12582912 = true
                · have HK2 := Lib.hid (HK.out.succ (priceAt_ok (show okP (at0 fee k) = true by rw [← hJ]; exact hin)))
                  have hjb := inB_true hin
                  have HS : Hid (S1 + sumN (at0 fee) (k + 1) = S1 + sumN (at0 fee) k + J) := by show _ = _; rw [hJ]; simp only [sumN]; omega
                  generalize sumN (at0 fee) k = S at *
                  clear hJ
                  go_wp2_with (go_at_call 38; (with_reducible refine (in_any _ _ _ _).mono ?_); rintro e w' ⟨rfl, rfl⟩; rw [hin])
                  go_roundw
                  case rel => exact ⟨k + 1, by omega, by go_num, by rw [HS.out], HK2, trivial⟩
                  case measure => simp [intOf]; omega
                · have hin2 : inB J (-12582912) 12582912 = false := by simpa using hin
                  have HE : Hid (proofErr rows m press job fee cost = 3) := proofErr_3 HL.out HE1.out HE2.out (HK.out.bad (k := k) (priceAt_bad (show okP (at0 fee k) = false by rw [← hJ]; exact hin2)) (by decide) hlt) (by decide)
                  clear hin hJ
                  go_wp2_with (go_at_call 38; (with_reducible refine (in_any _ _ _ _).mono ?_); rintro e w' ⟨rfl, rfl⟩; rw [hin2])
                  go_ret
                  exact ⟨by rw [HE.out]; rfl, HW.out.2⟩
              · obtain rfl : m = k := by omega
                have HE3 : Hid (firstErr (priceAt fee) m = 0) := HK.out.all
                have b1 := HW.out.1.b1
                obtain ⟨S2, hS2⟩ : ∃ S, S = sumN (at0 fee) m := ⟨_, rfl⟩
                rw [← hS2] at hfb ⊢
                have HS2 := Lib.hid hS2
                have HJZ : Hid (∀ q, q < N → -12582912 ≤ at0 job q ∧ at0 job q ≤ 12582912) := by
                  intro q hq
                  have h := firstErr_zero HE2.out
                  rw [← HNN.out] at h
                  exact priceAt_zero (h q hq)
                have HFZ : Hid (∀ q, q < m → -12582912 ≤ at0 fee q ∧ at0 fee q ≤ 12582912) := fun q hq => priceAt_zero (firstErr_zero HE3.out q hq)
                clear HK hk hlt hS2
                go_wp2
                clear b1
                go_loopw [116] (fun s116 wr => ∃ k : Nat, k ≤ N ∧ s116 = .int .i64 k ∧ Hid (NoErr (fun i => firstErr (aboveAt rows job fee i) m) k) ∧ Hid (VIn w.heap.size b off rows op oj of N cp N cj m cf press job fee cost wr ∧ Below w.heap.size w wr)) (fun s116 _ => N - (intOf s116).toNat)
                case atStart => exact ⟨0, by omega, rfl, Lib.hid (NoErr.zero _), HW⟩
                case round =>
                  clear HW
                  obtain ⟨k, hk, rfl, HK, HW⟩ := hrel
                  by_cases hlt : k < N
                  · have b2 := HW.out.1.b2
                    obtain ⟨w3, rfl⟩ : ∃ w3 : World, w3 = wr := ⟨_, rfl⟩
                    go_wp2
                    clear b2
                    go_loopw [122] (fun s122 wr => ∃ q : Nat, q ≤ m ∧ s122 = .int .i64 q ∧ Hid (NoErr (aboveAt rows job fee k) q) ∧ Hid (VIn w.heap.size b off rows op oj of N cp N cj m cf press job fee cost wr ∧ Below w.heap.size w wr)) (fun s122 _ => m - (intOf s122).toNat)
                    case atStart => exact ⟨0, by omega, rfl, Lib.hid (NoErr.zero _), HW⟩
                    case round =>
                      clear HW
                      obtain ⟨q, hq, rfl, HQ, HW⟩ := hrel
                      by_cases hltq : q < m
                      · obtain ⟨bj, offj, rfl, kj⟩ := HW.out.1.fj.int0 (i := k) (by rw [← HNJ.out]; exact hlt)
                        obtain ⟨bf, offf, rfl, kf⟩ := HW.out.1.ff.int0 (i := q) (by rw [← HNF.out]; exact hltq)
                        have b1 := HW.out.1.b1
                        have b2 := HW.out.1.b2
                        obtain ⟨bk, offk, capk, kc1, kc2⟩ := HW.out.1.cost HG.out (r := k) (q := q) (by rw [← HNN.out]; exact hlt) hltq
                        have hjb := HJZ.out k hlt
                        have hfb2 := HFZ.out q hltq
                        obtain ⟨J, hJ⟩ : ∃ J, J = at0 job k := ⟨_, rfl⟩
                        obtain ⟨F, hF⟩ : ∃ F, F = at0 fee q := ⟨_, rfl⟩
                        obtain ⟨X, hX⟩ : ∃ X, X = cOf rows (k + 1) (q + 1) := ⟨_, rfl⟩
                        rw [← hJ] at kj hjb
                        rw [← hF] at kf hfb2
                        rw [← hX] at kc2
                        have g1 : IntKind.i64.wrap (J + F) = J + F := IntWalk.i64_in _ (by omega)
                        have i1 : (q : Int) < (m : Int) := by omega
                        have i2 : (k : Int) < (N : Int) := by omega
                        by_cases hab : X < J + F
                        · have HE : Hid (proofErr rows m press job fee cost = 20) := by
                            have e1 : aboveAt rows job fee k q = 20 := by unfold aboveAt; rw [← hJ, ← hF, ← hX, if_pos hab]
                            exact proofErr_4 HL.out HE1.out HE2.out HE3.out (HK.out.bad (k := k) (HQ.out.bad (k := q) e1 (by decide) hltq) (by decide) (by rw [← HNN.out]; exact hlt)) (by decide)
                          clear hJ hF hX
                          go_wp2
                          go_quiet (fail)
                          have HB2 := Lib.hid (bdrewN HW.out.2 nq)
                          go_wp2
                          go_ret
                          exact ⟨by rw [HE.out]; rfl, HB2.out⟩
                        · have HQ2 : Hid (NoErr (aboveAt rows job fee k) (q + 1)) := HQ.out.succ (by unfold aboveAt; rw [← hJ, ← hF, ← hX, if_neg hab])
                          clear hJ hF hX
                          go_wp2
                          go_quiet (fail)
                          have HW2 := Lib.hid (And.intro (HW.out.1.below (bdrewN (Below.refl _ wr) nq)) (bdrewN HW.out.2 nq))
                          go_wp2
                          go_roundw
                          case rel => exact ⟨q + 1, by omega, by go_num, HQ2, HW2⟩
                          case measure => simp [intOf]; omega
                      · obtain rfl : m = q := by omega
                        have HK2 := Lib.hid (HK.out.succ HQ.out.all)
                        go_wp2
                        go_roundw
                        case rel => exact ⟨k + 1, by omega, by go_num, HK2, HW⟩
                        case measure => simp [intOf]; omega
                  · obtain rfl : N = k := by omega
                    have HE4 : Hid (firstErr (fun i => firstErr (aboveAt rows job fee i) m) rows.length = 0) := by
                      have h := HK.out.all
                      rw [HNN.out] at h
                      exact h
                    have b2 := HW.out.1.b2
                    obtain ⟨w3, rfl⟩ : ∃ w3 : World, w3 = wr := ⟨_, rfl⟩
                    clear HK hk hlt
                    go_wp2
                    clear b2
                    go_loopw [149] (fun s149 wr => ∃ k : Nat, k ≤ m ∧ s149 = .int .i64 k ∧ Hid (NoErr (positiveAt fee) k) ∧ w3 = wr) (fun s149 _ => m - (intOf s149).toNat)
                    case atStart => exact ⟨0, by omega, rfl, Lib.hid (NoErr.zero _), rfl⟩
                    case round =>
                      obtain ⟨k, hk, rfl, HK, rfl⟩ := hrel
                      by_cases hlt : k < m
                      · obtain ⟨bf, offf, rfl, kf⟩ := HW.out.1.ff.int0 (i := k) (by rw [← HNF.out]; exact hlt)
                        obtain ⟨F, hF⟩ : ∃ F, F = at0 fee k := ⟨_, rfl⟩
                        rw [← hF] at kf
                        by_cases hpos : 0 < F
                        · have HE : Hid (proofErr rows m press job fee cost = 20) := proofErr_5 HL.out HE1.out HE2.out HE3.out HE4.out (HK.out.bad (k := k) (by unfold positiveAt; rw [← hF, if_pos hpos]) (by decide) hlt) (by decide)
                          clear hF
                          go_wp2
                          go_ret
                          exact ⟨by rw [HE.out]; rfl, HW.out.2⟩
                        · have HK2 : Hid (NoErr (positiveAt fee) (k + 1)) := HK.out.succ (by unfold positiveAt; rw [← hF, if_neg hpos])
                          clear hF
                          go_wp2
                          go_roundw
                          case rel => exact ⟨k + 1, by omega, by go_num, HK2, trivial⟩
                          case measure => simp [intOf]; omega
                      · obtain rfl : m = k := by omega
                        have HE5 : Hid (firstErr (positiveAt fee) m = 0) := HK.out.all
                        have E := Lib.hid (proofErr_6 (cost := cost) HL.out HE1.out HE2.out HE3.out HE4.out HE5.out)
                        have b3 := HW.out.1.b3
                        have HCC : Hid (costOf rows press rows.length = C1) := by show _ = _; rw [HC1.out, HNN.out]
                        have HSS : Hid (sumN (at0 job) rows.length + sumN (at0 fee) m = S1 + S2) := by show _ = _; rw [HS1.out, HS2.out, HNN.out]
                        by_cases e1 : cost = C1
                        · by_cases e2 : cost = S1 + S2
                          · have HE : Hid (proofErr rows m press job fee cost = 0) := by rw [E.out, HCC.out, HSS.out]; exact if_neg (by omega)
                            have c1 : (cost != C1) = false := by simp [e1]
                            have c2 : (cost != S1 + S2) = false := by simp [e2]
                            clear e1 e2
                            go_wp2
                            go_ret
                            exact ⟨by rw [HE.out]; rfl, HW.out.2⟩
                          · have HE : Hid (proofErr rows m press job fee cost = 11) := by rw [E.out, HCC.out, HSS.out]; exact if_pos (by omega)
                            have c1 : (cost != C1) = false := by simp [e1]
                            have c2 : (cost != S1 + S2) = true := by simp [e2]
                            clear e1 e2
                            go_wp2
                            go_ret
                            exact ⟨by rw [HE.out]; rfl, HW.out.2⟩
                        · have HE : Hid (proofErr rows m press job fee cost = 11) := by rw [E.out, HCC.out, HSS.out]; exact if_pos (by omega)
                          have c1 : (cost != C1) = true := by simp [e1]
                          clear e1
                          go_wp2
                          go_ret
                          exact ⟨by rw [HE.out]; rfl, HW.out.2⟩
  · have HE : Hid (proofErr rows m press job fee cost = 4) := proofErr_len (by omega)
    clear hNN hG lp lj lf hx hp hj hf hnp hnj hnf
    by_cases e1 : np = N
    · subst e1
      by_cases e2 : nj = np
      · have e3 : ((nf : Int) != (m : Int)) = true := bne_iff_ne.2 (by omega)
        subst e2
        clear hl
        go_enter Try.func18, Try.ntmps18
        go_wp2
        go_quiet (fail)
        go_wp2
        go_ret
        exact ⟨by rw [HE.out]; rfl, bdrewN HB0.out _⟩
      · have e3 : ((nj : Int) != (np : Int)) = true := bne_iff_ne.2 (by omega)
        clear hl e2
        go_enter Try.func18, Try.ntmps18
        go_wp2
        go_quiet (fail)
        go_wp2
        go_ret
        exact ⟨by rw [HE.out]; rfl, bdrewN HB0.out _⟩
    · have e3 : ((np : Int) != (N : Int)) = true := bne_iff_ne.2 (by omega)
      clear hl e1
      go_enter Try.func18, Try.ntmps18
      go_wp2
      go_quiet (fail)
      go_wp2
      go_ret
      exact ⟨by rw [HE.out]; rfl, bdrewN HB0.out _⟩
end Go.Proofs.Ytjggcnpnjnmamaa
