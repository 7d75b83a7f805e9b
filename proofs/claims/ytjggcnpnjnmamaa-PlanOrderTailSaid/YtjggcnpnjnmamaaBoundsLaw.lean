/-
  PlanDualBoundsAll: its walk, over opened arguments. Own text.
-/
import Derived.Test.YtjggcnpnjnmamaaVerLaw
import Derived.Test.YtjggcnpnjnmamaaPlanLaw
namespace Go.Proofs.Ytjggcnpnjnmamaa
open Go.ChangeShapes Go.WideShapes Go.ChangeAt Go.RowKit
set_option linter.unusedVariables false
theorem FTab.lst {w : World} {g n : Nat} {t : Nat → Int} (h : FTab (Value.int .i64) w g n t) : Flat w 1 encInt (some ⟨g, 0, none⟩) (lst n t) := h.list (Go.Proofs.Ytjggcnpnjnmamaa.lst n t) (lst_length n t) (fun i hi => by simp [Go.Proofs.Ytjggcnpnjnmamaa.lst])
/-- Verify accepts a plan of Assign. -/
theorem verify_plan (b off cap : Nat) (rows : List (List Int)) (N m gp gj gf cj cf : Nat) (u v : Nat → Int) (pr : Nat → Nat) (press job fee : Nat → Int) (cost : Int) (w : World) (hNN : N = rows.length) (hG : GoodCosts rows m) (hc : costsErr rows = 0) (hx : Rows1 w 1 encInt (some ⟨b, off, none⟩) rows)
    (hP : IsPlan N m (cOf rows) u v pr press job fee cost) (tp : FTab (Value.int .i64) w gp N press) (tj : FTab (Value.int .i64) w gj N job) (tf : FTab (Value.int .i64) w gf m fee) :
    Calls Try.prog 22 #[.slice (some ⟨b, off, none⟩) N cap, .agg #[.slice (some ⟨gp, 0, none⟩) N N, .slice (some ⟨gj, 0, none⟩) N cj, .slice (some ⟨gf, 0, none⟩) m cf, .int .i64 cost]] w fun e w' => e = .returned (.int .i64 0) ∧ Below w.heap.size w w' := by
  have hm := hG.n12
  have hn := hG.rn
  have h := verify_ok b off cap rows N m (some ⟨gp, 0, none⟩) (some ⟨gj, 0, none⟩) (some ⟨gf, 0, none⟩) N cj cf (lst N press) (lst N job) (lst m fee) cost w hNN hG hc hx tp.lst tj.lst tf.lst
    (by rw [lst_length]; unfold maxLen; omega) (by rw [lst_length]; unfold maxLen; omega) (by rw [lst_length]; unfold maxLen; omega)
  rw [lst_length, lst_length, lst_length, hP.noErr hNN] at h
  exact h
theorem PlanAt.alloc {B N m gp gj gf : Nat} {press job fee : Nat → Int} {w : World} (h : PlanAt B N m gp gj gf press job fee w) (h1 : 0 < N) (h2 : 0 < m) (o : Obj) : PlanAt B N m gp gj gf press job fee (w.alloc o) :=
  ⟨h.tp.alloc (h.tp.lt h1) o, h.tj.alloc (h.tj.lt h1) o, h.tf.alloc (h.tf.lt h2) o, h.l1, h.l2, h.l3, h.d4, h.d5, h.d6⟩
theorem PlanAt.below {B N m gp gj gf : Nat} {press job fee : Nat → Int} {w w' : World} (h : PlanAt B N m gp gj gf press job fee w) (h1 : 0 < N) (h2 : 0 < m) (hb : Below w.heap.size w w') : PlanAt B N m gp gj gf press job fee w' :=
  ⟨h.tp.below hb (h.tp.lt h1), h.tj.below hb (h.tj.lt h1), h.tf.below hb (h.tf.lt h2), h.l1, h.l2, h.l3, h.d4, h.d5, h.d6⟩
theorem rowZero {w : World} {b off m : Nat} {rows : List (List Int)} (hx : Rows1 w 1 encInt (some ⟨b, off, none⟩) rows) (hG : GoodCosts rows m) : ∃ oa cap, w.cell? ⟨b, off, none⟩ = some (.slice oa m cap) := by
  have h1 := hG.r1
  obtain ⟨oa, cap, h2, h3, h4⟩ := hx.at (i := 0) (by omega)
  rw [hG.len 0 (by omega)] at h2
  exact ⟨oa, cap, h2⟩
theorem IsPlan.jobN {N m : Nat} {c : Nat → Nat → Int} {u v : Nat → Int} {pr : Nat → Nat} {press job fee : Nat → Int} {cost : Int} (h : IsPlan N m c u v pr press job fee cost) {i : Nat} (hi : i < N) : -1048576 ≤ job i ∧ job i ≤ 1048576 := by
  have := h.p0.ub (i + 1) (by omega) (by omega)
  rw [h.job']
  omega
theorem IsPlan.feeN {N m : Nat} {c : Nat → Nat → Int} {u v : Nat → Int} {pr : Nat → Nat} {press job fee : Nat → Int} {cost : Int} (h : IsPlan N m c u v pr press job fee cost) {i : Nat} (hi : i < m) : -1048576 ≤ fee i ∧ fee i ≤ 1048576 := by
  have := h.p0.vb (i + 1) (by omega) (by omega)
  rw [h.fee']
  omega
set_option maxHeartbeats 2000000 in
theorem bounds_bad (oa : Option Addr) (rows : List (List Int)) (cap : Nat) (s : Int) (w : World) (hm : rows.length ≤ maxLen) (hx : Rows1 w 1 encInt oa rows) (hc : costsErr rows ≠ 0) :
    Calls Try.prog 7 #[.slice oa rows.length cap, .int .i64 s] w fun e w' => e = .returned (.bool true) ∧ Below w.heap.size w w' := by
  obtain ⟨E, hE⟩ : ∃ E, E = costsErr rows := ⟨_, rfl⟩
  have HA := Lib.hid (fun w1 (hb : Below w.heap.size w w1) => assign_bad oa rows cap w1 hm (hx.below hb) hc)
  have HC := Lib.hid (fun w1 (hb : Below w.heap.size w w1) => check_any oa rows cap w1 hm (hx.below hb))
  rw [← hE] at HA HC
  have h1 : (E != 0) = true := by rw [hE]; exact bne_iff_ne.2 hc
  have h2 : (E == E) = true := by simp
  unfold noPlan at HA
  clear hE hx hc
  go_enter Try.func7, Try.ntmps7
  go_wp2_with (first | (go_at_call 19; (with_reducible refine (plansK_any _).mono ?_); rintro e w1 ⟨rfl, hb1⟩; have HB1 := Lib.hid hb1; clear hb1) | (go_at_call 14; (with_reducible refine (HA.out _ HB1.out).mono ?_); rintro e w2 ⟨rfl, hb2⟩; have HB2 := Lib.hid (balloc (bthen HB1.out hb2) (.cells #[.slice none 0 0, .slice none 0 0, .slice none 0 0, .int .i64 0] 27)); clear hb2) | (go_at_call 16; (with_reducible refine (HC.out _ HB2.out).mono ?_); rintro e w' ⟨rfl, rfl⟩))
  go_ret
  exact ⟨rfl, HB2.out⟩
set_option maxRecDepth 100000 in
set_option maxHeartbeats 4000000 in
theorem bounds_ok (b off : Nat) (rows : List (List Int)) (cap N m : Nat) (sh : Int) (w : World) (hNN : N = rows.length) (hG : GoodCosts rows m) (hc : costsErr rows = 0) (hx : Rows1 w 1 encInt (some ⟨b, off, none⟩) rows) :
    Calls Try.prog 7 #[.slice (some ⟨b, off, none⟩) N cap, .int .i64 sh] w fun e w' => e = .returned (.bool true) ∧ Below w.heap.size w w' := by
  have hm12 := hG.n12
  have hn1 := hG.r1
  have hrn := hG.rn
  rw [← hNN] at hn1 hrn
  have HX := Lib.hid hx
  have HG := Lib.hid hG
  have HNN := Lib.hid hNN
  have HA := Lib.hid (fun w1 (hb : Below w.heap.size w w1) => assign_ok b off rows cap N m w1 hNN (hx.below hb) hc hG)
  have HC0 := Lib.hid hc
  obtain ⟨s, hs⟩ : ∃ s : Nat, (s : Int) = wi sh 0 ((m : Int) - 1) := ⟨(wi sh 0 ((m : Int) - 1)).toNat, by have := wi_bd sh 0 ((m : Int) - 1) (by omega); omega⟩
  have hsm : s < m := by have := wi_bd sh 0 ((m : Int) - 1) (by omega); omega
  have HW := Lib.hid (fun w1 => within_any sh 0 ((m : Int) - 1) w1 (by omega) (by omega) (by omega))
  rw [← hs] at HW
  have hz1 : 0 < N := by omega
  clear hs hNN hG hc hx
  go_enter Try.func7, Try.ntmps7
  go_wp2_with (first | (go_at_call 19; (with_reducible refine (plansK_any _).mono ?_); rintro e w1 ⟨rfl, hb1⟩; have HB1 := Lib.hid hb1; clear hb1) | (go_at_call 14; (with_reducible refine (HA.out _ HB1.out).mono ?_); rintro e w2 ⟨gp, gj, gf, cj, cf, u, v, pr, press, job, fee, cost, rfl, hP, hAt, hb2⟩; unfold planV; have HP := Lib.hid hP; have HAt := Lib.hid hAt; have HB2 := Lib.hid (bthen HB1.out hb2); have HB3 := Lib.hid (balloc HB2.out (.cells #[.slice (some ⟨gp, 0, none⟩) N N, .slice (some ⟨gj, 0, none⟩) N cj, .slice (some ⟨gf, 0, none⟩) m cf, .int .i64 cost] 27)); have HA3 := Lib.hid (HAt.out.alloc hz1 (Nat.lt_of_lt_of_le hz1 hrn) (.cells #[.slice (some ⟨gp, 0, none⟩) N N, .slice (some ⟨gj, 0, none⟩) N cj, .slice (some ⟨gf, 0, none⟩) m cf, .int .i64 cost] 27)); clear hb2 hP hAt) | (go_at_call 22; (with_reducible refine (verify_plan b off cap rows N m gp gj gf cj cf u v pr press job fee cost _ HNN.out HG.out HC0.out (HX.out.below HB3.out) HP.out HA3.out.tp HA3.out.tj HA3.out.tf).mono ?_); rintro e w4 ⟨rfl, hb4⟩; have HB4 := Lib.hid (bthen HB3.out hb4); have HA4 := Lib.hid (HA3.out.below hz1 (Nat.lt_of_lt_of_le hz1 hrn) hb4); obtain ⟨r0, r1, r2, r3, _⟩ := resCells hb4; obtain ⟨oa0, cap0, c0⟩ := rowZero (HX.out.below HB4.out) HG.out; clear hb4) | (go_at_call 20; (with_reducible refine (HW.out _).mono ?_); rintro e w5 ⟨rfl, rfl⟩))
  have hcost := Lib.hid (HP.out.sumsN)
  have hless := Lib.hid (HP.out.shifted hrn s)
  have hjb := Lib.hid (fun i (h1 : i < N) => HP.out.jobN h1)
  have hfb := Lib.hid (fun i (h1 : i < m) => HP.out.feeN h1)
  go_loopw [8, 9, 40] (fun s8 s9 s40 wr => ∃ k : Nat, k ≤ N ∧ s40 = .int .i64 k ∧ s8 = .int .i64 (sumN job k) ∧ s9 = .int .i64 (sumN (fun i => cOf rows (i + 1) ((i + s) % m + 1)) k) ∧ Hid (Below w4.heap.size w4 wr)) (fun _ _ s40 _ => N - (intOf s40).toNat)
  case atStart => exact ⟨0, by omega, rfl, rfl, rfl, Lib.hid (Below.refl _ _)⟩
  case round =>
    obtain ⟨k, hk, rfl, rfl, rfl, HR⟩ := hrel
    have hs1 := sumN_bd (f := job) (B := 1048576) (n := k) (fun q hq => hjb.out q (by omega))
    have hs2 := sumN_bd (f := fun i => cOf rows (i + 1) ((i + s) % m + 1)) (B := 1048576) (n := k) (fun q hq => by have := HG.out.c (q + 1) ((q + s) % m + 1); omega)
    by_cases hlt : k < N
    · obtain ⟨t, ht⟩ : ∃ t, t = (k + s) % m := ⟨_, rfl⟩
      have htm : t < m := by rw [ht]; exact Nat.mod_lt _ (by omega)
      obtain ⟨bk, offk, capk, kc1, kc2⟩ := costCell (HX.out.below (bthen HB4.out HR.out)) HG.out (Below.refl _ wr) (r := k) (q := t) (by rw [← HNN.out]; exact hlt) htm
      have hcx := HG.out.c (k + 1) (t + 1)
      obtain ⟨X, hX⟩ : ∃ X, X = cOf rows (k + 1) (t + 1) := ⟨_, rfl⟩
      rw [← hX] at kc2 hcx
      have q1 := keepCell HR.out r1
      have kj := (HA4.out.tj.below HR.out (HA4.out.tj.lt hz1)).at' k hlt
      have hjk := hjb.out k hlt
      have HS1 : Hid (sumN job (k + 1) = sumN job k + job k) := rfl
      have HS2 : Hid (sumN (fun i => cOf rows (i + 1) ((i + s) % m + 1)) (k + 1) = sumN (fun i => cOf rows (i + 1) ((i + s) % m + 1)) k + X) := by show _ = _; rw [hX, ht]; rfl
      generalize job k = J at *
      generalize sumN job k = S at *
      generalize sumN (fun i => cOf rows (i + 1) ((i + s) % m + 1)) k = C at *
      have g1 : IntKind.i64.wrap ((k : Int) + (s : Int)) = (k : Int) + (s : Int) := IntWalk.i64_in _ (by omega)
      have g2 : ((k : Int) + (s : Int)).tmod (m : Int) = (t : Int) := by rw [Int.tmod_eq_emod_of_nonneg (by omega), ht]; simp
      have g3 : IntKind.i64.wrap (C + X) = C + X := IntWalk.i64_in _ (by omega)
      have g4 : IntKind.i64.wrap (t : Int) = (t : Int) := IntWalk.i64_in _ (by omega)
      have i1 : (t : Int) < (m : Int) := by omega
      have i2 : (k : Int) < (N : Int) := by omega
      have i3 : ¬ (m : Int) = 0 := by omega
      have i4 : ((m : Int) == 0) = false := beq_eq_false_iff_ne.2 i3
      clear ht hX
      go_wp2
      go_quiet (fail)
      have HR2 := Lib.hid (bdrewN HR.out nq)
      go_wp2
      go_roundw
      case rel => exact ⟨k + 1, by omega, by go_num, by rw [HS1.out], by rw [HS2.out], HR2⟩
      case measure => simp [intOf]; omega
    · obtain rfl : N = k := by omega
      obtain ⟨S1, hS1⟩ : ∃ S, S = sumN job N := ⟨_, rfl⟩
      obtain ⟨C1, hC1⟩ : ∃ C, C = sumN (fun i => cOf rows (i + 1) ((i + s) % m + 1)) N := ⟨_, rfl⟩
      rw [← hS1] at hs1 ⊢
      rw [← hC1] at hs2 ⊢
      have HS1 := Lib.hid hS1
      have HC1 := Lib.hid hC1
      clear hS1 hC1 hlt
      have q2 := keepCell HR.out r2
      have q3 := keepCell HR.out r3
      have hz2 : 0 < m := by omega
      have HTF := Lib.hid (HA4.out.tf.below HR.out (HA4.out.tf.lt hz2))
      obtain ⟨w6, rfl⟩ : ∃ w6 : World, w6 = wr := ⟨_, rfl⟩
      go_wp2
      go_loop [8, 67] (fun s8 s67 => ∃ k : Nat, k ≤ m ∧ s67 = .int .i64 k ∧ s8 = .int .i64 (S1 + sumN fee k)) (fun _ s67 => m - (intOf s67).toNat)
      case atStart => exact ⟨0, by omega, rfl, by simp [sumN]⟩
      case round =>
        obtain ⟨k, hk, rfl, rfl⟩ := hrel
        have hs3 := sumN_bd (f := fee) (B := 1048576) (n := k) (fun q hq => hfb.out q (by omega))
        by_cases hlt : k < m
        · have kf := HTF.out.at' k hlt
          have hfk := hfb.out k hlt
          have HS : Hid (S1 + sumN fee (k + 1) = S1 + sumN fee k + fee k) := by show _ = _; simp only [sumN]; omega
          generalize fee k = F at *
          generalize sumN fee k = S at *
          go_wp2
          go_round
          case rel => exact ⟨k + 1, by omega, by go_num, by rw [HS.out]⟩
          case measure => simp [intOf]; omega
        · obtain rfl : m = k := by omega
          have e1 : S1 + sumN fee m = cost := by rw [hcost.out, HS1.out]
          have e2 : cost ≤ C1 := by rw [HC1.out]; exact hless.out
          rw [e1]
          have e3 : (cost == cost) = true := by simp
          clear e1 hlt
          go_wp2
          go_ret
          exact ⟨rfl, bthen HB4.out HR.out⟩
theorem bounds_law (v : Value) {w : World} (hv : RowsArg w v) (s : Int) (hs : i64ok s) :
    Calls Try.prog 7 #[v, .int .i64 s] w fun e w' => e = .returned (.bool true) ∧ Below w.heap.size w w' := by
  obtain ⟨rows, oa, cap, rfl, hm, _, _, hx, _⟩ := hv
  by_cases hc : costsErr rows = 0
  · obtain ⟨m, hG⟩ := GoodCosts.of hc
    obtain ⟨b, off, rfl⟩ := hx.some hG.r1
    exact bounds_ok b off rows cap rows.length m s w rfl hG hc hx
  · exact bounds_bad oa rows cap s w hm hx hc
end Go.Proofs.Ytjggcnpnjnmamaa
