/-
  PlanVerifyDamaged: its walk, over opened arguments. Own text.
-/
import Derived.Test.YtjggcnpnjnmamaaCheapLaw
import Derived.StillTailTactics
namespace Go.Proofs.Ytjggcnpnjnmamaa
open Go.ChangeShapes Go.WideShapes Go.ChangeAt Go.RowKit
set_option linter.unusedVariables false
set_option maxHeartbeats 400000 in
theorem withinL_any (x lo hi : Int) (w : World) (h0 : -1000000000000000000 ≤ lo) (h1 : lo ≤ hi) (h2 : hi ≤ 1000000000000000000) :
    Calls Try.prog 23 #[.int .i64 x, .int .i64 lo, .int .i64 hi] w fun e w' => e = .returned (.int .i64 (wi x lo hi)) ∧ w = w' := by
  have hb := tmod_bd x (hi - lo + 1) (by omega)
  have hr := Int.emod_nonneg (x.tmod (hi - lo + 1)) (b := (hi - lo + 1)) (by omega)
  have hr2 := Int.emod_lt_of_pos (x.tmod (hi - lo + 1)) (b := (hi - lo + 1)) (by omega)
  go_enter Try.func23, Try.ntmps23
  go_wp2
  go_ret
  exact ⟨rfl, rfl⟩
theorem verify_lists (b off cap : Nat) (rows : List (List Int)) (N m gp gj gf cj cf : Nat) (press job fee : Nat → Int) (cost : Int) (w : World) (hNN : N = rows.length) (hG : GoodCosts rows m) (hc : costsErr rows = 0) (hx : Rows1 w 1 encInt (some ⟨b, off, none⟩) rows)
    (tp : FTab (Value.int .i64) w gp N press) (tj : FTab (Value.int .i64) w gj N job) (tf : FTab (Value.int .i64) w gf m fee) :
    Calls Try.prog 22 #[.slice (some ⟨b, off, none⟩) N cap, .agg #[.slice (some ⟨gp, 0, none⟩) N N, .slice (some ⟨gj, 0, none⟩) N cj, .slice (some ⟨gf, 0, none⟩) m cf, .int .i64 cost]] w fun e w' => e = .returned (.int .i64 (proofErr rows m (lst N press) (lst N job) (lst m fee) cost)) ∧ Below w.heap.size w w' := by
  have hm := hG.n12
  have hn := hG.rn
  have h := verify_ok b off cap rows N m (some ⟨gp, 0, none⟩) (some ⟨gj, 0, none⟩) (some ⟨gf, 0, none⟩) N cj cf (lst N press) (lst N job) (lst m fee) cost w hNN hG hc hx tp.lst tj.lst tf.lst
    (by rw [lst_length]; unfold maxLen; omega) (by rw [lst_length]; unfold maxLen; omega) (by rw [lst_length]; unfold maxLen; omega)
  rw [lst_length, lst_length, lst_length] at h
  exact h
theorem proof_lists (b off cap : Nat) (rows : List (List Int)) (N m gp gj gf cj cf : Nat) (press job fee : Nat → Int) (cost : Int) (w : World) (hNN : N = rows.length) (hG : GoodCosts rows m) (hx : Rows1 w 1 encInt (some ⟨b, off, none⟩) rows)
    (tp : FTab (Value.int .i64) w gp N press) (tj : FTab (Value.int .i64) w gj N job) (tf : FTab (Value.int .i64) w gf m fee) :
    Calls Try.prog 18 #[.slice (some ⟨b, off, none⟩) N cap, .agg #[.slice (some ⟨gp, 0, none⟩) N N, .slice (some ⟨gj, 0, none⟩) N cj, .slice (some ⟨gf, 0, none⟩) m cf, .int .i64 cost]] w fun e w' => e = .returned (.int .i64 (proofErr rows m (lst N press) (lst N job) (lst m fee) cost)) ∧ Below w.heap.size w w' := by
  have hm := hG.n12
  have hn := hG.rn
  have h := proofError_any b off cap rows N m (some ⟨gp, 0, none⟩) (some ⟨gj, 0, none⟩) (some ⟨gf, 0, none⟩) N cj cf (lst N press) (lst N job) (lst m fee) cost w hNN hG hx tp.lst tj.lst tf.lst
    (by rw [lst_length]; unfold maxLen; omega) (by rw [lst_length]; unfold maxLen; omega) (by rw [lst_length]; unfold maxLen; omega)
  rw [lst_length, lst_length, lst_length] at h
  exact h
set_option maxHeartbeats 4000000 in
theorem damaged_bad (oa : Option Addr) (rows : List (List Int)) (cap : Nat) (pl by' : Int) (w : World) (hm : rows.length ≤ maxLen) (hcap : rows.length ≤ cap) (h0 : oa = none → cap = 0) (hx : RowsCap w oa rows) (hc : costsErr (tabV rows) ≠ 0) :
    Calls Try.prog 6 #[.slice oa rows.length cap, .int .i64 pl, .int .i64 by'] w fun e w' => e = .returned (.bool true) ∧ Below w.heap.size w w' := by
  obtain ⟨E, hE⟩ : ∃ E, E = costsErr (tabV rows) := ⟨_, rfl⟩
  obtain ⟨N, hN⟩ : ∃ N, N = (tabV rows).length := ⟨_, rfl⟩
  have hmT : (tabV rows).length ≤ maxLen := by rw [tabV_length]; unfold maxLen at hm ⊢; omega
  have HT := Lib.hid (fun w1 (hb : Below w.heap.size w w1) => table_any oa rows cap w1 hm hcap (hx.below hb) h0)
  have HA := Lib.hid (fun oa' cap' w1 hx' => assign_bad oa' (tabV rows) cap' w1 hmT hx' hc)
  have HK := Lib.hid (fun oa' cap' w1 hx' => check_any oa' (tabV rows) cap' w1 hmT hx')
  have HC := Lib.hid (fun oa' cap' w1 hx' => costsError_any oa' (tabV rows) cap' w1 hmT hx')
  rw [← hE] at HA HC HK
  rw [← hN] at HA HC HK
  have h1 : (E != 0) = true := by rw [hE]; exact bne_iff_ne.2 hc
  have h2 : (E == E) = true := by simp
  have h3 : (E != E) = false := by simp
  have HN := Lib.hid hN
  unfold noPlan at HA
  clear hE hx hc hN h0
  go_enter Try.func6, Try.ntmps6
  go_wp2_with (first | (go_at_call 12; (with_reducible refine (plansL_any _).mono ?_); rintro e w1 ⟨rfl, hb1⟩; have HB1 := Lib.hid hb1; clear hb1) | (go_at_call 13; (with_reducible refine (HT.out _ HB1.out).mono ?_); rintro e w2 ⟨oa', cap', rfl, hr2, hb2⟩; rw [← HN.out]; have HR2 := Lib.hid hr2; have HB2 := Lib.hid (bthen HB1.out hb2); clear hb2 hr2) | (go_at_call 14; (with_reducible refine (HA.out _ _ _ HR2.out).mono ?_); rintro e w3 ⟨rfl, hb3⟩; have HB3 := Lib.hid (balloc (bthen HB2.out hb3) (.cells #[.slice none 0 0, .slice none 0 0, .slice none 0 0, .int .i64 0] 27)); have HR3 := Lib.hid (HR2.out.below (balloc hb3 (.cells #[.slice none 0 0, .slice none 0 0, .slice none 0 0, .int .i64 0] 27))); clear hb3) | (go_at_call 15; (with_reducible refine (HC.out _ _ _ HR3.out).mono ?_); rintro e w' ⟨rfl, rfl⟩) | (go_at_call 16; (with_reducible refine (HK.out _ _ _ HR3.out).mono ?_); rintro e w' ⟨rfl, rfl⟩))
  go_ret
  exact ⟨rfl, HB3.out⟩
set_option maxRecDepth 100000 in
set_option maxHeartbeats 4000000 in
theorem damaged_ok (oa : Option Addr) (rows : List (List Int)) (cap m : Nat) (pl by' : Int) (w : World) (hm : rows.length ≤ maxLen) (hcap : rows.length ≤ cap) (h0 : oa = none → cap = 0) (hx : RowsCap w oa rows) (hc : costsErr (tabV rows) = 0) (hG : GoodCosts (tabV rows) m) :
    Calls Try.prog 6 #[.slice oa rows.length cap, .int .i64 pl, .int .i64 by'] w fun e w' => e = .returned (.bool true) ∧ Below w.heap.size w w' := by
  obtain ⟨T, hT⟩ : ∃ T, T = tabV rows := ⟨_, rfl⟩
  obtain ⟨N, hN⟩ : ∃ N, N = T.length := ⟨_, rfl⟩
  rw [← hT] at hc hG
  have hm12 := hG.n12
  have hrn := hG.rn
  have hr1 := hG.r1
  rw [← hN] at hrn hr1
  have HT : Hid (∀ w1 (hb : Below w.heap.size w w1), Calls Try.prog 13 #[.slice oa rows.length cap] w1 fun e w2 => ∃ b off cap', e = .returned (.slice (some ⟨b, off, none⟩) N cap') ∧ Rows1 w2 1 encInt (some ⟨b, off, none⟩) T ∧ Below w1.heap.size w1 w2) := by
    intro w1 hb
    refine (table_any oa rows cap w1 hm hcap (hx.below hb) h0).mono ?_
    rintro e w2 ⟨oa', cap', rfl, hr, hb2⟩
    rw [← hT] at hr
    obtain ⟨b, off, rfl⟩ := hr.some hG.r1
    exact ⟨b, off, cap', by rw [← hT, ← hN], hr, hb2⟩
  have HA := Lib.hid (fun b off cap' w1 hx' => assign_ok b off T cap' N m w1 hN hx' hc hG)
  have HK : Hid (∀ b off cap' w1, Rows1 w1 1 encInt (some ⟨b, off, none⟩) T → Calls Try.prog 16 #[.slice (some ⟨b, off, none⟩) N cap'] w1 fun e w' => e = .returned (.int .i64 0) ∧ w1 = w') := fun b off cap' w1 hx' => by
    have h := check_any (some ⟨b, off, none⟩) T cap' w1 (by rw [← hN]; unfold maxLen; omega) hx'
    rw [hc, ← hN] at h
    exact h
  have HC : Hid (∀ b off cap' w1, Rows1 w1 1 encInt (some ⟨b, off, none⟩) T → Calls Try.prog 15 #[.slice (some ⟨b, off, none⟩) N cap'] w1 fun e w' => e = .returned (.int .i64 0) ∧ w1 = w') := fun b off cap' w1 hx' => by
    have h := costsError_any (some ⟨b, off, none⟩) T cap' w1 (by rw [← hN]; unfold maxLen; omega) hx'
    rw [hc, ← hN] at h
    exact h
  have HN := Lib.hid hN
  have HC0 := Lib.hid hc
  have HG := Lib.hid hG
  have hz1 : 0 < N := by omega
  have hz2 : 0 < m := by omega
  obtain ⟨y, hy⟩ : ∃ y, y = wi by' (-3) 3 := ⟨_, rfl⟩
  have hyb := wi_bd by' (-3) 3 (by omega)
  rw [← hy] at hyb
  obtain ⟨z, hz⟩ : ∃ z : Nat, (z : Int) = wi pl 0 (2 * (N : Int) + (m : Int)) := ⟨(wi pl 0 (2 * (N : Int) + (m : Int))).toNat, by have := wi_bd pl 0 (2 * (N : Int) + (m : Int)) (by omega); omega⟩
  have hzb : z ≤ 2 * N + m := by have := wi_bd pl 0 (2 * (N : Int) + (m : Int)) (by omega); omega
  have HW1 := Lib.hid (fun w1 => withinL_any by' (-3) 3 w1 (by omega) (by omega) (by omega))
  have HW2 := Lib.hid (fun w1 => withinL_any pl 0 (2 * (N : Int) + (m : Int)) w1 (by omega) (by omega) (by omega))
  rw [← hy] at HW1
  rw [← hz] at HW2
  clear hT hN hc hG hx h0 hy hz
  go_enter Try.func6, Try.ntmps6
  go_wp2_with (first | (go_at_call 12; (with_reducible refine (plansL_any _).mono ?_); rintro e w1 ⟨rfl, hb1⟩; have HB1 := Lib.hid hb1; clear hb1) | (go_at_call 13; (with_reducible refine (HT.out _ HB1.out).mono ?_); rintro e w2 ⟨b, off, cap', rfl, hr2, hb2⟩; have HR2 := Lib.hid hr2; have HB2 := Lib.hid (bthen HB1.out hb2); clear hb2 hr2) | (go_at_call 14; (with_reducible refine (HA.out _ _ _ _ HR2.out).mono ?_); rintro e w3 ⟨gp, gj, gf, cj, cf, u, v, pr, press, job, fee, cost, rfl, hP, hAt, hb3⟩; unfold planV; have HP := Lib.hid hP; have HB3 := Lib.hid (balloc (bthen HB2.out hb3) (.cells #[.slice (some ⟨gp, 0, none⟩) N N, .slice (some ⟨gj, 0, none⟩) N cj, .slice (some ⟨gf, 0, none⟩) m cf, .int .i64 cost] 27)); have HR3 := Lib.hid (HR2.out.below (balloc hb3 (.cells #[.slice (some ⟨gp, 0, none⟩) N N, .slice (some ⟨gj, 0, none⟩) N cj, .slice (some ⟨gf, 0, none⟩) m cf, .int .i64 cost] 27))); have HA3 := Lib.hid (hAt.alloc hz1 hz2 (.cells #[.slice (some ⟨gp, 0, none⟩) N N, .slice (some ⟨gj, 0, none⟩) N cj, .slice (some ⟨gf, 0, none⟩) m cf, .int .i64 cost] 27)); have lgp := hAt.tp.lt hz1; have lgj := hAt.tj.lt hz1; have lgf := hAt.tf.lt hz2; have HB23 := Lib.hid (balloc hb3 (.cells #[.slice (some ⟨gp, 0, none⟩) N N, .slice (some ⟨gj, 0, none⟩) N cj, .slice (some ⟨gf, 0, none⟩) m cf, .int .i64 cost] 27)); have hsz2 := HB2.out.size; clear hb3 hP hAt) | (go_at_call 15; (with_reducible refine (HC.out _ _ _ _ HR3.out).mono ?_); rintro e w' ⟨rfl, rfl⟩) | (go_at_call 18; (with_reducible refine (proof_plan b off cap' T N m gp gj gf cj cf u v pr press job fee cost _ HN.out HG.out HR3.out HP.out HA3.out.tp HA3.out.tj HA3.out.tf).mono ?_); rintro e w4 ⟨rfl, hb4⟩; have HB4 := Lib.hid (bthen HB3.out hb4); have HR4 := Lib.hid (HR3.out.below hb4); have HA4 := Lib.hid (HA3.out.below hz1 hz2 hb4); have HB24 := Lib.hid (bthen HB23.out hb4); obtain ⟨r0, r1, r2, r3, rz⟩ := resCells hb4; clear hb4) | (go_at_call 23; (with_reducible refine (HW1.out _).mono ?_); rintro e w5 ⟨rfl, rfl⟩))
  go_quiet (fail)
  have HB5 := Lib.hid (bdrewN HB4.out nq)
  have HB25 := Lib.hid (bdrewN HB24.out nq)
  have HT5 := Lib.hid (HA4.out.tp.drewN nq)
  have HJ5 := Lib.hid (HA4.out.tj.drewN nq)
  have HF5 := Lib.hid (HA4.out.tf.drewN nq)
  have x0 : (w4.drewN nq).cell? ⟨w3.heap.size, 0, none⟩ = some (.slice (some ⟨gp, 0, none⟩) N N) := r0
  have x1 : (w4.drewN nq).cell? ⟨w3.heap.size, 1, none⟩ = some (.slice (some ⟨gj, 0, none⟩) N cj) := r1
  have x2 : (w4.drewN nq).cell? ⟨w3.heap.size, 2, none⟩ = some (.slice (some ⟨gf, 0, none⟩) m cf) := r2
  have x3 : (w4.drewN nq).cell? ⟨w3.heap.size, 3, none⟩ = some (.int .i64 cost) := r3
  have xz : (w4.drewN nq).frozen? ⟨w3.heap.size, 3, none⟩ = false := rz 3
  have dA := HA4.out
  have l1 := dA.l1
  have l2 := dA.l2
  have l3 := dA.l3
  have d4 := dA.d4
  have d5 := dA.d5
  have d6 := dA.d6
  have hcb : 0 ≤ cost ∧ cost ≤ 12582912 := by
    have h1 := HP.out.costN
    have h2 := sumN_bd (f := fun i => cOf T (i + 1) ((press i).toNat + 1)) (B := 1048576) (n := N) (fun q hq => by have := HG.out.c (q + 1) ((press q).toNat + 1); omega)
    have h3 := HP.out.asg hrn HG.out.c
    have h4 := asg_bd (N := N) HG.out.c (f := N) (used := fun _ => false) (m := m) (by rw [freeN_none]; exact hrn)
    omega
  generalize w4.drewN nq = w5 at *
  clear dA r0 r1 r2 r3 rz HT HA HK HC HB4 HA4 HB24 HR4 HA3
  have g1 : IntKind.i64.wrap (2 * (N : Int)) = 2 * (N : Int) := IntWalk.i64_in _ (by omega)
  by_cases c1 : z < N
  · skip
    have kz := HT5.out.at' z c1
    have zz := HT5.out.fz z
    have hpz := HP.out.pressN c1
    obtain ⟨P, hPP⟩ : ∃ P, P = press z := ⟨_, rfl⟩
    have hpb : 0 ≤ P ∧ P ≤ 12 := by rw [hPP]; omega
    rw [← hPP] at kz
    clear hpz
    replace hPP := Lib.hid hPP
    have HPp : Hid (FTab (Value.int .i64) (w5.setCell ⟨gp, z, none⟩ (.int .i64 (P + y))) gp N (fun j => if j = z then P + y else press j)) := HT5.out.set c1 (P + y)
    have HPj : Hid (FTab (Value.int .i64) (w5.setCell ⟨gp, z, none⟩ (.int .i64 (P + y))) gj N (job)) := HJ5.out.other d4 _
    have HPf : Hid (FTab (Value.int .i64) (w5.setCell ⟨gp, z, none⟩ (.int .i64 (P + y))) gf m (fee)) := HF5.out.other d5 _
    have HBB : Hid (Below w.heap.size w (w5.setCell ⟨gp, z, none⟩ (.int .i64 (P + y)))) := HB5.out.setCell (p := ⟨gp, z, none⟩) (by show w.heap.size ≤ gp; omega) _
    have HRR : Hid (Rows1 (w5.setCell ⟨gp, z, none⟩ (.int .i64 (P + y))) 1 encInt (some ⟨b, off, none⟩) T) := HR2.out.below (HB25.out.setCell (p := ⟨gp, z, none⟩) (by show w2.heap.size ≤ gp; omega) _)
    have y0 : (w5.setCell ⟨gp, z, none⟩ (.int .i64 (P + y))).cell? ⟨w3.heap.size, 0, none⟩ = some (.slice (some ⟨gp, 0, none⟩) N N) := cell_other (by omega) x0
    have y1 : (w5.setCell ⟨gp, z, none⟩ (.int .i64 (P + y))).cell? ⟨w3.heap.size, 1, none⟩ = some (.slice (some ⟨gj, 0, none⟩) N cj) := cell_other (by omega) x1
    have y2 : (w5.setCell ⟨gp, z, none⟩ (.int .i64 (P + y))).cell? ⟨w3.heap.size, 2, none⟩ = some (.slice (some ⟨gf, 0, none⟩) m cf) := cell_other (by omega) x2
    have y3 : (w5.setCell ⟨gp, z, none⟩ (.int .i64 (P + y))).cell? ⟨w3.heap.size, 3, none⟩ = some (.int .i64 (cost)) := cell_other (by omega) x3
    go_wp2_with (go_at_call 23; (with_reducible refine (HW2.out _).mono ?_); rintro e w' ⟨rfl, rfl⟩)
    generalize w5.setCell ⟨gp, z, none⟩ (.int .i64 (P + y)) = w8 at *
    obtain ⟨X, hX⟩ : ∃ X, X = proofErr T m (lst N (fun j => if j = z then P + y else press j)) (lst N (job)) (lst m (fee)) (cost) := ⟨_, rfl⟩
    have HVF : Hid (∀ w', Below w8.heap.size w8 w' → Calls Try.prog 22 #[.slice (some ⟨b, off, none⟩) N cap', .agg #[.slice (some ⟨gp, 0, none⟩) N N, .slice (some ⟨gj, 0, none⟩) N cj, .slice (some ⟨gf, 0, none⟩) m cf, .int .i64 (cost)]] w' fun e w'' => e = .returned (.int .i64 X) ∧ Below w'.heap.size w' w'') := by
      intro w' hb'
      rw [hX]
      exact verify_lists b off cap' T N m gp gj gf cj cf _ _ _ _ w' HN.out HG.out HC0.out (HRR.out.below hb') (HPp.out.below hb' (HPp.out.lt hz1)) (HPj.out.below hb' (HPj.out.lt hz1)) (HPf.out.below hb' (HPf.out.lt hz2))
    have HPF : Hid (∀ w', Below w8.heap.size w8 w' → Calls Try.prog 18 #[.slice (some ⟨b, off, none⟩) N cap', .agg #[.slice (some ⟨gp, 0, none⟩) N N, .slice (some ⟨gj, 0, none⟩) N cj, .slice (some ⟨gf, 0, none⟩) m cf, .int .i64 (cost)]] w' fun e w'' => e = .returned (.int .i64 X) ∧ Below w'.heap.size w' w'') := by
      intro w' hb'
      rw [hX]
      exact proof_lists b off cap' T N m gp gj gf cj cf _ _ _ _ w' HN.out HG.out (HRR.out.below hb') (HPp.out.below hb' (HPp.out.lt hz1)) (HPj.out.below hb' (HPj.out.lt hz1)) (HPf.out.below hb' (HPf.out.lt hz2))
    have hS : Hid (∀ w', Below w8.heap.size w8 w' → (Below w8.heap.size w8 w' ∧ w'.cell? ⟨w3.heap.size, 0, none⟩ = some (.slice (some ⟨gp, 0, none⟩) N N) ∧ w'.cell? ⟨w3.heap.size, 1, none⟩ = some (.slice (some ⟨gj, 0, none⟩) N cj) ∧ w'.cell? ⟨w3.heap.size, 2, none⟩ = some (.slice (some ⟨gf, 0, none⟩) m cf) ∧ w'.cell? ⟨w3.heap.size, 3, none⟩ = some (.int .i64 (cost)))) := fun w' hb' => ⟨hb', keepCell hb' y0, keepCell hb' y1, keepCell hb' y2, keepCell hb' y3⟩
    have q1 : (X == X) = true := by simp
    clear hX
    go_region_held3 (fun w' => Below w8.heap.size w8 w' ∧ w'.cell? ⟨w3.heap.size, 0, none⟩ = some (.slice (some ⟨gp, 0, none⟩) N N) ∧ w'.cell? ⟨w3.heap.size, 1, none⟩ = some (.slice (some ⟨gj, 0, none⟩) N cj) ∧ w'.cell? ⟨w3.heap.size, 2, none⟩ = some (.slice (some ⟨gf, 0, none⟩) m cf) ∧ w'.cell? ⟨w3.heap.size, 3, none⟩ = some (.int .i64 (cost)))
      ((refine hS.out _ ?_; go_grown))
      (first | fail | (go_simp; go_at_call 22; (with_reducible refine (HVF.out _ (And.left (by assumption))).mono ?_); rintro e wv ⟨rfl, hbv⟩; have hzv : Below w8.heap.size w8 wv := bthen (And.left (by assumption)) hbv; clear hbv) | (go_simp; go_at_call 18; (with_reducible refine (HPF.out _ (And.left (by assumption))).mono ?_); rintro e wp ⟨rfl, hbp⟩; have hzp : Below w8.heap.size w8 wp := bthen (And.left (by assumption)) hbp; clear hbp))
    all_goals
      go_wp2
      go_ret
      exact ⟨rfl, bthen HBB.out (by first | exact hzp | exact hzp.drew | exact bdrewN hzp _)⟩
  · by_cases c2 : z < 2 * N
    · obtain ⟨z2, hz2'⟩ : ∃ z2, z = N + z2 := ⟨z - N, by omega⟩
      have c3 : z2 < N := by omega
      have hsub : (z : Int) - (N : Int) = (z2 : Int) := by omega
      have t1 : (N : Int) ≤ (z : Int) := by omega
      have t2 : (z : Int) < 2 * (N : Int) := by omega
      clear hz2'
      have kz := HJ5.out.at' z2 c3
      have zz := HJ5.out.fz z2
      have hjz := HP.out.jobN c3
      obtain ⟨P, hPP⟩ : ∃ P, P = job z2 := ⟨_, rfl⟩
      rw [← hPP] at kz hjz
      replace hPP := Lib.hid hPP
      have HPp : Hid (FTab (Value.int .i64) (w5.setCell ⟨gj, z2, none⟩ (.int .i64 (P + y))) gp N (press)) := HT5.out.other d4.symm _
      have HPj : Hid (FTab (Value.int .i64) (w5.setCell ⟨gj, z2, none⟩ (.int .i64 (P + y))) gj N (fun j => if j = z2 then P + y else job j)) := HJ5.out.set c3 (P + y)
      have HPf : Hid (FTab (Value.int .i64) (w5.setCell ⟨gj, z2, none⟩ (.int .i64 (P + y))) gf m (fee)) := HF5.out.other d6 _
      have HBB : Hid (Below w.heap.size w (w5.setCell ⟨gj, z2, none⟩ (.int .i64 (P + y)))) := HB5.out.setCell (p := ⟨gj, z2, none⟩) (by show w.heap.size ≤ gj; omega) _
      have HRR : Hid (Rows1 (w5.setCell ⟨gj, z2, none⟩ (.int .i64 (P + y))) 1 encInt (some ⟨b, off, none⟩) T) := HR2.out.below (HB25.out.setCell (p := ⟨gj, z2, none⟩) (by show w2.heap.size ≤ gj; omega) _)
      have y0 : (w5.setCell ⟨gj, z2, none⟩ (.int .i64 (P + y))).cell? ⟨w3.heap.size, 0, none⟩ = some (.slice (some ⟨gp, 0, none⟩) N N) := cell_other (by omega) x0
      have y1 : (w5.setCell ⟨gj, z2, none⟩ (.int .i64 (P + y))).cell? ⟨w3.heap.size, 1, none⟩ = some (.slice (some ⟨gj, 0, none⟩) N cj) := cell_other (by omega) x1
      have y2 : (w5.setCell ⟨gj, z2, none⟩ (.int .i64 (P + y))).cell? ⟨w3.heap.size, 2, none⟩ = some (.slice (some ⟨gf, 0, none⟩) m cf) := cell_other (by omega) x2
      have y3 : (w5.setCell ⟨gj, z2, none⟩ (.int .i64 (P + y))).cell? ⟨w3.heap.size, 3, none⟩ = some (.int .i64 (cost)) := cell_other (by omega) x3
      go_wp2_with (go_at_call 23; (with_reducible refine (HW2.out _).mono ?_); rintro e w' ⟨rfl, rfl⟩)
      generalize w5.setCell ⟨gj, z2, none⟩ (.int .i64 (P + y)) = w8 at *
      obtain ⟨X, hX⟩ : ∃ X, X = proofErr T m (lst N (press)) (lst N (fun j => if j = z2 then P + y else job j)) (lst m (fee)) (cost) := ⟨_, rfl⟩
      have HVF : Hid (∀ w', Below w8.heap.size w8 w' → Calls Try.prog 22 #[.slice (some ⟨b, off, none⟩) N cap', .agg #[.slice (some ⟨gp, 0, none⟩) N N, .slice (some ⟨gj, 0, none⟩) N cj, .slice (some ⟨gf, 0, none⟩) m cf, .int .i64 (cost)]] w' fun e w'' => e = .returned (.int .i64 X) ∧ Below w'.heap.size w' w'') := by
        intro w' hb'
        rw [hX]
        exact verify_lists b off cap' T N m gp gj gf cj cf _ _ _ _ w' HN.out HG.out HC0.out (HRR.out.below hb') (HPp.out.below hb' (HPp.out.lt hz1)) (HPj.out.below hb' (HPj.out.lt hz1)) (HPf.out.below hb' (HPf.out.lt hz2))
      have HPF : Hid (∀ w', Below w8.heap.size w8 w' → Calls Try.prog 18 #[.slice (some ⟨b, off, none⟩) N cap', .agg #[.slice (some ⟨gp, 0, none⟩) N N, .slice (some ⟨gj, 0, none⟩) N cj, .slice (some ⟨gf, 0, none⟩) m cf, .int .i64 (cost)]] w' fun e w'' => e = .returned (.int .i64 X) ∧ Below w'.heap.size w' w'') := by
        intro w' hb'
        rw [hX]
        exact proof_lists b off cap' T N m gp gj gf cj cf _ _ _ _ w' HN.out HG.out (HRR.out.below hb') (HPp.out.below hb' (HPp.out.lt hz1)) (HPj.out.below hb' (HPj.out.lt hz1)) (HPf.out.below hb' (HPf.out.lt hz2))
      have hS : Hid (∀ w', Below w8.heap.size w8 w' → (Below w8.heap.size w8 w' ∧ w'.cell? ⟨w3.heap.size, 0, none⟩ = some (.slice (some ⟨gp, 0, none⟩) N N) ∧ w'.cell? ⟨w3.heap.size, 1, none⟩ = some (.slice (some ⟨gj, 0, none⟩) N cj) ∧ w'.cell? ⟨w3.heap.size, 2, none⟩ = some (.slice (some ⟨gf, 0, none⟩) m cf) ∧ w'.cell? ⟨w3.heap.size, 3, none⟩ = some (.int .i64 (cost)))) := fun w' hb' => ⟨hb', keepCell hb' y0, keepCell hb' y1, keepCell hb' y2, keepCell hb' y3⟩
      have q1 : (X == X) = true := by simp
      clear hX
      go_region_held3 (fun w' => Below w8.heap.size w8 w' ∧ w'.cell? ⟨w3.heap.size, 0, none⟩ = some (.slice (some ⟨gp, 0, none⟩) N N) ∧ w'.cell? ⟨w3.heap.size, 1, none⟩ = some (.slice (some ⟨gj, 0, none⟩) N cj) ∧ w'.cell? ⟨w3.heap.size, 2, none⟩ = some (.slice (some ⟨gf, 0, none⟩) m cf) ∧ w'.cell? ⟨w3.heap.size, 3, none⟩ = some (.int .i64 (cost)))
        ((refine hS.out _ ?_; go_grown))
        (first | fail | (go_simp; go_at_call 22; (with_reducible refine (HVF.out _ (And.left (by assumption))).mono ?_); rintro e wv ⟨rfl, hbv⟩; have hzv : Below w8.heap.size w8 wv := bthen (And.left (by assumption)) hbv; clear hbv) | (go_simp; go_at_call 18; (with_reducible refine (HPF.out _ (And.left (by assumption))).mono ?_); rintro e wp ⟨rfl, hbp⟩; have hzp : Below w8.heap.size w8 wp := bthen (And.left (by assumption)) hbp; clear hbp))
      all_goals
        go_wp2
        go_ret
        exact ⟨rfl, bthen HBB.out (by first | exact hzp | exact hzp.drew | exact bdrewN hzp _)⟩
    · by_cases c3 : z < 2 * N + m
      · obtain ⟨z3, hz3'⟩ : ∃ z3, z = 2 * N + z3 := ⟨z - 2 * N, by omega⟩
        have c4 : z3 < m := by omega
        have hsub : (z : Int) - 2 * (N : Int) = (z3 : Int) := by omega
        have t1 : (N : Int) ≤ (z : Int) := by omega
        have t2 : 2 * (N : Int) ≤ (z : Int) := by omega
        have t3 : (z : Int) < 2 * (N : Int) + (m : Int) := by omega
        clear hz3'
        have kz := HF5.out.at' z3 c4
        have zz := HF5.out.fz z3
        have hjz := HP.out.feeN c4
        obtain ⟨P, hPP⟩ : ∃ P, P = fee z3 := ⟨_, rfl⟩
        rw [← hPP] at kz hjz
        replace hPP := Lib.hid hPP
        have HPp : Hid (FTab (Value.int .i64) (w5.setCell ⟨gf, z3, none⟩ (.int .i64 (P + y))) gp N (press)) := HT5.out.other d5.symm _
        have HPj : Hid (FTab (Value.int .i64) (w5.setCell ⟨gf, z3, none⟩ (.int .i64 (P + y))) gj N (job)) := HJ5.out.other d6.symm _
        have HPf : Hid (FTab (Value.int .i64) (w5.setCell ⟨gf, z3, none⟩ (.int .i64 (P + y))) gf m (fun j => if j = z3 then P + y else fee j)) := HF5.out.set c4 (P + y)
        have HBB : Hid (Below w.heap.size w (w5.setCell ⟨gf, z3, none⟩ (.int .i64 (P + y)))) := HB5.out.setCell (p := ⟨gf, z3, none⟩) (by show w.heap.size ≤ gf; omega) _
        have HRR : Hid (Rows1 (w5.setCell ⟨gf, z3, none⟩ (.int .i64 (P + y))) 1 encInt (some ⟨b, off, none⟩) T) := HR2.out.below (HB25.out.setCell (p := ⟨gf, z3, none⟩) (by show w2.heap.size ≤ gf; omega) _)
        have y0 : (w5.setCell ⟨gf, z3, none⟩ (.int .i64 (P + y))).cell? ⟨w3.heap.size, 0, none⟩ = some (.slice (some ⟨gp, 0, none⟩) N N) := cell_other (by omega) x0
        have y1 : (w5.setCell ⟨gf, z3, none⟩ (.int .i64 (P + y))).cell? ⟨w3.heap.size, 1, none⟩ = some (.slice (some ⟨gj, 0, none⟩) N cj) := cell_other (by omega) x1
        have y2 : (w5.setCell ⟨gf, z3, none⟩ (.int .i64 (P + y))).cell? ⟨w3.heap.size, 2, none⟩ = some (.slice (some ⟨gf, 0, none⟩) m cf) := cell_other (by omega) x2
        have y3 : (w5.setCell ⟨gf, z3, none⟩ (.int .i64 (P + y))).cell? ⟨w3.heap.size, 3, none⟩ = some (.int .i64 (cost)) := cell_other (by omega) x3
        go_wp2_with (go_at_call 23; (with_reducible refine (HW2.out _).mono ?_); rintro e w' ⟨rfl, rfl⟩)
        generalize w5.setCell ⟨gf, z3, none⟩ (.int .i64 (P + y)) = w8 at *
        obtain ⟨X, hX⟩ : ∃ X, X = proofErr T m (lst N (press)) (lst N (job)) (lst m (fun j => if j = z3 then P + y else fee j)) (cost) := ⟨_, rfl⟩
        have HVF : Hid (∀ w', Below w8.heap.size w8 w' → Calls Try.prog 22 #[.slice (some ⟨b, off, none⟩) N cap', .agg #[.slice (some ⟨gp, 0, none⟩) N N, .slice (some ⟨gj, 0, none⟩) N cj, .slice (some ⟨gf, 0, none⟩) m cf, .int .i64 (cost)]] w' fun e w'' => e = .returned (.int .i64 X) ∧ Below w'.heap.size w' w'') := by
          intro w' hb'
          rw [hX]
          exact verify_lists b off cap' T N m gp gj gf cj cf _ _ _ _ w' HN.out HG.out HC0.out (HRR.out.below hb') (HPp.out.below hb' (HPp.out.lt hz1)) (HPj.out.below hb' (HPj.out.lt hz1)) (HPf.out.below hb' (HPf.out.lt hz2))
        have HPF : Hid (∀ w', Below w8.heap.size w8 w' → Calls Try.prog 18 #[.slice (some ⟨b, off, none⟩) N cap', .agg #[.slice (some ⟨gp, 0, none⟩) N N, .slice (some ⟨gj, 0, none⟩) N cj, .slice (some ⟨gf, 0, none⟩) m cf, .int .i64 (cost)]] w' fun e w'' => e = .returned (.int .i64 X) ∧ Below w'.heap.size w' w'') := by
          intro w' hb'
          rw [hX]
          exact proof_lists b off cap' T N m gp gj gf cj cf _ _ _ _ w' HN.out HG.out (HRR.out.below hb') (HPp.out.below hb' (HPp.out.lt hz1)) (HPj.out.below hb' (HPj.out.lt hz1)) (HPf.out.below hb' (HPf.out.lt hz2))
        have hS : Hid (∀ w', Below w8.heap.size w8 w' → (Below w8.heap.size w8 w' ∧ w'.cell? ⟨w3.heap.size, 0, none⟩ = some (.slice (some ⟨gp, 0, none⟩) N N) ∧ w'.cell? ⟨w3.heap.size, 1, none⟩ = some (.slice (some ⟨gj, 0, none⟩) N cj) ∧ w'.cell? ⟨w3.heap.size, 2, none⟩ = some (.slice (some ⟨gf, 0, none⟩) m cf) ∧ w'.cell? ⟨w3.heap.size, 3, none⟩ = some (.int .i64 (cost)))) := fun w' hb' => ⟨hb', keepCell hb' y0, keepCell hb' y1, keepCell hb' y2, keepCell hb' y3⟩
        have q1 : (X == X) = true := by simp
        clear hX
        go_region_held3 (fun w' => Below w8.heap.size w8 w' ∧ w'.cell? ⟨w3.heap.size, 0, none⟩ = some (.slice (some ⟨gp, 0, none⟩) N N) ∧ w'.cell? ⟨w3.heap.size, 1, none⟩ = some (.slice (some ⟨gj, 0, none⟩) N cj) ∧ w'.cell? ⟨w3.heap.size, 2, none⟩ = some (.slice (some ⟨gf, 0, none⟩) m cf) ∧ w'.cell? ⟨w3.heap.size, 3, none⟩ = some (.int .i64 (cost)))
          ((refine hS.out _ ?_; go_grown))
          (first | fail | (go_simp; go_at_call 22; (with_reducible refine (HVF.out _ (And.left (by assumption))).mono ?_); rintro e wv ⟨rfl, hbv⟩; have hzv : Below w8.heap.size w8 wv := bthen (And.left (by assumption)) hbv; clear hbv) | (go_simp; go_at_call 18; (with_reducible refine (HPF.out _ (And.left (by assumption))).mono ?_); rintro e wp ⟨rfl, hbp⟩; have hzp : Below w8.heap.size w8 wp := bthen (And.left (by assumption)) hbp; clear hbp))
        all_goals
          go_wp2
          go_ret
          exact ⟨rfl, bthen HBB.out (by first | exact hzp | exact hzp.drew | exact bdrewN hzp _)⟩
      · have t1 : (N : Int) ≤ (z : Int) := by omega
        have t2 : 2 * (N : Int) ≤ (z : Int) := by omega
        have t3 : 2 * (N : Int) + (m : Int) ≤ (z : Int) := by omega
        have lb : w2.heap.size ≤ w3.heap.size := by omega
        skip
        have HPp : Hid (FTab (Value.int .i64) (w5.setCell ⟨w3.heap.size, 3, none⟩ (.int .i64 (cost + y))) gp N (press)) := HT5.out.other (by omega) _
        have HPj : Hid (FTab (Value.int .i64) (w5.setCell ⟨w3.heap.size, 3, none⟩ (.int .i64 (cost + y))) gj N (job)) := HJ5.out.other (by omega) _
        have HPf : Hid (FTab (Value.int .i64) (w5.setCell ⟨w3.heap.size, 3, none⟩ (.int .i64 (cost + y))) gf m (fee)) := HF5.out.other (by omega) _
        have HBB : Hid (Below w.heap.size w (w5.setCell ⟨w3.heap.size, 3, none⟩ (.int .i64 (cost + y)))) := HB5.out.setCell (p := ⟨w3.heap.size, 3, none⟩) (by show w.heap.size ≤ w3.heap.size; omega) _
        have HRR : Hid (Rows1 (w5.setCell ⟨w3.heap.size, 3, none⟩ (.int .i64 (cost + y))) 1 encInt (some ⟨b, off, none⟩) T) := HR2.out.below (HB25.out.setCell (p := ⟨w3.heap.size, 3, none⟩) (by show w2.heap.size ≤ w3.heap.size; omega) _)
        have y0 : (w5.setCell ⟨w3.heap.size, 3, none⟩ (.int .i64 (cost + y))).cell? ⟨w3.heap.size, 0, none⟩ = some (.slice (some ⟨gp, 0, none⟩) N N) := cell_off (by omega) x0
        have y1 : (w5.setCell ⟨w3.heap.size, 3, none⟩ (.int .i64 (cost + y))).cell? ⟨w3.heap.size, 1, none⟩ = some (.slice (some ⟨gj, 0, none⟩) N cj) := cell_off (by omega) x1
        have y2 : (w5.setCell ⟨w3.heap.size, 3, none⟩ (.int .i64 (cost + y))).cell? ⟨w3.heap.size, 2, none⟩ = some (.slice (some ⟨gf, 0, none⟩) m cf) := cell_off (by omega) x2
        have y3 : (w5.setCell ⟨w3.heap.size, 3, none⟩ (.int .i64 (cost + y))).cell? ⟨w3.heap.size, 3, none⟩ = some (.int .i64 (cost + y)) := cell_self x3 xz
        go_wp2_with (go_at_call 23; (with_reducible refine (HW2.out _).mono ?_); rintro e w' ⟨rfl, rfl⟩)
        generalize w5.setCell ⟨w3.heap.size, 3, none⟩ (.int .i64 (cost + y)) = w8 at *
        obtain ⟨X, hX⟩ : ∃ X, X = proofErr T m (lst N (press)) (lst N (job)) (lst m (fee)) (cost + y) := ⟨_, rfl⟩
        have HVF : Hid (∀ w', Below w8.heap.size w8 w' → Calls Try.prog 22 #[.slice (some ⟨b, off, none⟩) N cap', .agg #[.slice (some ⟨gp, 0, none⟩) N N, .slice (some ⟨gj, 0, none⟩) N cj, .slice (some ⟨gf, 0, none⟩) m cf, .int .i64 (cost + y)]] w' fun e w'' => e = .returned (.int .i64 X) ∧ Below w'.heap.size w' w'') := by
          intro w' hb'
          rw [hX]
          exact verify_lists b off cap' T N m gp gj gf cj cf _ _ _ _ w' HN.out HG.out HC0.out (HRR.out.below hb') (HPp.out.below hb' (HPp.out.lt hz1)) (HPj.out.below hb' (HPj.out.lt hz1)) (HPf.out.below hb' (HPf.out.lt hz2))
        have HPF : Hid (∀ w', Below w8.heap.size w8 w' → Calls Try.prog 18 #[.slice (some ⟨b, off, none⟩) N cap', .agg #[.slice (some ⟨gp, 0, none⟩) N N, .slice (some ⟨gj, 0, none⟩) N cj, .slice (some ⟨gf, 0, none⟩) m cf, .int .i64 (cost + y)]] w' fun e w'' => e = .returned (.int .i64 X) ∧ Below w'.heap.size w' w'') := by
          intro w' hb'
          rw [hX]
          exact proof_lists b off cap' T N m gp gj gf cj cf _ _ _ _ w' HN.out HG.out (HRR.out.below hb') (HPp.out.below hb' (HPp.out.lt hz1)) (HPj.out.below hb' (HPj.out.lt hz1)) (HPf.out.below hb' (HPf.out.lt hz2))
        have hS : Hid (∀ w', Below w8.heap.size w8 w' → (Below w8.heap.size w8 w' ∧ w'.cell? ⟨w3.heap.size, 0, none⟩ = some (.slice (some ⟨gp, 0, none⟩) N N) ∧ w'.cell? ⟨w3.heap.size, 1, none⟩ = some (.slice (some ⟨gj, 0, none⟩) N cj) ∧ w'.cell? ⟨w3.heap.size, 2, none⟩ = some (.slice (some ⟨gf, 0, none⟩) m cf) ∧ w'.cell? ⟨w3.heap.size, 3, none⟩ = some (.int .i64 (cost + y)))) := fun w' hb' => ⟨hb', keepCell hb' y0, keepCell hb' y1, keepCell hb' y2, keepCell hb' y3⟩
        have q1 : (X == X) = true := by simp
        clear hX
        go_region_held3 (fun w' => Below w8.heap.size w8 w' ∧ w'.cell? ⟨w3.heap.size, 0, none⟩ = some (.slice (some ⟨gp, 0, none⟩) N N) ∧ w'.cell? ⟨w3.heap.size, 1, none⟩ = some (.slice (some ⟨gj, 0, none⟩) N cj) ∧ w'.cell? ⟨w3.heap.size, 2, none⟩ = some (.slice (some ⟨gf, 0, none⟩) m cf) ∧ w'.cell? ⟨w3.heap.size, 3, none⟩ = some (.int .i64 (cost + y)))
          ((refine hS.out _ ?_; go_grown))
          (first | fail | (go_simp; go_at_call 22; (with_reducible refine (HVF.out _ (And.left (by assumption))).mono ?_); rintro e wv ⟨rfl, hbv⟩; have hzv : Below w8.heap.size w8 wv := bthen (And.left (by assumption)) hbv; clear hbv) | (go_simp; go_at_call 18; (with_reducible refine (HPF.out _ (And.left (by assumption))).mono ?_); rintro e wp ⟨rfl, hbp⟩; have hzp : Below w8.heap.size w8 wp := bthen (And.left (by assumption)) hbp; clear hbp))
        all_goals
          go_wp2
          go_ret
          exact ⟨rfl, bthen HBB.out (by first | exact hzp | exact hzp.drew | exact bdrewN hzp _)⟩
theorem damaged_law (v : Value) {w : World} (hv : RowsArgC w v) (pl : Int) (_ : i64ok pl) (by' : Int) (_ : i64ok by') :
    Calls Try.prog 6 #[v, .int .i64 pl, .int .i64 by'] w fun e w' => e = .returned (.bool true) ∧ Below w.heap.size w w' := by
  obtain ⟨rows, oa, cap, rfl, hm, hcap, h0, hx⟩ := hv
  by_cases hc : costsErr (tabV rows) = 0
  · obtain ⟨m, hG⟩ := GoodCosts.of hc
    exact damaged_ok oa rows cap m pl by' w hm hcap h0 hx hc hG
  · exact damaged_bad oa rows cap pl by' w hm hcap h0 hx hc
end Go.Proofs.Ytjggcnpnjnmamaa
