/-
  plan.Times of a network without error: its walk. Own text.
-/
import Derived.Test.YtjggcnpnjnmamaaTimesA
namespace Go.Proofs.Ytjggcnpnjnmamaa
open Go.RowKit
set_option linter.unusedVariables false
/-- Returns the times and the chain. -/
def RetTimes (l : List Task) (n : Nat) (w : World) (e : Ending) (w' : World) : Prop :=
  ∃ (gb gl : Nat) (oc : Option Addr) (cc d : Nat), e = .returned (.tuple #[.agg #[.slice (some ⟨gb, 0, none⟩) n n, .slice (some ⟨gl, 0, none⟩) n n, .int .i64 (endV l), .slice oc d cc], .int .i64 0]) ∧
    FTab (Value.int .i64) w' gb n (beg l) ∧ FTab (Value.int .i64) w' gl n (lat l) ∧ ChainOf l (beg l) (last l) d ∧ Flat w' 1 encInt oc (chD l (beg l) (last l) d).reverse ∧ Below w.heap.size w w'
theorem checkT_N (oa : Option Addr) (l : List Task) (cap n : Nat) (w : World) (hn : n = l.length) (hm : n ≤ maxLen) (hx : TasksAt w oa l) (hc : tasksErr l = 0) :
    Calls Try.prog 26 #[.slice oa n cap] w fun e w' => e = .returned (.int .i64 0) ∧ Below w.heap.size w w' := by
  subst hn
  have := checkTasks_any oa l cap w hm hx
  rw [hc] at this
  exact this
/-- A task's cells, by its number. -/
theorem TasksAt.len {w : World} {b off : Nat} {l : List Task} (h : TasksAt w (some ⟨b, off, none⟩) l) {i : Nat} (hi : i < l.length) : w.cell? ⟨b, off + i * 2, none⟩ = some (.int .i64 (lenN l i)) := by
  obtain ⟨b', off', oa', cap, e, h1, _⟩ := h i hi
  cases e
  unfold lenN
  rw [taskN_eq hi]
  exact h1
theorem TasksAt.aft {w : World} {b off : Nat} {l : List Task} (h : TasksAt w (some ⟨b, off, none⟩) l) {i : Nat} (hi : i < l.length) : ∃ oa' cap, w.cell? ⟨b, off + i * 2 + 1, none⟩ = some (.slice oa' (aftL l i) cap) ∧ Flat w 1 encInt oa' (taskN l i).after := by
  obtain ⟨b', off', oa', cap, e, h1, h2, h3, h4⟩ := h i hi
  cases e
  unfold aftL
  rw [taskN_eq hi]
  exact ⟨oa', cap, h2, h4⟩
theorem TasksAt.some {w : World} {oa : Option Addr} {l : List Task} (h : TasksAt w oa l) (hn : 0 < l.length) : ∃ b off, oa = some ⟨b, off, none⟩ := by
  obtain ⟨b, off, _, _, e, _⟩ := h 0 hn
  exact ⟨b, off, e⟩
theorem aftCell {w : World} {oa : Option Addr} {l : List Task} {i q : Nat} (hG : GoodTasks l) (hi : i < l.length) (hq : q < aftL l i) (h : Flat w 1 encInt oa (taskN l i).after) : ∃ ba offa, oa = some ⟨ba, offa, none⟩ ∧ w.cell? ⟨ba, offa + q, none⟩ = some (.int .i64 (aftN l i q : Nat)) := by
  have hq : q < (taskN l i).after.length := hq
  obtain ⟨ba, offa, e, hc⟩ := h.int (i := q) hq
  rw [at0_eq hq, (hG.aft i q hi hq).1] at hc
  exact ⟨ba, offa, e, hc⟩
set_option maxRecDepth 100000 in
set_option maxHeartbeats 16000000 in
theorem times_ok (oa : Option Addr) (l : List Task) (cap n : Nat) (w : World) (hn : n = l.length) (hx : TasksAt w oa l) (hc : tasksErr l = 0) :
    Calls Try.prog 24 #[.slice oa n cap] w (RetTimes l n w) := by
  have hG := GoodTasks.of hc
  have hn40 : n ≤ 40 := by rw [hn]; exact hG.n40
  have hm : n ≤ maxLen := by unfold maxLen; omega
  have HN := Lib.hid hn
  have HG := Lib.hid hG
  have hx1 := Lib.hid (hx.below (balloc (Below.refl _ w) (.cells #[.slice none 0 0, .slice none 0 0, .int .i64 0, .slice none 0 0] 43)))
  have hch := Lib.hid (checkT_N oa l cap n (w.alloc (.cells #[.slice none 0 0, .slice none 0 0, .int .i64 0, .slice none 0 0] 43)) hn hm hx1.out hc)
  have mk := run_makeArr (P := Try.prog) elemInt Try.underlying25 (.int .i64 0) rfl n (by omega) (by omega)
  clear hx hc hn hm hG
  go_enter Try.func24, Try.ntmps24
  go_wp2_with (go_at_call 26; (with_reducible refine (hch.out).mono ?_); rintro e w1 ⟨rfl, hb1⟩; have HB1 := Lib.hid hb1; clear hb1 hch)
  go_cut [6] (fun s6 wx => ∃ bt gb gl : Nat, s6 = .pointer (some ⟨bt, 0, none⟩) ∧ Hid (Apart3 w1.heap.size bt gb gl ∧ TW w1 bt gb gl n (fun _ => 0) (fun _ => 0) 0 (.slice none 0 0) wx))
  case first =>
    go_region
    all_goals
      go_wp2_with fail
      go_meet
    all_goals exact ⟨_, _, _, rfl, close3 (by constructor) (by constructor) (by constructor) (by omega) (by omega) (by omega)⟩
  case rest =>
    obtain ⟨bt, gb, gl, rfl, HAM⟩ := hcut
    have HX : Hid (TasksAt w1 oa l) := hx1.out.below HB1.out
    have HA := Lib.hid HAM.out.1
    have H0 := Lib.hid HAM.out.2
    clear HAM mk hx1
    go_wp2
    go_loopw [35] (fun s35 wr => ∃ i : Nat, i ≤ n ∧ s35 = .int .i64 i ∧ Hid (TW w1 bt gb gl n (bgTab l i) (fun _ => 0) (endTo l (beg l) i) (.slice none 0 0) wr)) (fun s35 _ => n - (intOf s35).toNat)
    case atStart => exact ⟨0, by omega, rfl, H0⟩
    case round =>
      clear H0
      obtain ⟨i, hi, rfl, HW⟩ := hrel
      by_cases hlt : i < n
      · have hil : i < l.length := by rw [← HN.out]; exact hlt
        obtain ⟨b, off, rfl⟩ := HX.out.some (by omega)
        have kl := (HX.out.below HW.out.bel).len hil
        obtain ⟨oa', cap', ka1, fa1⟩ := HX.out.aft hil
        have ka := keepCell HW.out.bel ka1
        obtain ⟨m, hmm⟩ : ∃ m, m = aftL l i := ⟨_, rfl⟩
        obtain ⟨L, hL⟩ : ∃ L, L = lenN l i := ⟨_, rfl⟩
        have hm40 : m ≤ 40 := by rw [hmm]; exact HG.out.m40 i hil
        have hLb : 0 ≤ L ∧ L ≤ 1048576 := by rw [hL]; exact HG.out.len i hil
        rw [← hmm] at ka
        rw [← hL] at kl
        have HF := Lib.hid fa1
        have HM := Lib.hid hmm
        have HL := Lib.hid hL
        have hgs := HW.out.lt.2.1
        have hbs := HW.out.lt.1
        have H1 : Hid (TW w1 bt gb gl n (bgTab l i) (fun _ => 0) (endTo l (beg l) i) (.slice none 0 0) (wr.alloc (.cells #[.int .i64 L, .slice oa' m cap'] 49)) ∧ (wr.alloc (.cells #[.int .i64 L, .slice oa' m cap'] 49)).cell? ⟨wr.heap.size, 0, none⟩ = some (.int .i64 L)) :=
          ⟨HW.out.alloc _, by rw [cell_of_row _ wr.heap.size 0 _ _ (0, 0) (heap_alloc_new wr _)]; rfl⟩
        have H2 : Hid (∀ q, q ≤ m → ∀ j, j < n → (if j = i then longTo l (bgTab l i) i 0 else bgTab l i j) = bgTab l i j) := fun q hq j hj => by
          by_cases e : j = i
          · rw [if_pos e, e, bgTab_new (Nat.le_refl _)]; rfl
          · rw [if_neg e]
        clear hmm hL fa1 ka1
        obtain ⟨wo, hwo⟩ : ∃ wo : World, wo = wr := ⟨_, rfl⟩
        subst hwo
        go_wp2
        go_loopw [43] (fun s43 wx => ∃ q : Nat, q ≤ m ∧ s43 = .int .i64 q ∧ Hid (TW w1 bt gb gl n (fun j => if j = i then longTo l (bgTab l i) i q else bgTab l i j) (fun _ => 0) (endTo l (beg l) i) (.slice none 0 0) wx ∧ wx.cell? ⟨wo.heap.size, 0, none⟩ = some (.int .i64 L))) (fun s43 _ => m - (intOf s43).toNat)
        case atStart => exact ⟨0, by omega, rfl, Lib.hid ⟨H1.out.1.congr (fun j hj => (H2.out 0 (by omega) j hj).symm) (fun _ _ => rfl), H1.out.2⟩⟩
        case round =>
          clear H1 H2 ka kl
          obtain ⟨q, hq, rfl, HQ⟩ := hrel
          by_cases hltq : q < m
          · have hq2 : q < aftL l i := by rw [← HM.out]; exact hltq
            obtain ⟨ba, offa, rfl, kk⟩ := aftCell HG.out hil hq2 (HF.out.below HQ.out.1.bel)
            have hK1 := (HG.out.aft i q hil hq2).2
            obtain ⟨K, hK⟩ : ∃ K, K = aftN l i q := ⟨_, rfl⟩
            rw [← hK] at kk hK1
            have kn : K < n := by omega
            have k0 := HQ.out.1.c0
            obtain ⟨P, hP⟩ : ∃ P, P = longTo l (bgTab l i) i q := ⟨_, rfl⟩
            obtain ⟨BK, hBK⟩ : ∃ BK, BK = bgTab l i K := ⟨_, rfl⟩
            obtain ⟨LK, hLK⟩ : ∃ LK, LK = lenN l K := ⟨_, rfl⟩
            have kb : wr.cell? ⟨gb, i, none⟩ = some (.int .i64 P) := by rw [HQ.out.1.tb.at' i hlt, hP]; simp
            have kK : wr.cell? ⟨gb, K, none⟩ = some (.int .i64 BK) := by rw [HQ.out.1.tb.at' K kn, hBK]; simp; intro h; omega
            have zb := HQ.out.1.tb.fz i
            have kt := (HX.out.below HQ.out.1.bel).len (i := K) (by omega)
            rw [← hLK] at kt
            have b1 : 0 ≤ BK ∧ BK ≤ 41943040 := by
              have := bgTab_bd HG.out (i := i) (by omega) K
              rw [hBK]; omega
            have b2 : 0 ≤ LK ∧ LK ≤ 1048576 := by rw [hLK]; exact HG.out.len K (by omega)
            have g1 : IntKind.i64.wrap (BK + LK) = BK + LK := IntWalk.i64_in _ (by omega)
            obtain ⟨V, hV⟩ : ∃ V, (if P < BK + LK then BK + LK else P) = V := ⟨_, rfl⟩
            have HS : Hid (longTo l (bgTab l i) i (q + 1) = V) := by
              show _ = _
              simp only [longTo]
              rw [← hK, ← hBK, ← hLK, ← hP, ← hV]
              split <;> omega
            have HN2 : Hid (TW w1 bt gb gl n (fun j => if j = i then longTo l (bgTab l i) i (q + 1) else bgTab l i j) (fun _ => 0) (endTo l (beg l) i) (.slice none 0 0) (wr.setCell ⟨gb, i, none⟩ (.int .i64 V)) ∧ (wr.setCell ⟨gb, i, none⟩ (.int .i64 V)).cell? ⟨wo.heap.size, 0, none⟩ = some (.int .i64 L)) := by
              refine ⟨(HQ.out.1.setB HA.out hlt V).congr (fun j hj => ?_) (fun _ _ => rfl), cell_other (by omega) HQ.out.2⟩
              by_cases e : j = i
              · simp only [if_pos e]; rw [HS.out]
              · simp only [if_neg e]
            have i1 : (i : Int) < (n : Int) := by omega
            have i2 : (K : Int) < (n : Int) := by omega
            clear hK hP hBK hLK
            go_wp2
            go_region
            go_wp2
            go_roundw
            case rel => exact ⟨q + 1, by omega, by go_num, Lib.hid ⟨HN2.out.1.drew, HN2.out.2⟩⟩
            case measure => simp [intOf]; omega
          · obtain rfl : m = q := by omega
            have k0 := HQ.out.1.c0
            have k2 := HQ.out.1.c2
            have kq := HQ.out.2
            have hE : beg l i = longTo l (bgTab l i) i m := by
              unfold beg
              rw [bgTab_old (i := i + 1) (by omega) (by omega), HM.out]
              simp only [bgTab, if_true]
            obtain ⟨P, hP⟩ : ∃ P, P = longTo l (bgTab l i) i m := ⟨_, rfl⟩
            obtain ⟨E, hEE⟩ : ∃ E, E = endTo l (beg l) i := ⟨_, rfl⟩
            have kb : wr.cell? ⟨gb, i, none⟩ = some (.int .i64 P) := by rw [HQ.out.1.tb.at' i hlt, hP]; simp
            have z2 := HQ.out.1.fz 2
            rw [← hEE] at k2
            have b1 : 0 ≤ P ∧ P ≤ 41943040 := by
              have := beg_bd HG.out i
              rw [hP, ← hE]; omega
            have g1 : IntKind.i64.wrap (P + L) = P + L := IntWalk.i64_in _ (by omega)
            obtain ⟨V, hV⟩ : ∃ V, (if E < P + L then P + L else E) = V := ⟨_, rfl⟩
            have HN2 : Hid (TW w1 bt gb gl n (bgTab l (i + 1)) (fun _ => 0) (endTo l (beg l) (i + 1)) (.slice none 0 0) (wr.setCell ⟨bt, 2, none⟩ (.int .i64 V))) := by
              have e : endTo l (beg l) (i + 1) = V := by
                simp only [endTo]
                rw [hE, ← hP, ← hEE, ← HL.out, ← hV]
                split <;> omega
              show TW _ _ _ _ _ _ _ _ _ _
              rw [e]
              refine (HQ.out.1.setE HA.out V).congr (fun j hj => ?_) (fun _ _ => rfl)
              simp only [bgTab]
              by_cases e : j = i
              · rw [if_pos e, if_pos e, HM.out]
              · rw [if_neg e, if_neg e]
            have i1 : (i : Int) < (n : Int) := by omega
            clear hP hEE hE
            go_wp2
            go_region
            go_wp2
            go_roundw
            case rel => exact ⟨i + 1, by omega, by go_num, Lib.hid HN2.out.drew⟩
            case measure => simp [intOf]; omega
      · obtain rfl : n = i := by omega
        have H2 : Hid (TW w1 bt gb gl n (beg l) (fun j => if j < 0 then endV l - lenN l j else 0) (endV l) (.slice none 0 0) wr) := by
          have h := HW.out
          have e1 : endTo l (beg l) n = endV l := by unfold endV; rw [HN.out]
          rw [e1] at h
          refine h.congr (fun j _ => by unfold beg; rw [HN.out]) (fun j _ => by rw [if_neg (by omega)])
        clear HW
        go_wp2
        go_loopw [84] (fun s84 wr => ∃ i : Nat, i ≤ n ∧ s84 = .int .i64 i ∧ Hid (TW w1 bt gb gl n (beg l) (fun j => if j < i then endV l - lenN l j else 0) (endV l) (.slice none 0 0) wr)) (fun s84 _ => n - (intOf s84).toNat)
        case atStart => exact ⟨0, by omega, rfl, H2⟩
        case round =>
          clear H2
          obtain ⟨i, hi, rfl, HW⟩ := hrel
          by_cases hlt : i < n
          · have hil : i < l.length := by rw [← HN.out]; exact hlt
            obtain ⟨b, off, rfl⟩ := HX.out.some (by omega)
            have kl := (HX.out.below HW.out.bel).len hil
            have k1 := HW.out.c1
            have k2 := HW.out.c2
            have kL := HW.out.tl.at' i hlt
            have zL := HW.out.tl.fz i
            obtain ⟨L, hL⟩ : ∃ L, L = lenN l i := ⟨_, rfl⟩
            obtain ⟨E, hE⟩ : ∃ E, E = endV l := ⟨_, rfl⟩
            have hLb : 0 ≤ L ∧ L ≤ 1048576 := by rw [hL]; exact HG.out.len i hil
            have hEb : 0 ≤ E ∧ E ≤ 42991616 := by rw [hE]; exact endV_bd HG.out
            have HN2 : Hid (TW w1 bt gb gl n (beg l) (fun j => if j < i + 1 then endV l - lenN l j else 0) (endV l) (.slice none 0 0) (wr.setCell ⟨gl, i, none⟩ (.int .i64 (E - L)))) := by
              refine (HW.out.setL HA.out hlt (E - L)).congr (fun _ _ => rfl) (fun j hj => ?_)
              by_cases e : j = i
              · rw [if_pos e, if_pos (by omega), e, hE, hL]
              · rw [if_neg e]
                by_cases e2 : j < i
                · rw [if_pos e2, if_pos (by omega)]
                · rw [if_neg e2, if_neg (by omega)]
            rw [← hL] at kl
            rw [← hE] at k2
            have g1 : IntKind.i64.wrap (E - L) = E - L := IntWalk.i64_in _ (by omega)
            have i1 : (i : Int) < (n : Int) := by omega
            simp only [if_neg (show ¬ i < i by omega)] at kL
            clear hL hE
            go_wp2
            go_region
            go_wp2
            go_roundw
            case rel => exact ⟨i + 1, by omega, by go_num, Lib.hid HN2.out.drew⟩
            case measure => simp [intOf]; omega
          · obtain rfl : n = i := by omega
            have H3 : Hid (TW w1 bt gb gl n (beg l) (latTab l (endV l) 0) (endV l) (.slice none 0 0) wr) := HW.out.congr (fun _ _ => rfl) (fun j hj => by rw [if_pos hj]; rfl)
            have g1 : IntKind.i64.wrap ((n : Int) - 1) = (n : Int) - 1 := IntWalk.i64_in _ (by omega)
            clear HW
            go_wp2
            go_loopw [12] (fun s12 wr => ∃ (d : Nat) (x : Int), d ≤ n ∧ x = (n : Int) - 1 - d ∧ s12 = .int .i64 x ∧ Hid (TW w1 bt gb gl n (beg l) (latTab l (endV l) d) (endV l) (.slice none 0 0) wr)) (fun s12 _ => (intOf s12 + 1).toNat)
            case atStart => exact ⟨0, _, by omega, rfl, by simp, H3⟩
            case round =>
              clear H3 g1
              obtain ⟨d, x, hd, hx, rfl, HW⟩ := hrel
              by_cases hlt : d < n
              · obtain ⟨i, hi⟩ : ∃ i : Nat, i + d + 1 = n := ⟨n - 1 - d, by omega⟩
                obtain rfl : x = (i : Int) := by omega
                have hil : i < l.length := by rw [← HN.out]; omega
                obtain ⟨b, off, rfl⟩ := HX.out.some (by omega)
                obtain ⟨oa', cap', ka1, fa1⟩ := HX.out.aft hil
                have ka := keepCell HW.out.bel ka1
                obtain ⟨m, hmm⟩ : ∃ m, m = aftL l i := ⟨_, rfl⟩
                have hm40 : m ≤ 40 := by rw [hmm]; exact HG.out.m40 i hil
                rw [← hmm] at ka
                have HF := Lib.hid fa1
                have HM := Lib.hid hmm
                have HD : Hid (l.length - 1 - d = i) := by show _ = _; rw [← HN.out]; omega
                have i1 : (i : Int) < (n : Int) := by omega
                clear hmm fa1 ka1 hx
                go_wp2
                go_loopw [112] (fun s112 wx => ∃ q : Nat, q ≤ m ∧ s112 = .int .i64 q ∧ Hid (TW w1 bt gb gl n (beg l) (latQ l (latTab l (endV l) d) i q) (endV l) (.slice none 0 0) wx)) (fun s112 _ => m - (intOf s112).toNat)
                case atStart => exact ⟨0, by omega, rfl, HW⟩
                case round =>
                  clear HW ka
                  obtain ⟨q, hq, rfl, HQ⟩ := hrel
                  by_cases hltq : q < m
                  · have hq2 : q < aftL l i := by rw [← HM.out]; exact hltq
                    obtain ⟨ba, offa, rfl, kk⟩ := aftCell HG.out hil hq2 (HF.out.below HQ.out.bel)
                    have hK1 := (HG.out.aft i q hil hq2).2
                    obtain ⟨K, hK⟩ : ∃ K, K = aftN l i q := ⟨_, rfl⟩
                    rw [← hK] at kk hK1
                    have kn : K < n := by omega
                    have k0 := HQ.out.c1
                    obtain ⟨P, hP⟩ : ∃ P, P = latQ l (latTab l (endV l) d) i q K := ⟨_, rfl⟩
                    obtain ⟨TI, hTI⟩ : ∃ TI, TI = latTab l (endV l) d i := ⟨_, rfl⟩
                    obtain ⟨LK, hLK⟩ : ∃ LK, LK = lenN l K := ⟨_, rfl⟩
                    have hTI2 : TI = lat l i := by
                      rw [hTI]
                      unfold lat
                      rw [show l.length - 1 - i = d by rw [← HN.out]; omega]
                    have hno : latQ l (latTab l (endV l) d) i q i = TI := by
                      rw [hTI]
                      exact latQ_other (fun p hp => by have := (HG.out.aft i p hil (by omega)).2; omega)
                    have kb : wr.cell? ⟨gl, K, none⟩ = some (.int .i64 P) := by rw [HQ.out.tl.at' K kn, hP]
                    have kK : wr.cell? ⟨gl, i, none⟩ = some (.int .i64 TI) := by rw [HQ.out.tl.at' i (by omega), hno]
                    have zb := HQ.out.tl.fz K
                    have kt := (HX.out.below HQ.out.bel).len (i := K) (by omega)
                    rw [← hLK] at kt
                    have b1 : 0 ≤ TI ∧ TI ≤ 42991616 := by rw [hTI2]; exact lat_bd HG.out hil
                    have b2 : 0 ≤ LK ∧ LK ≤ 1048576 := by rw [hLK]; exact HG.out.len K (by omega)
                    have g1 : IntKind.i64.wrap (TI - LK) = TI - LK := IntWalk.i64_in _ (by omega)
                    obtain ⟨V, hV⟩ : ∃ V, (if TI - LK < P then TI - LK else P) = V := ⟨_, rfl⟩
                    have HN2 : Hid (TW w1 bt gb gl n (beg l) (latQ l (latTab l (endV l) d) i (q + 1)) (endV l) (.slice none 0 0) (wr.setCell ⟨gl, K, none⟩ (.int .i64 V))) := by
                      refine (HQ.out.setL HA.out kn V).congr (fun _ _ => rfl) (fun j hj => ?_)
                      simp only [latQ]
                      rw [← hK]
                      by_cases e : j = K
                      · rw [if_pos e, if_pos e, e, ← hP, ← hTI, ← hLK, ← hV]
                        split <;> omega
                      · rw [if_neg e, if_neg e]
                    have i2 : (K : Int) < (n : Int) := by omega
                    clear hK hP hTI hLK hTI2 hno
                    go_wp2
                    go_region
                    go_wp2
                    go_roundw
                    case rel => exact ⟨q + 1, by omega, by go_num, Lib.hid HN2.out.drew⟩
                    case measure => simp [intOf]; omega
                  · obtain rfl : m = q := by omega
                    have H4 : Hid (TW w1 bt gb gl n (beg l) (latTab l (endV l) (d + 1)) (endV l) (.slice none 0 0) wr) := by
                      refine HQ.out.congr (fun _ _ => rfl) (fun j hj => ?_)
                      simp only [latTab]
                      rw [HD.out, HM.out]
                    have g1 : IntKind.i64.wrap ((i : Int) - 1) = (i : Int) - 1 := IntWalk.i64_in _ (by omega)
                    clear HQ
                    go_wp2
                    go_roundw
                    case rel => exact ⟨d + 1, (i : Int) - 1, by omega, by omega, by simp, H4⟩
                    case measure => simp [intOf]
              · obtain rfl : n = d := by omega
                have hxn : ¬ 0 ≤ x := by omega
                clear hx
                have H5 : Hid (TW w1 bt gb gl n (beg l) (lat l) (endV l) (.slice none 0 0) wr) := by
                  refine HW.out.congr (fun _ _ => rfl) (fun j hj => ?_)
                  have hjl : j < l.length := by rw [← HN.out]; exact hj
                  exact latTab_stays HG.out hjl (by rw [← HN.out]; omega) (by rw [← HN.out]; omega)
                clear HW
                go_wp2
                go_loopw [15, 140] (fun s15 s140 wr => ∃ i : Nat, i ≤ n ∧ s140 = .int .i64 i ∧ s15 = .int .i64 (firstTo l (beg l) (endV l) i) ∧ Hid (TW w1 bt gb gl n (beg l) (lat l) (endV l) (.slice none 0 0) wr)) (fun _ s140 _ => n - (intOf s140).toNat)
                case atStart => exact ⟨0, by omega, rfl, rfl, H5⟩
                case round =>
                  clear H5
                  obtain ⟨i, hi, rfl, rfl, HW⟩ := hrel
                  by_cases hlt : i < n
                  · have hil : i < l.length := by rw [← HN.out]; exact hlt
                    obtain ⟨A, hA⟩ : ∃ A, A = firstTo l (beg l) (endV l) i := ⟨_, rfl⟩
                    have HS : Hid (firstTo l (beg l) (endV l) (i + 1) = if A < 0 ∧ beg l i + lenN l i = endV l then (i : Int) else A) := by
                      show _ = _
                      simp only [firstTo]
                      rw [← hA]
                    rw [← hA]
                    clear hA
                    by_cases hA0 : A < 0
                    · obtain ⟨b, off, rfl⟩ := HX.out.some (by omega)
                      have kl := (HX.out.below HW.out.bel).len hil
                      have k0 := HW.out.c0
                      have k2 := HW.out.c2
                      have kb := HW.out.tb.at' i hlt
                      have b1 := beg_bd HG.out i
                      have b2 := HG.out.len i hil
                      obtain ⟨L, hL⟩ : ∃ L, L = lenN l i := ⟨_, rfl⟩
                      obtain ⟨E, hE⟩ : ∃ E, E = endV l := ⟨_, rfl⟩
                      obtain ⟨P, hP⟩ : ∃ P, P = beg l i := ⟨_, rfl⟩
                      rw [← hL] at kl b2
                      rw [← hE] at k2
                      rw [← hP] at kb b1
                      have g1 : IntKind.i64.wrap (P + L) = P + L := IntWalk.i64_in _ (by omega)
                      have i1 : (i : Int) < (n : Int) := by omega
                      by_cases he : P + L = E
                      · have HS2 : Hid (firstTo l (beg l) (endV l) (i + 1) = i) := by show _ = _; rw [HS.out, if_pos ⟨hA0, by rw [← hP, ← hL, ← hE]; exact he⟩]
                        have t1 : (P + L == E) = true := by simpa using he
                        clear he hL hE hP
                        go_wp2
                        go_quiet (fail)
                        go_wp2
                        go_roundw
                        case rel => exact ⟨i + 1, by omega, by go_num, by rw [HS2.out], Lib.hid (HW.out.drewN _)⟩
                        case measure => simp [intOf]; omega
                      · have HS2 : Hid (firstTo l (beg l) (endV l) (i + 1) = A) := by show _ = _; rw [HS.out, if_neg (fun h => he (by rw [hP, hL, hE]; exact h.2))]
                        have t1 : (P + L == E) = false := by simpa using he
                        clear he hL hE hP
                        go_wp2
                        go_quiet (fail)
                        go_wp2
                        go_roundw
                        case rel => exact ⟨i + 1, by omega, by go_num, by rw [HS2.out], Lib.hid (HW.out.drewN _)⟩
                        case measure => simp [intOf]; omega
                    · have HS2 : Hid (firstTo l (beg l) (endV l) (i + 1) = A) := by show _ = _; rw [HS.out, if_neg (fun h => hA0 h.1)]
                      have t0 : decide (A < 0) = false := by simpa using hA0
                      go_wp2
                      go_quiet (fail)
                      go_wp2
                      go_roundw
                      case rel => exact ⟨i + 1, by omega, by go_num, by rw [HS2.out], Lib.hid (HW.out.drewN _)⟩
                      case measure => simp [intOf]; omega
                  · obtain rfl : n = i := by omega
                    have EL : Hid (firstTo l (beg l) (endV l) n = last l) := by show _ = _; unfold last; rw [HN.out]
                    rw [EL.out]
                    obtain ⟨w5, hw5⟩ : ∃ w5 : World, w5 = wr := ⟨_, rfl⟩
                    subst hw5
                    have H6 : Hid ((∀ k, k < 0 → 0 ≤ atD l (beg l) (last l) k) ∧ TW w1 bt gb gl n (beg l) (lat l) (endV l) (.slice none 0 0) w5 ∧ w5.heap.size ≤ w5.heap.size ∧ Own w5 w5.heap.size 3 1 encInt (.slice none 0 0) (chD l (beg l) (last l) 0)) :=
                      ⟨fun k hk => by omega, HW.out, Nat.le_refl _, Own.nil _ _ _ _ _⟩
                    have HB5 : Hid (bt < w5.heap.size ∧ gb < w5.heap.size ∧ gl < w5.heap.size) := HW.out.lt
                    have HS5 : Hid (w1.heap.size ≤ w5.heap.size) := HW.out.bel.size
                    have x1 : -1 ≤ last l ∧ last l < n := by have := firstTo_bd (l := l) (B := beg l) (E := endV l) (i := l.length); unfold last; have := HN.out; omega
                    clear HW EL
                    go_wp2
                    go_loopw [15] (fun s15 wr => ∃ (d : Nat) (x : Int) (v : Value), x = atD l (beg l) (last l) d ∧ -1 ≤ x ∧ x + d < n ∧ s15 = .int .i64 x ∧ Hid ((∀ k, k < d → 0 ≤ atD l (beg l) (last l) k) ∧ TW w1 bt gb gl n (beg l) (lat l) (endV l) v wr ∧ w5.heap.size ≤ wr.heap.size ∧ Own wr w5.heap.size 3 1 encInt v (chD l (beg l) (last l) d))) (fun s15 _ => (intOf s15 + 1).toNat)
                    case atStart => exact ⟨0, last l, _, rfl, x1.1, by have := x1.2; omega, rfl, H6⟩
                    case round =>
                      clear H6 x1
                      obtain ⟨d, x, v, hx, hx1, hx2, rfl, HW⟩ := hrel
                      have HX0 := Lib.hid hx
                      clear hx
                      by_cases h0 : 0 ≤ x
                      · obtain ⟨a, rfl⟩ : ∃ a : Nat, x = (a : Int) := ⟨x.toNat, by omega⟩
                        have han : a < n := by omega
                        have hal : a < l.length := by rw [← HN.out]; exact han
                        obtain ⟨b, off, rfl⟩ := HX.out.some (by omega)
                        obtain ⟨oa', cap', ka1, fa1⟩ := HX.out.aft hal
                        have ka0 := keepCell HW.out.2.1.bel ka1
                        obtain ⟨m, hmm⟩ : ∃ m, m = aftL l a := ⟨_, rfl⟩
                        have hm40 : m ≤ 40 := by rw [hmm]; exact HG.out.m40 a hal
                        rw [← hmm] at ka0 ka1
                        have HF := Lib.hid fa1
                        have HM := Lib.hid hmm
                        have k3 := HW.out.2.1.c3
                        have z3 := HW.out.2.1.fz 3
                        have hown2 := HW.out.2.2.2.alloc (.cells #[.int .i64 (a : Int)] 3)
                        have hTW2 := Lib.hid (HW.out.2.1.alloc (.cells #[.int .i64 (a : Int)] 3))
                        have hsz : w5.heap.size ≤ (wr.alloc (.cells #[.int .i64 (a : Int)] 3)).heap.size := by have := HW.out.2.2.1; rw [World.size_alloc]; omega
                        have HSZ := Lib.hid hsz
                        have HLEN : Hid ((chD l (beg l) (last l) d).length ≤ 40) := by show _ ≤ _; rw [chD_len]; omega
                        have i1 : (a : Int) < (n : Int) := by omega
                        have KA1 := Lib.hid ka1
                        clear hmm fa1 hsz ka1
                        go_wp2_with (at_builtin; go_must (refine wpList_app1 rfl (.tmp 166) (.tmp 168) 25 rfl elemInt Try.underlying25 w5.heap.size _ _ encInt rfl hown2 ((a : Int)) ⟨wr.heap.size, 0, none⟩ 1 rfl rfl ?c1 ?c2 ?c3 ?c4 ?c5 ?_))
                        case c1 => exact cell_one_new _ _ _
                        case c2 => simp [encInt, Value.oneCell']
                        case c3 => have := HLEN.out; omega
                        case c4 => have := HLEN.out; unfold maxLen; omega
                        case c5 => exact HSZ.out
                        intro v' w3 hown3 hg3
                        have hbg : Below w5.heap.size (wr.alloc (.cells #[.int .i64 (a : Int)] 3)) w3 := (Below.refl _ _).grown hg3 HSZ.out (fun j hj => (hown2.lt j hj).1)
                        obtain ⟨lb, lg, ll⟩ := HB5.out
                        have HT3 := Lib.hid (hTW2.out.below hbg HS5.out lb lg ll)
                        have E1 : chD l (beg l) (last l) (d + 1) = chD l (beg l) (last l) d ++ [(a : Int)] := by rw [chD_succ, ← HX0.out]
                        rw [← E1] at hown3
                        obtain ⟨oc3, cc3, rfl, hm3, hf3⟩ := hown3.flat (fun _ => rfl)
                        have H7 : Hid (TW w1 bt gb gl n (beg l) (lat l) (endV l) (.slice oc3 (chD l (beg l) (last l) (d + 1)).length cc3) (w3.setCell ⟨bt, 3, none⟩ (.slice oc3 (chD l (beg l) (last l) (d + 1)).length cc3)) ∧ w5.heap.size ≤ (w3.setCell ⟨bt, 3, none⟩ (.slice oc3 (chD l (beg l) (last l) (d + 1)).length cc3)).heap.size ∧ Own (w3.setCell ⟨bt, 3, none⟩ (.slice oc3 (chD l (beg l) (last l) (d + 1)).length cc3)) w5.heap.size 3 1 encInt (.slice oc3 (chD l (beg l) (last l) (d + 1)).length cc3) (chD l (beg l) (last l) (d + 1))) :=
                          ⟨HT3.out.setC HA.out _, by have h1 := hbg.size; have h2 := HSZ.out; rw [World.size_setCell]; omega, ownsRow_setCell_below (a := ⟨bt, 3, none⟩) hown3 lb _⟩
                        have k3' := HT3.out.c3
                        have z3' := HT3.out.fz 3
                        have ka := keepCell HT3.out.bel KA1.out
                        have hne : b ≠ bt := by have := cell?_lt KA1.out; have := HA.out.l0; simp only at *; omega
                        rw [chD_len] at *
                        clear hown2 hown3 hf3 hg3 hbg E1 hm3 lb lg ll k3 z3 ka0
                        go_wp2
                        go_loopw [17, 177] (fun s17 s177 wx => ∃ q : Nat, q ≤ m ∧ s177 = .int .i64 q ∧ s17 = .int .i64 (nextTo l (beg l) a q) ∧ Hid (TW w1 bt gb gl n (beg l) (lat l) (endV l) (.slice oc3 (d + 1) cc3) wx ∧ w5.heap.size ≤ wx.heap.size ∧ Own wx w5.heap.size 3 1 encInt (.slice oc3 (d + 1) cc3) (chD l (beg l) (last l) (d + 1)))) (fun _ s177 _ => m - (intOf s177).toNat)
                        case atStart => exact ⟨0, by omega, rfl, rfl, H7⟩
                        case round =>
                          clear H7 k3' z3' ka
                          obtain ⟨q, hq, rfl, rfl, HQ⟩ := hrel
                          obtain ⟨N0, hN0⟩ : ∃ N0, N0 = nextTo l (beg l) a q := ⟨_, rfl⟩
                          rw [← hN0]
                          by_cases hltq : q < m
                          · have hq2 : q < aftL l a := by rw [← HM.out]; exact hltq
                            obtain ⟨ba, offa, rfl, kk⟩ := aftCell HG.out hal hq2 (HF.out.below HQ.out.1.bel)
                            have hK1 := (HG.out.aft a q hal hq2).2
                            obtain ⟨K, hK⟩ : ∃ K, K = aftN l a q := ⟨_, rfl⟩
                            rw [← hK] at kk hK1
                            have kn : K < n := by omega
                            have k0 := HQ.out.1.c0
                            obtain ⟨BK, hBK⟩ : ∃ BK, BK = beg l K := ⟨_, rfl⟩
                            obtain ⟨BA, hBA⟩ : ∃ BA, BA = beg l a := ⟨_, rfl⟩
                            obtain ⟨LK, hLK⟩ : ∃ LK, LK = lenN l K := ⟨_, rfl⟩
                            have kK := HQ.out.1.tb.at' K kn
                            have kA := HQ.out.1.tb.at' a han
                            have kt := (HX.out.below HQ.out.1.bel).len (i := K) (by omega)
                            rw [← hLK] at kt
                            rw [← hBK] at kK
                            rw [← hBA] at kA
                            have b1 := beg_bd HG.out K
                            rw [← hBK] at b1
                            have b2 : 0 ≤ LK ∧ LK ≤ 1048576 := by rw [hLK]; exact HG.out.len K (by omega)
                            have g1 : IntKind.i64.wrap (BK + LK) = BK + LK := IntWalk.i64_in _ (by omega)
                            have HS : Hid (nextTo l (beg l) a (q + 1) = if BK + LK = BA ∧ (N0 < 0 ∨ (K : Int) < N0) then (K : Int) else N0) := by
                              show _ = _
                              simp only [nextTo]
                              rw [← hK, ← hBK, ← hLK, ← hBA, ← hN0]
                            have i1 : (a : Int) < (n : Int) := by omega
                            have i2 : (K : Int) < (n : Int) := by omega
                            clear hK hBK hBA hLK hN0
                            by_cases he : BK + LK = BA
                            · have t1 : (BK + LK == BA) = true := by simpa using he
                              by_cases hn0 : N0 < 0
                              · have HS2 : Hid (nextTo l (beg l) a (q + 1) = K) := by show _ = _; rw [HS.out, if_pos ⟨he, .inl hn0⟩]
                                have t2 : decide (N0 < 0) = true := by simpa using hn0
                                clear he
                                go_wp2
                                go_quiet (fail)
                                go_wp2
                                go_roundw
                                case rel => exact ⟨q + 1, by omega, by go_num, by rw [HS2.out], Lib.hid ⟨HQ.out.1.drewN _, HQ.out.2.1, HQ.out.2.2.drewN _⟩⟩
                                case measure => simp [intOf]; omega
                              · have t2 : decide (N0 < 0) = false := by simpa using hn0
                                by_cases hk0 : (K : Int) < N0
                                · have HS2 : Hid (nextTo l (beg l) a (q + 1) = K) := by show _ = _; rw [HS.out, if_pos ⟨he, .inr hk0⟩]
                                  have t3 : decide ((K : Int) < N0) = true := by simpa using hk0
                                  clear he
                                  go_wp2
                                  go_quiet (fail)
                                  go_wp2
                                  go_roundw
                                  case rel => exact ⟨q + 1, by omega, by go_num, by rw [HS2.out], Lib.hid ⟨HQ.out.1.drewN _, HQ.out.2.1, HQ.out.2.2.drewN _⟩⟩
                                  case measure => simp [intOf]; omega
                                · have HS2 : Hid (nextTo l (beg l) a (q + 1) = N0) := by show _ = _; rw [HS.out, if_neg (fun h => by rcases h.2 with h | h <;> omega)]
                                  have t3 : decide ((K : Int) < N0) = false := by simpa using hk0
                                  clear he
                                  go_wp2
                                  go_quiet (fail)
                                  go_wp2
                                  go_roundw
                                  case rel => exact ⟨q + 1, by omega, by go_num, by rw [HS2.out], Lib.hid ⟨HQ.out.1.drewN _, HQ.out.2.1, HQ.out.2.2.drewN _⟩⟩
                                  case measure => simp [intOf]; omega
                            · have t1 : (BK + LK == BA) = false := by simpa using he
                              have HS2 : Hid (nextTo l (beg l) a (q + 1) = N0) := by show _ = _; rw [HS.out, if_neg (fun h => he h.1)]
                              clear he
                              go_wp2
                              go_quiet (fail)
                              go_wp2
                              go_roundw
                              case rel => exact ⟨q + 1, by omega, by go_num, by rw [HS2.out], Lib.hid ⟨HQ.out.1.drewN _, HQ.out.2.1, HQ.out.2.2.drewN _⟩⟩
                              case measure => simp [intOf]; omega
                          · obtain rfl : m = q := by omega
                            have hbd := nextTo_bd HG.out (B := beg l) hal (q := m) (by rw [HM.out]; exact Nat.le_refl _)
                            rw [← hN0] at hbd
                            have EX : Hid (N0 = atD l (beg l) (last l) (d + 1)) := by
                              show _ = _
                              simp only [atD]
                              rw [← HX0.out, Int.toNat_natCast, ← HM.out, hN0]
                            have HALL : Hid (∀ k, k < d + 1 → 0 ≤ atD l (beg l) (last l) k) := by
                              intro k hk
                              by_cases e : k = d
                              · rw [e, ← HX0.out]; omega
                              · exact HW.out.1 k (by omega)
                            clear hN0
                            go_wp2
                            go_roundw
                            case rel => exact ⟨d + 1, N0, _, EX.out, hbd.1, by have := hbd.2; omega, rfl, Lib.hid ⟨HALL.out, HQ.out⟩⟩
                            case measure => simp [intOf]; omega
                      · have HC : Hid (ChainOf l (beg l) (last l) d) := ⟨by rw [← HX0.out]; omega, HW.out.1⟩
                        obtain ⟨oc, cc, rfl, hrv⟩ := rev_chain HW.out.2.1 HW.out.2.2.2 HB5.out chD_len HS5.out (by unfold maxLen; omega)
                        have HRV := Lib.hid hrv
                        have k3 := HW.out.2.1.c3
                        clear hrv
                        go_wp2_with (go_at_call 40; (with_reducible refine (HRV.out).mono ?_); rintro e w9 ⟨rfl, hT9, hR9⟩; have HT9 := Lib.hid hT9; have HR9 := Lib.hid hR9; have q0 := hT9.c0; have q1 := hT9.c1; have q2 := hT9.c2; have q3 := hT9.c3; obtain ⟨r0, r1, r2, r3, rz⟩ := resCells (HB1.out.trans (hT9.bel.mono HB1.out.size)); have e1 : w.heap.size ≠ bt := (by have h1 := HA.out.l0; have h2 := HB1.out.size; rw [World.size_alloc] at h2; omega); clear hT9 hR9)
                        obtain ⟨y0, y1, y2, y3⟩ := setRes (.slice (some ⟨gb, 0, none⟩) n n) (.slice (some ⟨gl, 0, none⟩) n n) (.int .i64 (endV l)) (.slice oc d cc) r0 r1 r2 r3 rz
                        generalize hwz : (((w9.setCell ⟨w.heap.size, 0, none⟩ (.slice (some ⟨gb, 0, none⟩) n n)).setCell ⟨w.heap.size, 1, none⟩ (.slice (some ⟨gl, 0, none⟩) n n)).setCell ⟨w.heap.size, 2, none⟩ (.int .i64 (endV l))).setCell ⟨w.heap.size, 3, none⟩ (.slice oc d cc) = wz at *
                        replace hwz := Lib.hid hwz
                        refine bodyPost_ret (v := .tuple #[.agg #[.slice (some ⟨gb, 0, none⟩) n n, .slice (some ⟨gl, 0, none⟩) n n, .int .i64 (endV l), .slice oc d cc], .int .i64 0]) (by simp [results, Try.results24, go_sem, y0, y1, y2, y3]) rfl ?_
                        rw [← hwz.out]
                        have h1 := HB1.out.size
                        rw [World.size_alloc] at h1
                        have p1 := HA.out.l1
                        have p2 := HA.out.l2
                        refine ⟨gb, gl, oc, cc, d, rfl, ?_, ?_, HC.out, RevAt.flat (s := w1.heap.size) ?_ chD_len, ?_⟩
                        · exact (((HT9.out.tb.other (by omega) _).other (by omega) _).other (by omega) _).other (by omega) _
                        · exact (((HT9.out.tl.other (by omega) _).other (by omega) _).other (by omega) _).other (by omega) _
                        · exact (((HR9.out.other (by omega) _).other (by omega) _).other (by omega) _).other (by omega) _
                        · exact ((((balloc_lt w _ (HB1.out.trans (HT9.out.bel.mono HB1.out.size))).setCell (p := ⟨w.heap.size, 0, none⟩) (Nat.le_refl _) _).setCell (p := ⟨w.heap.size, 1, none⟩) (Nat.le_refl _) _).setCell (p := ⟨w.heap.size, 2, none⟩) (Nat.le_refl _) _).setCell (p := ⟨w.heap.size, 3, none⟩) (Nat.le_refl _) _
end Go.Proofs.Ytjggcnpnjnmamaa
