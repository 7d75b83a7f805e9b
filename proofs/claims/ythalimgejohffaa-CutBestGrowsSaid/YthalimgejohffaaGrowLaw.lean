/-
  The law CutBestGrows: its walk. Own text.
-/
import Derived.Test.YthalimgejohffaaGrows
namespace Go.Proofs.Ythalimgejohffaa
open Go.RowKit
set_option linter.unusedVariables false
theorem best_okI (W' H' : Int) (W H : Nat) (hW : W' = W) (hH : H' = H) (oi : Option Addr) (items : List Item) (ci : Nat) (w : World) (hx : Flat w 4 encItem oi items) (hi : itemsErr items = 0) (h1 : 1 ≤ W) (h2 : W ≤ 40) (h3 : 1 ≤ H) (h4 : H ≤ 40) :
    Calls Try.prog 21 #[.int .i64 W', .int .i64 H', .slice oi items.length ci] w (RetBest items W H w) := by
  subst hW hH
  have h8 := (itemsErr_zero hi).1
  exact best_ok W H oi items ci w (by unfold maxLen; omega) hx (by unfold beginV; rw [if_pos (by omega), hi])
set_option maxRecDepth 100000 in
set_option maxHeartbeats 1600000 in
theorem grows_any (W0 H0 M0 : Int) (oi : Option Addr) (its : List Item) (ci : Nat) (x : Item) (w : World) (hm : its.length ≤ maxLen) (hx : Flat w 4 encItem oi its) :
    Calls Try.prog 9 #[.int .i64 W0, .int .i64 H0, .int .i64 M0, .slice oi its.length ci, .agg #[.int .i64 x.w, .int .i64 x.h, .int .i64 x.value, .bool x.turn]] w fun e w' => e = .returned (.bool true) ∧ Below w.heap.size w w' := by
  have hWb := wi_bd W0 1 20 (by omega)
  have hHb := wi_bd H0 1 20 (by omega)
  have hMb := wi_bd M0 1 20 (by omega)
  obtain ⟨W, hW⟩ : ∃ W : Nat, wi W0 1 20 = (W : Int) := ⟨(wi W0 1 20).toNat, by omega⟩
  obtain ⟨H, hH⟩ : ∃ H : Nat, wi H0 1 20 = (H : Int) := ⟨(wi H0 1 20).toNat, by omega⟩
  obtain ⟨M, hM⟩ : ∃ M : Nat, wi M0 1 20 = (M : Int) := ⟨(wi M0 1 20).toNat, by omega⟩
  rw [hW] at hWb
  rw [hH] at hHb
  rw [hM] at hMb
  have HW := Lib.hid hW
  have HH := Lib.hid hH
  have HM := Lib.hid hM
  have w1 : 1 ≤ W := by omega
  have w2 : W ≤ 20 := by omega
  have h1 : 1 ≤ H := by omega
  have h2 : H ≤ 20 := by omega
  have m1 : 1 ≤ M := by omega
  have m2 : M ≤ 20 := by omega
  have hk := Lib.hid (kindsV_ok its)
  have hf := Lib.hid (further_ok x its)
  have ht := Lib.hid (turned_ok (kindsV_ok its))
  have hk8 : (kindsV its).length ≤ 6 := by unfold kindsV; rw [List.length_map, List.length_take]; omega
  have hbd := fun (a b : Nat) (h1 : 1 ≤ a) (h2 : a ≤ 40) (h3 : 1 ≤ b) (h4 : b ≤ 40) => bval_small (l := kindsV its) (fun j hj => ((itemsErr_zero (kindsV_ok its)).2 j hj).2.2.2.2.2) h1 h2 h3 h4
  have v1 := hbd W H w1 (by omega) h1 (by omega)
  have v2 := hbd M H m1 (by omega) h1 (by omega)
  have q1 : bval (kindsV its) W H + bval (kindsV its) M H ≤ bval (kindsV its) (W + M) H := by
    have h := (bval_low (kindsV its) (w := W + M) (h := H) (by omega) h1).sides W w1 (by omega)
    rw [show W + M - W = M from by omega] at h
    exact h
  have q2 := further_mono (kindsV [x]) (kindsV its) w1 h1
  have q3 := turned_mono (kindsV its) w1 h1
  have q4 := Lib.hid (turned_eq (kindsV its) w1 h1)
  have q5 : Hid (total [kindsV [x], kindsV its] * 32 ≤ 140737488355328) := by
    show total [kindsV [x], kindsV its] * 32 ≤ 140737488355328
    have e : (kindsV [x]).length = 1 := rfl
    unfold total
    simp
    omega
  obtain ⟨fur, hfur⟩ : ∃ fur, kindsV [x] ++ kindsV its = fur := ⟨_, rfl⟩
  have q6 : Hid ([kindsV [x], kindsV its].flatten = fur) := by show _ = _; rw [← hfur]; simp
  have hf2 : Hid (itemsErr fur = 0) := by rw [← hfur]; exact hf.out
  rw [hfur] at q2
  clear hfur hf
  have hX := Lib.hid hx
  clear hW hH hM hbd hx hWb hHb hMb
  have hb0 := Lib.hid (balloc (Below.refl _ w) (.cells #[.int .i64 x.w, .int .i64 x.h, .int .i64 x.value, .bool x.turn] 51))
  have b0 : (w.alloc (.cells #[.int .i64 x.w, .int .i64 x.h, .int .i64 x.value, .bool x.turn] 51)).cell? ⟨w.heap.size, 0, none⟩ = some (.int .i64 x.w) := by go_simp
  have b1 : (w.alloc (.cells #[.int .i64 x.w, .int .i64 x.h, .int .i64 x.value, .bool x.turn] 51)).cell? ⟨w.heap.size, 1, none⟩ = some (.int .i64 x.h) := by go_simp
  have b2 : (w.alloc (.cells #[.int .i64 x.w, .int .i64 x.h, .int .i64 x.value, .bool x.turn] 51)).cell? ⟨w.heap.size, 2, none⟩ = some (.int .i64 x.value) := by go_simp
  have b3 : (w.alloc (.cells #[.int .i64 x.w, .int .i64 x.h, .int .i64 x.value, .bool x.turn] 51)).cell? ⟨w.heap.size, 3, none⟩ = some (.bool x.turn) := by go_simp
  have B : Hid ((w.alloc (.cells #[.int .i64 x.w, .int .i64 x.h, .int .i64 x.value, .bool x.turn] 51)).cell? ⟨w.heap.size, 0, none⟩ = some (.int .i64 x.w) ∧ (w.alloc (.cells #[.int .i64 x.w, .int .i64 x.h, .int .i64 x.value, .bool x.turn] 51)).cell? ⟨w.heap.size, 1, none⟩ = some (.int .i64 x.h) ∧ (w.alloc (.cells #[.int .i64 x.w, .int .i64 x.h, .int .i64 x.value, .bool x.turn] 51)).cell? ⟨w.heap.size, 2, none⟩ = some (.int .i64 x.value) ∧ (w.alloc (.cells #[.int .i64 x.w, .int .i64 x.h, .int .i64 x.value, .bool x.turn] 51)).cell? ⟨w.heap.size, 3, none⟩ = some (.bool x.turn)) := ⟨b0, b1, b2, b3⟩
  clear b0 b1 b2 b3
  go_enter Try.func9, Try.ntmps9
  go_wp2_with fail
  refine (cuts_any _).mono ?_
  rintro e u1 ⟨rfl, hb⟩
  have hz := Lib.hid (bthen hb0.out hb)
  have hx1 := Lib.hid ((hX.out.below (balloc (Below.refl _ w) _)).below hb)
  have B1 : Hid (u1.cell? ⟨w.heap.size, 0, none⟩ = some (.int .i64 x.w) ∧ u1.cell? ⟨w.heap.size, 1, none⟩ = some (.int .i64 x.h) ∧ u1.cell? ⟨w.heap.size, 2, none⟩ = some (.int .i64 x.value) ∧ u1.cell? ⟨w.heap.size, 3, none⟩ = some (.bool x.turn)) := ⟨keepCell hb B.out.1, keepCell hb B.out.2.1, keepCell hb B.out.2.2.1, keepCell hb B.out.2.2.2⟩
  clear hb hb0 B
  go_wp2_with fail
  refine (within_any _ _ _ _ (by omega) (by omega) (by omega)).mono ?_
  rintro e w' ⟨rfl, rfl⟩
  rw [HW.out]
  go_wp2_with fail
  refine (within_any _ _ _ _ (by omega) (by omega) (by omega)).mono ?_
  rintro e w' ⟨rfl, rfl⟩
  rw [HH.out]
  go_wp2_with fail
  refine (within_any _ _ _ _ (by omega) (by omega) (by omega)).mono ?_
  rintro e w' ⟨rfl, rfl⟩
  rw [HM.out]
  go_wp2_with fail
  refine (kinds_any _ _ _ _ hm hx1.out).mono ?_
  rintro e u2 ⟨ok, ck, rfl, hmk, hfk, hb, hnk⟩
  have hz := Lib.hid (bthen hz.out hb)
  have hfk := Lib.hid hfk
  have B1 : Hid (u2.cell? ⟨w.heap.size, 0, none⟩ = some (.int .i64 x.w) ∧ u2.cell? ⟨w.heap.size, 1, none⟩ = some (.int .i64 x.h) ∧ u2.cell? ⟨w.heap.size, 2, none⟩ = some (.int .i64 x.value) ∧ u2.cell? ⟨w.heap.size, 3, none⟩ = some (.bool x.turn)) := ⟨keepCell hb B1.out.1, keepCell hb B1.out.2.1, keepCell hb B1.out.2.2.1, keepCell hb B1.out.2.2.2⟩
  have hnk := Lib.hid hnk
  clear hb hx1
  go_wp2_with fail
  refine (best_okI _ _ (W) (H) rfl rfl _ (kindsV its) _ _ hfk.out hk.out (by omega) (by omega) (by omega) (by omega)).mono ?_
  rintro e u3 ⟨hb, ku3, au3, iu3, lu3, ou3, pu3, _, rfl, _⟩
  have hba := balloc hb (.cells #[.int .i64 ku3, .int .i64 au3, .int .i64 iu3, .slice ou3 lu3.length pu3] 25)
  have hz := Lib.hid (bthen hz.out hba)
  have hfk := Lib.hid (hfk.out.below hba)
  have B1 : Hid ((u3.alloc (.cells #[.int .i64 ku3, .int .i64 au3, .int .i64 iu3, .slice ou3 lu3.length pu3] 25)).cell? ⟨w.heap.size, 0, none⟩ = some (.int .i64 x.w) ∧ (u3.alloc (.cells #[.int .i64 ku3, .int .i64 au3, .int .i64 iu3, .slice ou3 lu3.length pu3] 25)).cell? ⟨w.heap.size, 1, none⟩ = some (.int .i64 x.h) ∧ (u3.alloc (.cells #[.int .i64 ku3, .int .i64 au3, .int .i64 iu3, .slice ou3 lu3.length pu3] 25)).cell? ⟨w.heap.size, 2, none⟩ = some (.int .i64 x.value) ∧ (u3.alloc (.cells #[.int .i64 ku3, .int .i64 au3, .int .i64 iu3, .slice ou3 lu3.length pu3] 25)).cell? ⟨w.heap.size, 3, none⟩ = some (.bool x.turn)) := ⟨keepCell hba B1.out.1, keepCell hba B1.out.2.1, keepCell hba B1.out.2.2.1, keepCell hba B1.out.2.2.2⟩
  clear hb hba
  go_wp2_with fail
  refine (best_okI _ _ (M) (H) rfl rfl _ (kindsV its) _ _ hfk.out hk.out (by omega) (by omega) (by omega) (by omega)).mono ?_
  rintro e u4 ⟨hb, ku4, au4, iu4, lu4, ou4, pu4, _, rfl, _⟩
  have hba := balloc hb (.cells #[.int .i64 ku4, .int .i64 au4, .int .i64 iu4, .slice ou4 lu4.length pu4] 25)
  have hz := Lib.hid (bthen hz.out hba)
  have hfk := Lib.hid (hfk.out.below hba)
  have B1 : Hid ((u4.alloc (.cells #[.int .i64 ku4, .int .i64 au4, .int .i64 iu4, .slice ou4 lu4.length pu4] 25)).cell? ⟨w.heap.size, 0, none⟩ = some (.int .i64 x.w) ∧ (u4.alloc (.cells #[.int .i64 ku4, .int .i64 au4, .int .i64 iu4, .slice ou4 lu4.length pu4] 25)).cell? ⟨w.heap.size, 1, none⟩ = some (.int .i64 x.h) ∧ (u4.alloc (.cells #[.int .i64 ku4, .int .i64 au4, .int .i64 iu4, .slice ou4 lu4.length pu4] 25)).cell? ⟨w.heap.size, 2, none⟩ = some (.int .i64 x.value) ∧ (u4.alloc (.cells #[.int .i64 ku4, .int .i64 au4, .int .i64 iu4, .slice ou4 lu4.length pu4] 25)).cell? ⟨w.heap.size, 3, none⟩ = some (.bool x.turn)) := ⟨keepCell hba B1.out.1, keepCell hba B1.out.2.1, keepCell hba B1.out.2.2.1, keepCell hba B1.out.2.2.2⟩
  clear hb hba
  go_wp2_with fail
  refine (best_okI _ _ (W + M) (H) (by omega) rfl _ (kindsV its) _ _ hfk.out hk.out (by omega) (by omega) (by omega) (by omega)).mono ?_
  rintro e u5 ⟨hb, ku5, au5, iu5, lu5, ou5, pu5, _, rfl, _⟩
  have hba := balloc hb (.cells #[.int .i64 ku5, .int .i64 au5, .int .i64 iu5, .slice ou5 lu5.length pu5] 25)
  have hz := Lib.hid (bthen hz.out hba)
  have hfk := Lib.hid (hfk.out.below hba)
  have B1 : Hid ((u5.alloc (.cells #[.int .i64 ku5, .int .i64 au5, .int .i64 iu5, .slice ou5 lu5.length pu5] 25)).cell? ⟨w.heap.size, 0, none⟩ = some (.int .i64 x.w) ∧ (u5.alloc (.cells #[.int .i64 ku5, .int .i64 au5, .int .i64 iu5, .slice ou5 lu5.length pu5] 25)).cell? ⟨w.heap.size, 1, none⟩ = some (.int .i64 x.h) ∧ (u5.alloc (.cells #[.int .i64 ku5, .int .i64 au5, .int .i64 iu5, .slice ou5 lu5.length pu5] 25)).cell? ⟨w.heap.size, 2, none⟩ = some (.int .i64 x.value) ∧ (u5.alloc (.cells #[.int .i64 ku5, .int .i64 au5, .int .i64 iu5, .slice ou5 lu5.length pu5] 25)).cell? ⟨w.heap.size, 3, none⟩ = some (.bool x.turn)) := ⟨keepCell hba B1.out.1, keepCell hba B1.out.2.1, keepCell hba B1.out.2.2.1, keepCell hba B1.out.2.2.2⟩
  clear hb hba
  obtain ⟨c0, c1, c2, c3⟩ := B1.out
  have hL0 := Flat.lit1 (u5.alloc (.cells #[.int .i64 ku5, .int .i64 au5, .int .i64 iu5, .slice ou5 lu5.length pu5] 25)) 4 encItem x 51 rfl
  have eL : (u5.alloc (.cells #[.int .i64 ku5, .int .i64 au5, .int .i64 iu5, .slice ou5 lu5.length pu5] 25)).heap.size = u5.heap.size + 1 := by simp
  rw [eL] at hL0
  have CK : Hid (Calls Try.prog 20 #[.slice (some ⟨u5.heap.size + 1, 0, none⟩) 1 1] ((u5.alloc (.cells #[.int .i64 ku5, .int .i64 au5, .int .i64 iu5, .slice ou5 lu5.length pu5] 25)).alloc (.cells #[.int .i64 x.w, .int .i64 x.h, .int .i64 x.value, .bool x.turn] 51)) (RetItems (kindsV [x]) ((u5.alloc (.cells #[.int .i64 ku5, .int .i64 au5, .int .i64 iu5, .slice ou5 lu5.length pu5] 25)).alloc (.cells #[.int .i64 x.w, .int .i64 x.h, .int .i64 x.value, .bool x.turn] 51)))) := kinds_any (some ⟨u5.heap.size + 1, 0, none⟩) [x] 1 _ (show 1 ≤ maxLen by decide) hL0
  clear eL hL0
  go_wp2_with fail
  refine CK.out.mono ?_
  rintro e u6 ⟨ok6, ck6, rfl, hm6, hf6, hb, hn6⟩
  have hba := balloc_lt _ _ hb
  have hz := Lib.hid (bthen hz.out hba)
  have hfk := Lib.hid (hfk.out.below hba)
  have hR := Lib.hid (Rows1.lit2 (w := u6) (k := 4) (enc := encItem) ⟨ok6, ck6, rfl, hn6, hm6, hf6⟩ ⟨ok, ck, rfl, hnk.out, hmk, hfk.out⟩ 22)
  clear hb hba c0 c1 c2 c3 B1 hf6 hn6
  go_wp2_with fail
  refine (concatItems _ [kindsV [x], kindsV its] _ _ (by simp) hR.out q5.out).mono ?_
  rw [q6.out]
  rintro e u7 hret
  obtain ⟨oac, capc, rfl, hnc, hmc, hfc, hb⟩ := hret.out
  have hba := balloc_lt _ _ hb
  have hz := Lib.hid (bthen hz.out hba)
  have hfk := Lib.hid (hfk.out.below hba)
  have hfc := Lib.hid hfc
  clear hb hba hret hR hnc
  go_wp2_with fail
  refine (best_okI _ _ (W) (H) rfl rfl _ (fur) _ _ hfc.out hf2.out (by omega) (by omega) (by omega) (by omega)).mono ?_
  rintro e u8 ⟨hb, ku8, au8, iu8, lu8, ou8, pu8, _, rfl, _⟩
  have hba := balloc hb (.cells #[.int .i64 ku8, .int .i64 au8, .int .i64 iu8, .slice ou8 lu8.length pu8] 25)
  have hz := Lib.hid (bthen hz.out hba)
  have hfk := Lib.hid (hfk.out.below hba)
  clear hb hba
  go_wp2_with fail
  refine (cloneItems _ (kindsV its) _ _ hnk.out (by omega) hfk.out).mono ?_
  rintro e u9 ⟨vc, rfl, hown, hb⟩
  have hws : w.heap.size ≤ u8.heap.size + 1 := by
    have h := hz.out.size
    simp at h
    exact h
  have hz := Lib.hid (bthen hz.out hb)
  obtain ⟨og, cg, rfl, _, _, _⟩ := hown.isSlice (fun _ => rfl)
  have HO : Hid (u9.ownsRow (u8.heap.size + 1) 51 4 (.slice og (kindsV its).length cg) (kindsV its).length ((turnTo (kindsV its) 0).flatMap encItem)) := by
    have h : Own u9 _ _ 4 encItem (.slice og (kindsV its).length cg) (kindsV its) := hown
    have e : (u8.alloc (.cells #[.int .i64 ku8, .int .i64 au8, .int .i64 iu8, .slice ou8 lu8.length pu8] 25)).heap.size = u8.heap.size + 1 := by simp
    rw [e] at h
    exact h
  have hnl : ((kindsV its).length : Int) ≤ 9223372036854775807 := by omega
  clear hown hb
  go_wp2
  go_loopw [86] (fun i wr => ∃ q : Nat, q ≤ (kindsV its).length ∧ i = .int .i64 q ∧ Below w.heap.size w wr ∧ wr.ownsRow (u8.heap.size + 1) 51 4 (.slice og (kindsV its).length cg) (kindsV its).length ((turnTo (kindsV its) q).flatMap encItem)) (fun i _ => (kindsV its).length - (intOf i).toNat)
  case atStart => exact ⟨0, by omega, rfl, hz.out, HO.out⟩
  case round =>
    obtain ⟨q, hq, rfl, hbr, hO⟩ := hrel
    clear HO
    by_cases hlt : q < (kindsV its).length
    · have hg : ∃ g, og = some ⟨g, 0, none⟩ ∧ u8.heap.size + 1 ≤ g := by
        rcases hO.2 with ⟨h1, h2⟩ | ⟨g, cap', cur, h1, h2, _⟩
        · omega
        · simp only [Value.slice.injEq] at h1
          exact ⟨g, h1.1, h2⟩
      obtain ⟨g, rfl, hgb⟩ := hg
      have hc := World.ownsRow.cellAt hO (q * 4 + 3) (by omega)
      have hfz := World.ownsRow.frozenAt hO (q * 4 + 3)
      have hlen : (turnTo (kindsV its) q).length = (kindsV its).length := turnTo_length _ _
      have hq2 : q < (turnTo (kindsV its) q).length := by omega
      have hge := flatMap_get (enc := encItem) (k := 4) (fun _ => rfl) (turnTo (kindsV its) q) q hq2 3 (by omega)
      rw [hge] at hc
      have hc2 : wr.cell? ⟨g, q * 4 + 3, none⟩ = some (.bool (turnTo (kindsV its) q)[q].turn) := hc
      have hst := (World.ownsRow.stored hO (q * 4 + 3) (.bool true)).1
      rw [flat_turn _ q hq2, turnTo_get _ q q hlt hq2, if_neg (Nat.lt_irrefl q), ← turnTo_succ hlt] at hst
      have HST := Lib.hid hst
      have hbs := Lib.hid (hbr.setCell (p := ⟨g, q * 4 + 3, none⟩) (Nat.le_trans hws hgb) (.bool true))
      obtain ⟨tq, htq⟩ : ∃ tq, tq = (turnTo (kindsV its) q)[q].turn := ⟨_, rfl⟩
      rw [← htq] at hc2
      clear hc hge hst hO htq hlen hq2 hbr
      go_wp2
      go_roundw
      case rel => exact ⟨q + 1, by omega, by go_num, hbs.out, HST.out⟩
      case measure => simp [intOf]; omega
    · obtain rfl : q = (kindsV its).length := by omega
      have hO2 : Own wr (u8.heap.size + 1) 51 4 encItem (.slice og (kindsV its).length cg) ((kindsV its).map turned) := by
        have h := hO
        rw [turnTo_all] at h
        unfold Own
        rw [List.length_map]
        exact h
      obtain ⟨og2, cg2, hv, _, _, hft⟩ := hO2.isSlice (fun _ => rfl)
      simp only [Value.slice.injEq, List.length_map, true_and] at hv
      obtain ⟨rfl, rfl⟩ := hv
      have hft := Lib.hid hft
      have hz := Lib.hid hbr
      clear hO hO2 hbr
      have C1 := best_okI (W : Int) (H : Int) W H rfl rfl og ((kindsV its).map turned) cg wr hft.out ht.out w1 (by omega) h1 (by omega)
      rw [List.length_map] at C1
      have C1 := Lib.hid C1
      go_wp2_with fail
      refine C1.out.mono ?_
      rintro e ua ⟨hb, ka, aa, ia, la, oa', pa, _, rfl, _⟩
      have hba := balloc hb (.cells #[.int .i64 ka, .int .i64 aa, .int .i64 ia, .slice oa' la.length pa] 25)
      have hz := Lib.hid (bthen hz.out hba)
      have C2 := best_okI (H : Int) (W : Int) H W rfl rfl og ((kindsV its).map turned) cg _ (hft.out.below hba) ht.out h1 (by omega) w1 (by omega)
      rw [List.length_map] at C2
      have C2 := Lib.hid C2
      clear hb hba C1
      go_wp2_with fail
      refine C2.out.mono ?_
      rintro e ub ⟨hb, kb, ab, ib, lb, ob, pb, _, rfl, _⟩
      rw [← q4.out]
      have hba := balloc hb (.cells #[.int .i64 kb, .int .i64 ab, .int .i64 ib, .slice ob lb.length pb] 25)
      have hz := Lib.hid (bthen hz.out hba)
      clear hb hba C2
      go_wp2
      go_ret
      exact ⟨rfl, hz.out⟩
end Go.Proofs.Ythalimgejohffaa
