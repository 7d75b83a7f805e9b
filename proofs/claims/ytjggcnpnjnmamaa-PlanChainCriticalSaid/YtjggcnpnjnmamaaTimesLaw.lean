/-
  PlanTimesMatchReference: its walk. Own text.
-/
import Derived.Test.YtjggcnpnjnmamaaLonger
import Derived.Test.YtjggcnpnjnmamaaTasksArg
import Derived.Test.YtjggcnpnjnmamaaVerLaw
namespace Go.Proofs.Ytjggcnpnjnmamaa
open Go.RowKit
set_option linter.unusedVariables false
theorem Own.flatN {w : World} {base k : Nat} {e : TypeId} {v : Value} {xs : List Int} (h : Own w base e 1 encInt v xs) (hl : xs.length = k) : ∃ ov cv, v = .slice ov k cv ∧ Flat w 1 encInt ov xs := by
  obtain ⟨ov, cv, hv, _, hf⟩ := h.flat (fun _ => rfl)
  exact ⟨ov, cv, by rw [hv, hl], hf⟩
theorem same_N (oa ob : Option Addr) (xs : List Int) (k ca cb : Nat) (w : World) (hl : xs.length = k) (hm : k ≤ 100) (hx : Flat w 1 encInt oa xs) (hy : Flat w 1 encInt ob xs) :
    Calls Try.prog 28 #[.slice oa k ca, .slice ob k cb] w fun e w' => e = .returned (.bool true) ∧ Below w.heap.size w w' := by
  subst hl
  have h := sameInts_any oa ob xs xs ca cb w (by unfold maxLen; omega) (by unfold maxLen; omega) hx hy
  rw [sameB_self] at h
  exact h
theorem tasksErr_N (oa : Option Addr) (l : List Task) (cap n : Nat) (w : World) (hn : n = l.length) (hm : n ≤ maxLen) (hx : TasksAt w oa l) (hc : tasksErr l = 0) :
    Calls Try.prog 25 #[.slice oa n cap] w fun e w' => e = .returned (.int .i64 0) ∧ Below w.heap.size w w' := by
  subst hn
  have := tasksError_any oa l cap w hm hx
  rw [hc] at this
  exact this
set_option maxRecDepth 100000 in
set_option maxHeartbeats 16000000 in
theorem times_law_ok (oa : Option Addr) (l : List Task) (cap n : Nat) (w : World) (hn : n = l.length) (hx : TasksAt w oa l) (hc : tasksErr l = 0) :
    Calls Try.prog 8 #[.slice oa n cap] w fun e w' => e = .returned (.bool true) ∧ Below w.heap.size w w' := by
  have hG := GoodTasks.of hc
  have hn40 : n ≤ 40 := by rw [hn]; exact hG.n40
  have hm : n ≤ maxLen := by unfold maxLen; omega
  have HN := Lib.hid hn
  have HG := Lib.hid hG
  have HX := Lib.hid hx
  have HT := Lib.hid (fun w1 (hb : Below w.heap.size w w1) => times_ok oa l cap n w1 hn (hx.below hb) hc)
  have HE := Lib.hid (fun w1 (hb : Below w.heap.size w w1) => tasksErr_N oa l cap n w1 hn hm (hx.below hb) hc)
  have HK := Lib.hid (fun w1 (hb : Below w.heap.size w w1) => checkT_N oa l cap n w1 hn hm (hx.below hb) hc)
  have mk := run_makeArr (P := Try.prog) elemInt Try.underlying25 (.int .i64 0) rfl n (by omega) (by omega)
  clear hx hc hn hm hG
  go_enter Try.func8, Try.ntmps8
  go_wp2_with (first | (go_at_call 12; (with_reducible refine (plansL_any _).mono ?_); rintro e w1 ⟨rfl, hb1⟩; have HB1 := Lib.hid hb1; clear hb1) | (go_at_call 24; (with_reducible refine (HT.out _ HB1.out).mono ?_); rintro e w2 ⟨gb, gl, oc, cc, d, rfl, htb, htl, hch, hfl, hb2⟩; have HTB := Lib.hid htb; have HTL := Lib.hid htl; have HCH := Lib.hid hch; have HFL := Lib.hid hfl; have HB2 := Lib.hid (bthen HB1.out hb2); have HB3 := Lib.hid (balloc HB2.out (.cells #[.slice (some ⟨gb, 0, none⟩) n n, .slice (some ⟨gl, 0, none⟩) n n, .int .i64 (endV l), .slice oc d cc] 43)); clear htb htl hch hfl hb2) | (go_at_call 25; (with_reducible refine (HE.out _ HB3.out).mono ?_); rintro e w4 ⟨rfl, hb4⟩; have HB4 := Lib.hid hb4; have HB4' := Lib.hid (bthen HB3.out hb4); clear hb4) | (go_at_call 26; (with_reducible refine (HK.out _ HB4'.out).mono ?_); rintro e w5 ⟨rfl, hb5⟩; have HB5 := Lib.hid (bthen HB4.out hb5); have HB5' := Lib.hid (bthen HB4'.out hb5); obtain ⟨r0, r1, r2, r3, _⟩ := resCells HB5.out; clear hb5))
  have F1 : Hid (Flat w5 1 encInt (some ⟨gb, 0, none⟩) (lst n (beg l))) := HTB.out.lst.below (balloc_lt w2 _ HB5.out)
  have F2 : Hid (Flat w5 1 encInt (some ⟨gl, 0, none⟩) (lst n (lat l))) := HTL.out.lst.below (balloc_lt w2 _ HB5.out)
  have F3 : Hid (Flat w5 1 encInt oc (chD l (beg l) (last l) d).reverse) := HFL.out.below (balloc_lt w2 _ HB5.out)
  have R0 := Lib.hid r0
  have R1 := Lib.hid r1
  have R2 := Lib.hid r2
  have R3 := Lib.hid r3
  clear r0 r1 r2 r3 HT HE HK HTB HTL HFL HB1 HB2 HB3 HB4 HB4' HB5
  go_loopw [6, 7, 59] (fun s6 s7 s59 wr => ∃ (i : Nat) (v : Value), i ≤ n ∧ s59 = .int .i64 i ∧ s6 = v ∧ s7 = .int .i64 (endTo l (beg l) i) ∧ Hid (Below w5.heap.size w5 wr ∧ Own wr w5.heap.size 3 1 encInt v (lst i (beg l)))) (fun _ _ s59 _ => n - (intOf s59).toNat)
  case atStart => exact ⟨0, _, by omega, rfl, rfl, rfl, Lib.hid ⟨Below.refl _ _, Own.nil _ _ _ _ _⟩⟩
  case round =>
    obtain ⟨i, v, hi, rfl, rfl, rfl, HW⟩ := hrel
    by_cases hlt : i < n
    · have hil : i < l.length := by rw [← HN.out]; exact hlt
      obtain ⟨b, off, rfl⟩ := HX.out.some (by omega)
      obtain ⟨ov, cv, rfl, hfv⟩ := HW.out.2.flatN (lst_length i _)
      obtain ⟨P, hP⟩ : ∃ P, P = beg l i := ⟨_, rfl⟩
      obtain ⟨L, hL⟩ : ∃ L, L = lenN l i := ⟨_, rfl⟩
      obtain ⟨E, hE⟩ : ∃ E, E = endTo l (beg l) i := ⟨_, rfl⟩
      have HLG : Hid (Calls Try.prog 27 #[.slice (some ⟨b, off, none⟩) n cap, .int .i64 i, .slice ov i cv] wr fun e w' => e = .returned (.int .i64 P) ∧ Below wr.heap.size wr w') := by
        have h := longer_any b off cap n l i ov cv wr HG.out HN.out hlt (HX.out.below (bthen HB5'.out HW.out.1)) hfv
        rw [← beg_eq HG.out hil, ← hP] at h
        exact h
      have HO := Lib.hid HW.out.2
      have HBw := Lib.hid HW.out.1
      have HXw := Lib.hid (HX.out.below (bthen HB5'.out HW.out.1))
      have HLEN : Hid ((lst i (beg l)).length ≤ 40) := by show _ ≤ _; rw [lst_length]; omega
      have b1 := beg_bd HG.out i
      have b2 := HG.out.len i hil
      rw [← hP] at b1
      rw [← hL] at b2
      have g1 : IntKind.i64.wrap (P + L) = P + L := IntWalk.i64_in _ (by omega)
      obtain ⟨V, hV⟩ : ∃ V, (if E < P + L then P + L else E) = V := ⟨_, rfl⟩
      have HS : Hid (endTo l (beg l) (i + 1) = V) := by
        show _ = _
        simp only [endTo]
        rw [← hP, ← hL, ← hE, ← hV]
        split <;> omega
      have HPP := Lib.hid hP
      have HLL := Lib.hid hL
      have EL : Hid (lst (i + 1) (beg l) = lst i (beg l) ++ [P]) := by show _ = _; rw [lst_succ, ← hP]
      have i1 : (i : Int) < (n : Int) := by omega
      rw [← hE]
      clear hP hL hE hfv HW
      go_wp2_with (first | (go_at_call 27; (with_reducible refine (HLG.out).mono ?_); rintro e w6 ⟨rfl, hb6⟩; have hown2 := (HO.out.below hb6).alloc (.cells #[.int .i64 P] 3); have HB6 := Lib.hid (bthen HBw.out hb6); have HX6 := Lib.hid (HXw.out.below hb6); clear hb6) | (at_builtin; go_must (refine wpList_app1 rfl (.tmp 62) (.tmp 67) 25 rfl elemInt Try.underlying25 w5.heap.size _ _ encInt rfl hown2 P ⟨w6.heap.size, 0, none⟩ 1 rfl rfl ?c1 ?c2 ?c3 ?c4 ?c5 ?_)))
      case c1 => exact cell_one_new _ _ _
      case c2 => simp [encInt, Value.oneCell']
      case c3 => have := HLEN.out; omega
      case c4 => have := HLEN.out; unfold maxLen; omega
      case c5 => have := HB6.out.size; rw [World.size_alloc]; omega
      intro v' w7 hown3 hg3
      have HB7 := Lib.hid (hown2.grown (balloc HB6.out _) (Nat.le_refl _) hg3)
      rw [← EL.out] at hown3
      obtain ⟨ov', cv', rfl, hfv'⟩ := hown3.flatN (lst_length (i + 1) _)
      obtain ⟨bv, offv, rfl, kv⟩ := hfv'.int (i := i) (by rw [lst_length]; omega)
      rw [show (lst (i + 1) (beg l))[i]'(by rw [lst_length]; omega) = P by rw [HPP.out]; simp [lst]] at kv
      have kt := (HX.out.below (bthen HB5'.out HB7.out)).len hil
      rw [← HLL.out] at kt
      have HO3 := Lib.hid hown3
      have i2 : (i : Int) < ((i + 1 : Nat) : Int) := by omega
      clear hown2 hown3 hg3 hfv'
      go_wp2
      go_quiet (fail)
      go_wp2
      go_roundw
      case rel => exact ⟨i + 1, _, by omega, by go_num, rfl, by rw [HS.out], Lib.hid ⟨bdrewN HB7.out _, HO3.out.drewN _⟩⟩
      case measure => simp [intOf]; omega
    · obtain rfl : n = i := by omega
      have EE : Hid (endTo l (beg l) n = endV l) := by show _ = _; unfold endV; rw [HN.out]
      rw [EE.out]
      obtain ⟨E, hE⟩ : ∃ E, E = endV l := ⟨_, rfl⟩
      have b2 := endV_bd HG.out
      rw [← hE] at b2 ⊢
      have HE := Lib.hid hE
      clear hE
      obtain ⟨ob, cb, rfl, hfb⟩ := HW.out.2.flatN (lst_length n _)
      obtain ⟨w8, hw8⟩ : ∃ w8 : World, w8 = wr := ⟨_, rfl⟩
      subst hw8
      have HFB := Lib.hid hfb
      have HB8 := Lib.hid HW.out.1
      clear HW EE hfb
      have g0 : IntKind.i64.wrap ((n : Int) - 1) = (n : Int) - 1 := IntWalk.i64_in _ (by omega)
      have H2 : Hid (Below w8.heap.size w8 (w8.alloc (.cells (madeArr (.int .i64 0) n) 3)) ∧ FTab (Value.int .i64) (w8.alloc (.cells (madeArr (.int .i64 0) n) 3)) w8.heap.size n (latD l n 0)) :=
        ⟨balloc (Below.refl _ _) _, (FTab.made (Value.int .i64) w8 n 0 3).congr (fun j hj => by unfold latD; rw [if_neg (by omega)])⟩
      go_wp2
      go_loopw [10] (fun s10 wr => ∃ (d : Nat) (x : Int), d ≤ n ∧ x = (n : Int) - 1 - d ∧ s10 = .int .i64 x ∧ Hid (Below w8.heap.size w8 wr ∧ FTab (Value.int .i64) wr w8.heap.size n (latD l n d))) (fun s10 _ => (intOf s10 + 1).toNat)
      case atStart => exact ⟨0, (n : Int) - 1, by omega, by omega, rfl, H2⟩
      case round =>
        clear H2 g0 mk
        obtain ⟨d', x, hd, hx, rfl, HW⟩ := hrel
        by_cases hlt : d' < n
        · obtain ⟨i, hi⟩ : ∃ i : Nat, i + d' + 1 = n := ⟨n - 1 - d', by omega⟩
          obtain rfl : x = (i : Int) := by omega
          have hin : i < n := by omega
          have hil : i < l.length := by rw [← HN.out]; exact hin
          obtain ⟨b, off, rfl⟩ := HX.out.some (by omega)
          have kl := (HX.out.below (bthen (bthen HB5'.out HB8.out) HW.out.1)).len hil
          obtain ⟨L, hL⟩ : ∃ L, L = lenN l i := ⟨_, rfl⟩
          have b1 := HG.out.len i hil
          rw [← hL] at kl b1
          have kL := HW.out.2.at' i hin
          have zL := HW.out.2.fz i
          have g1 : IntKind.i64.wrap (E - L) = E - L := IntWalk.i64_in _ (by omega)
          have g2 : IntKind.i64.wrap ((i : Int) + 1) = (i : Int) + 1 := IntWalk.i64_in _ (by omega)
          have HL := Lib.hid hL
          have H3 : Hid (Below w8.heap.size w8 (wr.setCell ⟨w8.heap.size, i, none⟩ (.int .i64 (E - L))) ∧ FTab (Value.int .i64) (wr.setCell ⟨w8.heap.size, i, none⟩ (.int .i64 (E - L))) w8.heap.size n (fun j => if j = i then refK l (lat l) (endV l) i 0 else latD l n d' j)) := by
            refine ⟨HW.out.1.setCell (p := ⟨w8.heap.size, i, none⟩) (Nat.le_refl _) _, (HW.out.2.set hin (E - L)).congr (fun j _ => ?_)⟩
            rw [HE.out, hL]
            rfl
          have i1 : (i : Int) < (n : Int) := by omega
          clear hL hx HW
          go_wp2
          go_loopw [11] (fun s11 wx => ∃ c : Nat, i + 1 + c ≤ n ∧ s11 = .int .i64 ((i + 1 + c : Nat) : Int) ∧ Hid (Below w8.heap.size w8 wx ∧ FTab (Value.int .i64) wx w8.heap.size n (fun j => if j = i then refK l (lat l) (endV l) i c else latD l n d' j))) (fun s11 _ => n - (intOf s11).toNat)
          case atStart => exact ⟨0, by omega, by go_num, H3⟩
          case round =>
            clear H3 kL zL kl g1 g2
            obtain ⟨c, hc, rfl, HQ⟩ := hrel
            obtain ⟨k, hk⟩ : ∃ k, k = i + 1 + c := ⟨_, rfl⟩
            have HKC := Lib.hid hk
            rw [← hk] at hc ⊢
            by_cases hltk : k < n
            · have hkl : k < l.length := by rw [← HN.out]; exact hltk
              obtain ⟨oa', cap', ka1, fa1⟩ := HX.out.aft hkl
              have ka := keepCell (bthen (bthen HB5'.out HB8.out) HQ.out.1) ka1
              obtain ⟨m, hmm⟩ : ∃ m, m = aftL l k := ⟨_, rfl⟩
              have hm40 : m ≤ 40 := by rw [hmm]; exact HG.out.m40 k hkl
              rw [← hmm] at ka
              have HF := Lib.hid fa1
              have HM := Lib.hid hmm
              have i2 : (k : Int) < (n : Int) := by omega
              have g3 : IntKind.i64.wrap ((k : Int) + 1) = (k : Int) + 1 := IntWalk.i64_in _ (by omega)
              clear hmm fa1 ka1 hk
              go_wp2
              go_loopw [116] (fun s116 wx => ∃ q : Nat, q ≤ m ∧ s116 = .int .i64 q ∧ Hid (Below w8.heap.size w8 wx ∧ FTab (Value.int .i64) wx w8.heap.size n (fun j => if j = i then refA l (lat l) i k (refK l (lat l) (endV l) i c) q else latD l n d' j))) (fun s116 _ => m - (intOf s116).toNat)
              case atStart => exact ⟨0, by omega, rfl, HQ⟩
              case round =>
                clear ka HQ
                obtain ⟨q, hq, rfl, HQ⟩ := hrel
                by_cases hltq : q < m
                · have hq2 : q < aftL l k := by rw [← HM.out]; exact hltq
                  have HBx : Hid (Below w.heap.size w wr) := bthen (bthen HB5'.out HB8.out) HQ.out.1
                  obtain ⟨ba, offa, rfl, kk⟩ := aftCell HG.out hkl hq2 (HF.out.below HBx.out)
                  have hK1 := (HG.out.aft k q hkl hq2).2
                  obtain ⟨K, hK⟩ : ∃ K, K = aftN l k q := ⟨_, rfl⟩
                  rw [← hK] at kk hK1
                  by_cases he : K = i
                  · subst he
                    obtain ⟨R, hR⟩ : ∃ R, R = refA l (lat l) K k (refK l (lat l) (endV l) K c) q := ⟨_, rfl⟩
                    obtain ⟨TK, hTK⟩ : ∃ TK, TK = lat l k := ⟨_, rfl⟩
                    have kR : wr.cell? ⟨w8.heap.size, K, none⟩ = some (.int .i64 R) := by rw [HQ.out.2.at' K hin, hR]; simp
                    have kT : wr.cell? ⟨w8.heap.size, k, none⟩ = some (.int .i64 TK) := by
                      rw [HQ.out.2.at' k hltk, hTK]
                      unfold latD
                      rw [if_neg (by omega), if_pos (by have := HKC.out; omega)]
                    have zR := HQ.out.2.fz K
                    have kl := (HX.out.below HBx.out).len hil
                    rw [← HL.out] at kl
                    have b3 := lat_bd HG.out hkl
                    rw [← hTK] at b3
                    have g1 : IntKind.i64.wrap (TK - L) = TK - L := IntWalk.i64_in _ (by omega)
                    obtain ⟨V, hV⟩ : ∃ V, (if TK - L < R then TK - L else R) = V := ⟨_, rfl⟩
                    have HN2 : Hid (Below w8.heap.size w8 (wr.setCell ⟨w8.heap.size, K, none⟩ (.int .i64 V)) ∧ FTab (Value.int .i64) (wr.setCell ⟨w8.heap.size, K, none⟩ (.int .i64 V)) w8.heap.size n (fun j => if j = K then refA l (lat l) K k (refK l (lat l) (endV l) K c) (q + 1) else latD l n d' j)) := by
                      refine ⟨HQ.out.1.setCell (p := ⟨w8.heap.size, K, none⟩) (Nat.le_refl _) _, (HQ.out.2.set hin V).congr (fun j _ => ?_)⟩
                      by_cases e : j = K
                      · rw [if_pos e, if_pos e]
                        simp only [refA]
                        rw [if_pos hK.symm, ← hR, ← hTK, ← HL.out, ← hV]
                        split <;> omega
                      · rw [if_neg e, if_neg e, if_neg e]
                    have t1 : ((K : Int) == (K : Int)) = true := by simp
                    have HKK := Lib.hid hK
                    clear hK hR hTK
                    go_wp2
                    go_region
                    go_wp2
                    go_roundw
                    case rel => exact ⟨q + 1, by omega, by go_num, Lib.hid ⟨HN2.out.1.drew, HN2.out.2.drew⟩⟩
                    case measure => simp [intOf]; omega
                  · have t1 : ((K : Int) == (i : Int)) = false := by simp; omega
                    have HN2 : Hid (Below w8.heap.size w8 wr ∧ FTab (Value.int .i64) wr w8.heap.size n (fun j => if j = i then refA l (lat l) i k (refK l (lat l) (endV l) i c) (q + 1) else latD l n d' j)) := by
                      refine ⟨HQ.out.1, HQ.out.2.congr (fun j _ => ?_)⟩
                      by_cases e : j = i
                      · rw [if_pos e, if_pos e]
                        simp only [refA]
                        rw [if_neg (fun h => he (by rw [hK]; exact h))]
                      · rw [if_neg e, if_neg e]
                    clear hK he
                    go_wp2
                    go_roundw
                    case rel => exact ⟨q + 1, by omega, by go_num, HN2⟩
                    case measure => simp [intOf]; omega
                · obtain rfl : m = q := by omega
                  have HN2 : Hid (Below w8.heap.size w8 wr ∧ FTab (Value.int .i64) wr w8.heap.size n (fun j => if j = i then refK l (lat l) (endV l) i (c + 1) else latD l n d' j)) := by
                    refine ⟨HQ.out.1, HQ.out.2.congr (fun j _ => ?_)⟩
                    by_cases e : j = i
                    · rw [if_pos e, if_pos e]
                      simp only [refK]
                      rw [← HKC.out, ← HM.out]
                    · rw [if_neg e, if_neg e]
                  have e3 : ((i + 1 + (c + 1) : Nat) : Int) = (k : Int) + 1 := by have := HKC.out; omega
                  have e4 : i + 1 + (c + 1) ≤ n := by have := HKC.out; omega
                  clear HQ
                  go_wp2
                  go_roundw
                  case rel => exact ⟨c + 1, e4, by rw [e3], HN2⟩
                  case measure => simp [intOf]; omega
            · obtain rfl : n = k := by omega
              have H4 : Hid (Below w8.heap.size w8 wr ∧ FTab (Value.int .i64) wr w8.heap.size n (latD l n (d' + 1))) := by
                refine ⟨HQ.out.1, HQ.out.2.congr (fun j hj => ?_)⟩
                have e1 : c = l.length - 1 - i := by have := HN.out; omega
                unfold latD
                by_cases e : j = i
                · rw [if_pos e, if_pos (by omega), e1, refK_lat HG.out hil, e]
                · rw [if_neg e]
                  by_cases e2 : n - d' ≤ j
                  · rw [if_pos e2, if_pos (by omega)]
                  · rw [if_neg e2, if_neg (by omega)]
              have g1 : IntKind.i64.wrap ((i : Int) - 1) = (i : Int) - 1 := IntWalk.i64_in _ (by omega)
              clear HQ hk
              go_wp2
              go_roundw
              case rel => exact ⟨d' + 1, (i : Int) - 1, by omega, by omega, rfl, H4⟩
              case measure => simp [intOf]
        · obtain rfl : n = d' := by omega
          have hxn : ¬ 0 ≤ x := by omega
          have g0 : IntKind.i64.wrap ((n : Int) - 1) = (n : Int) - 1 := IntWalk.i64_in _ (by omega)
          obtain ⟨w9, hw9⟩ : ∃ w9 : World, w9 = wr := ⟨_, rfl⟩
          subst hw9
          have FL : Hid (Flat w9 1 encInt (some ⟨w8.heap.size, 0, none⟩) (lst n (lat l))) := (HW.out.2.congr (t' := lat l) (fun j hj => by unfold latD; rw [if_pos (by omega)])).lst
          have HB9 : Hid (Below w5.heap.size w5 w9) := bthen HB8.out HW.out.1
          have HB9' : Hid (Below w.heap.size w w9) := bthen HB5'.out HB9.out
          have FB : Hid (Flat w9 1 encInt ob (lst n (beg l))) := HFB.out.below HW.out.1
          clear HW hx HFB HB8
          go_wp2
          go_loopw [15, 16] (fun s15 s16 wr => ∃ (d' : Nat) (x : Int), d' ≤ n ∧ x = (n : Int) - 1 - d' ∧ s16 = .int .i64 x ∧ s15 = .int .i64 (lastTo l (beg l) (endV l) n d') ∧ Hid (Below w9.heap.size w9 wr)) (fun _ s16 _ => (intOf s16 + 1).toNat)
          case atStart => exact ⟨0, (n : Int) - 1, by omega, by omega, rfl, rfl, Lib.hid (Below.refl _ _)⟩
          case round =>
            clear g0
            obtain ⟨d', x', hd', hx', rfl, rfl, HW⟩ := hrel
            obtain ⟨A, hA⟩ : ∃ A, A = lastTo l (beg l) (endV l) n d' := ⟨_, rfl⟩
            rw [← hA]
            by_cases hlt : d' < n
            · obtain ⟨i, hi⟩ : ∃ i : Nat, i + d' + 1 = n := ⟨n - 1 - d', by omega⟩
              obtain rfl : x' = (i : Int) := by omega
              have hin : i < n := by omega
              have hil : i < l.length := by rw [← HN.out]; exact hin
              obtain ⟨b, off, rfl⟩ := HX.out.some (by omega)
              have kl := (HX.out.below (bthen HB9'.out HW.out)).len hil
              obtain ⟨bv, offv, rfl, kv⟩ := (FB.out.below HW.out).int (i := i) (by rw [lst_length]; exact hin)
              rw [show (lst n (beg l))[i]'(by rw [lst_length]; exact hin) = beg l i by simp [lst]] at kv
              obtain ⟨P, hP⟩ : ∃ P, P = beg l i := ⟨_, rfl⟩
              obtain ⟨L, hL⟩ : ∃ L, L = lenN l i := ⟨_, rfl⟩
              have b1 := HG.out.len i hil
              have b3 := beg_bd HG.out i
              rw [← hL] at kl b1
              rw [← hP] at kv b3
              have g1 : IntKind.i64.wrap (P + L) = P + L := IntWalk.i64_in _ (by omega)
              have g2 : IntKind.i64.wrap ((i : Int) - 1) = (i : Int) - 1 := IntWalk.i64_in _ (by omega)
              have HS : Hid (lastTo l (beg l) (endV l) n (d' + 1) = if P + L = E then (i : Int) else A) := by
                show _ = _
                simp only [lastTo]
                rw [show n - 1 - d' = i by omega, ← hP, ← hL, ← hA, ← HE.out]
              have i1 : (i : Int) < (n : Int) := by omega
              clear hP hL hA hx'
              by_cases he : P + L = E
              · have HS2 : Hid (lastTo l (beg l) (endV l) n (d' + 1) = i) := by show _ = _; rw [HS.out, if_pos he]
                have t1 : (P + L == E) = true := by simpa using he
                clear he
                go_wp2
                go_quiet (fail)
                go_wp2
                go_roundw
                case rel => exact ⟨d' + 1, (i : Int) - 1, by omega, by omega, rfl, by rw [HS2.out], Lib.hid (bdrewN HW.out _)⟩
                case measure => simp [intOf]
              · have HS2 : Hid (lastTo l (beg l) (endV l) n (d' + 1) = A) := by show _ = _; rw [HS.out, if_neg he]
                have t1 : (P + L == E) = false := by simpa using he
                clear he
                go_wp2
                go_quiet (fail)
                go_wp2
                go_roundw
                case rel => exact ⟨d' + 1, (i : Int) - 1, by omega, by omega, rfl, by rw [HS2.out], Lib.hid (bdrewN HW.out _)⟩
                case measure => simp [intOf]
            · obtain rfl : n = d' := by omega
              have hxn : ¬ 0 ≤ x' := by omega
              have HA : Hid (A = last l) := by show _ = _; rw [hA, lastTo_eq]; unfold last; rw [HN.out]
              have a1 := firstTo_bd (l := l) (B := beg l) (E := endV l) (i := l.length)
              have a2 : -1 ≤ A ∧ A < n := by have h := HA.out; have h2 := HN.out; unfold last at h; omega
              have HBr := HW
              clear hA hx' HW a1
              have H5 : Hid ((∀ k, k < 0 → 0 ≤ atD l (beg l) (last l) k) ∧ Below w9.heap.size w9 wr ∧ Own wr w9.heap.size 3 1 encInt (.slice none 0 0) (chD l (beg l) (last l) 0).reverse) := ⟨fun k hk => by omega, HBr.out, Own.nil _ _ _ _ _⟩
              go_wp2
              go_loopw [14, 15] (fun s14 s15 wr => ∃ (d2 : Nat) (x2 : Int) (v : Value), x2 = atD l (beg l) (last l) d2 ∧ -1 ≤ x2 ∧ x2 + d2 < n ∧ s15 = .int .i64 x2 ∧ s14 = v ∧ Hid ((∀ k, k < d2 → 0 ≤ atD l (beg l) (last l) k) ∧ Below w9.heap.size w9 wr ∧ Own wr w9.heap.size 3 1 encInt v (chD l (beg l) (last l) d2).reverse)) (fun _ s15 _ => (intOf s15 + 1).toNat)
              case atStart => exact ⟨0, A, _, HA.out, a2.1, by have := a2.2; omega, rfl, rfl, H5⟩
              case round =>
                clear H5 a2 HA HBr
                obtain ⟨d2, x2, v, hx2, hx3, hx4, rfl, rfl, HW⟩ := hrel
                have HX0 := Lib.hid hx2
                clear hx2
                by_cases h0 : 0 ≤ x2
                · obtain ⟨a, rfl⟩ : ∃ a : Nat, x2 = (a : Int) := ⟨x2.toNat, by omega⟩
                  have han : a < n := by omega
                  have hal : a < l.length := by rw [← HN.out]; exact han
                  obtain ⟨b, off, rfl⟩ := HX.out.some (by omega)
                  obtain ⟨oa', cap', ka1, fa1⟩ := HX.out.aft hal
                  obtain ⟨m, hmm⟩ : ∃ m, m = aftL l a := ⟨_, rfl⟩
                  have hm40 : m ≤ 40 := by rw [hmm]; exact HG.out.m40 a hal
                  rw [← hmm] at ka1
                  have HF := Lib.hid fa1
                  have HM := Lib.hid hmm
                  have hlit : Own (wr.alloc (.cells #[.int .i64 (a : Int)] 3)) w9.heap.size 3 1 encInt (.slice (some ⟨wr.heap.size, 0, none⟩) 1 1) [(a : Int)] := Own.lit wr w9.heap.size 1 encInt [(a : Int)] 3 (fun _ => rfl) (by unfold maxLen; simp) HW.out.2.1.size
                  have hrow := (HW.out.2.2.alloc (.cells #[.int .i64 (a : Int)] 3)).isSlice (fun _ => rfl)
                  have HLEN : Hid ((chD l (beg l) (last l) d2).reverse.length ≤ 40) := by show _ ≤ _; rw [List.length_reverse, chD_len]; omega
                  have HBA := Lib.hid (balloc HW.out.2.1 (.cells #[.int .i64 (a : Int)] 3))
                  have i1 : (a : Int) < (n : Int) := by omega
                  have KA1 := Lib.hid ka1
                  have E1 : Hid ((chD l (beg l) (last l) (d2 + 1)).reverse = (a : Int) :: (chD l (beg l) (last l) d2).reverse) := by show _ = _; rw [chD_succ, ← HX0.out, List.reverse_append]; rfl
                  have hne1 : (chD l (beg l) (last l) (d2 + 1)).reverse.length = d2 + 1 := by rw [List.length_reverse, chD_len]
                  have HNE := Lib.hid hne1
                  clear hmm fa1 ka1 hne1
                  go_wp2_with (at_builtin; go_must (refine wpList_appRow rfl (.tmp 165) (.tmp 166) 25 rfl elemInt Try.underlying25 w9.heap.size _ _ encInt rfl hlit _ _ rfl hrow (fun _ => rfl) ?c1 ?c2 ?c3 ?c4 ?_))
                  case c1 => intro y u hu; simp only [encInt, List.mem_singleton] at hu; subst hu; rfl
                  case c2 => have := HLEN.out; simp only [List.length_cons, List.length_nil]; omega
                  case c3 => have := HLEN.out; simp only [List.length_cons, List.length_nil]; unfold maxLen; omega
                  case c4 => exact HBA.out.size
                  intro v' w3 hown3 hg3
                  have HB3 : Hid (Below w9.heap.size w9 w3) := hlit.grown HBA.out (Nat.le_refl _) hg3
                  rw [← E1.out] at hown3
                  have H7 : Hid (Below w9.heap.size w9 w3 ∧ Own w3 w9.heap.size 3 1 encInt v' (chD l (beg l) (last l) (d2 + 1)).reverse) := ⟨HB3.out, hown3⟩
                  have ka := keepCell (bthen HB9'.out HB3.out) KA1.out
                  clear hlit hrow hown3 hg3
                  go_wp2
                  go_loopw [17, 174] (fun s17 s174 wx => ∃ q : Nat, q ≤ m ∧ s174 = .int .i64 q ∧ s17 = .int .i64 (nextTo l (beg l) a q) ∧ Hid (Below w9.heap.size w9 wx ∧ Own wx w9.heap.size 3 1 encInt v' (chD l (beg l) (last l) (d2 + 1)).reverse)) (fun _ s174 _ => m - (intOf s174).toNat)
                  case atStart => exact ⟨0, by omega, rfl, rfl, H7⟩
                  case round =>
                    clear H7 ka
                    obtain ⟨q, hq, rfl, rfl, HQ⟩ := hrel
                    obtain ⟨N0, hN0⟩ : ∃ N0, N0 = nextTo l (beg l) a q := ⟨_, rfl⟩
                    rw [← hN0]
                    by_cases hltq : q < m
                    · have hq2 : q < aftL l a := by rw [← HM.out]; exact hltq
                      have HBx : Hid (Below w.heap.size w wr) := bthen HB9'.out HQ.out.1
                      obtain ⟨ba, offa, rfl, kk⟩ := aftCell HG.out hal hq2 (HF.out.below HBx.out)
                      have hK1 := (HG.out.aft a q hal hq2).2
                      obtain ⟨K, hK⟩ : ∃ K, K = aftN l a q := ⟨_, rfl⟩
                      rw [← hK] at kk hK1
                      have kn : K < n := by omega
                      obtain ⟨BK, hBK⟩ : ∃ BK, BK = beg l K := ⟨_, rfl⟩
                      obtain ⟨BA, hBA⟩ : ∃ BA, BA = beg l a := ⟨_, rfl⟩
                      obtain ⟨LK, hLK⟩ : ∃ LK, LK = lenN l K := ⟨_, rfl⟩
                      obtain ⟨bv, offv, rfl, kK⟩ := (FB.out.below HQ.out.1).int (i := K) (by rw [lst_length]; exact kn)
                      obtain ⟨bv2, offv2, e2, kA⟩ := (FB.out.below HQ.out.1).int (i := a) (by rw [lst_length]; exact han)
                      cases e2
                      rw [show (lst n (beg l))[K]'(by rw [lst_length]; exact kn) = beg l K by simp [lst], ← hBK] at kK
                      rw [show (lst n (beg l))[a]'(by rw [lst_length]; exact han) = beg l a by simp [lst], ← hBA] at kA
                      have kt := (HX.out.below HBx.out).len (i := K) (by omega)
                      rw [← hLK] at kt
                      have b1 := beg_bd HG.out K
                      rw [← hBK] at b1
                      have b3 : 0 ≤ LK ∧ LK ≤ 1048576 := by rw [hLK]; exact HG.out.len K (by omega)
                      have g1 : IntKind.i64.wrap (BK + LK) = BK + LK := IntWalk.i64_in _ (by omega)
                      have HS : Hid (nextTo l (beg l) a (q + 1) = if BK + LK = BA ∧ (N0 < 0 ∨ (K : Int) < N0) then (K : Int) else N0) := by
                        show _ = _
                        simp only [nextTo]
                        rw [← hK, ← hBK, ← hLK, ← hBA, ← hN0]
                      have i2 : (K : Int) < (n : Int) := by omega
                      clear hK hBK hBA hLK hN0
                      by_cases he : BK + LK = BA
                      · have t1 : (BK + LK == BA) = true := by simpa using he
                        by_cases hn0 : N0 < 0
                        · have HS2 : Hid (nextTo l (beg l) a (q + 1) = K) := by show _ = _; rw [HS.out, if_pos ⟨he, .inl hn0⟩]
                          have t2 : decide (N0 < 0) = true := by simpa using hn0
                          clear he
                          go_wp2
                          go_quiet (fail)
                          go_wp2
                          go_roundw
                          case rel => exact ⟨q + 1, by omega, by go_num, by rw [HS2.out], Lib.hid ⟨bdrewN HQ.out.1 _, HQ.out.2.drewN _⟩⟩
                          case measure => simp [intOf]; omega
                        · have t2 : decide (N0 < 0) = false := by simpa using hn0
                          by_cases hk0 : (K : Int) < N0
                          · have HS2 : Hid (nextTo l (beg l) a (q + 1) = K) := by show _ = _; rw [HS.out, if_pos ⟨he, .inr hk0⟩]
                            have t3 : decide ((K : Int) < N0) = true := by simpa using hk0
                            clear he
                            go_wp2
                            go_quiet (fail)
                            go_wp2
                            go_roundw
                            case rel => exact ⟨q + 1, by omega, by go_num, by rw [HS2.out], Lib.hid ⟨bdrewN HQ.out.1 _, HQ.out.2.drewN _⟩⟩
                            case measure => simp [intOf]; omega
                          · have HS2 : Hid (nextTo l (beg l) a (q + 1) = N0) := by show _ = _; rw [HS.out, if_neg (fun h => by rcases h.2 with h | h <;> omega)]
                            have t3 : decide ((K : Int) < N0) = false := by simpa using hk0
                            clear he
                            go_wp2
                            go_quiet (fail)
                            go_wp2
                            go_roundw
                            case rel => exact ⟨q + 1, by omega, by go_num, by rw [HS2.out], Lib.hid ⟨bdrewN HQ.out.1 _, HQ.out.2.drewN _⟩⟩
                            case measure => simp [intOf]; omega
                      · have t1 : (BK + LK == BA) = false := by simpa using he
                        have HS2 : Hid (nextTo l (beg l) a (q + 1) = N0) := by show _ = _; rw [HS.out, if_neg (fun h => he h.1)]
                        clear he
                        go_wp2
                        go_quiet (fail)
                        go_wp2
                        go_roundw
                        case rel => exact ⟨q + 1, by omega, by go_num, by rw [HS2.out], Lib.hid ⟨bdrewN HQ.out.1 _, HQ.out.2.drewN _⟩⟩
                        case measure => simp [intOf]; omega
                    · obtain rfl : m = q := by omega
                      have hbd := nextTo_bd HG.out (B := beg l) hal (q := m) (by rw [HM.out]; exact Nat.le_refl _)
                      rw [← hN0] at hbd
                      have EX : Hid (N0 = atD l (beg l) (last l) (d2 + 1)) := by
                        show _ = _
                        simp only [atD]
                        rw [← HX0.out, Int.toNat_natCast, ← HM.out, hN0]
                      have HALL : Hid (∀ k, k < d2 + 1 → 0 ≤ atD l (beg l) (last l) k) := by
                        intro k hk
                        by_cases e : k = d2
                        · rw [e, ← HX0.out]; omega
                        · exact HW.out.1 k (by omega)
                      clear hN0
                      go_wp2
                      go_roundw
                      case rel => exact ⟨d2 + 1, N0, v', EX.out, hbd.1, by have := hbd.2; omega, rfl, rfl, Lib.hid ⟨HALL.out, HQ.out⟩⟩
                      case measure => simp [intOf]; omega
                · have HC : Hid (ChainOf l (beg l) (last l) d2) := ⟨by rw [← HX0.out]; omega, HW.out.1⟩
                  obtain rfl : d = d2 := HCH.out.unique HC.out
                  obtain ⟨oc2, cc2, rfl, hfc⟩ := HW.out.2.2.flatN (k := d) (by rw [List.length_reverse, chD_len])
                  have hd40 : d ≤ 100 := by omega
                  have HS1 := Lib.hid (fun w' (hb : Below w9.heap.size w9 w') => same_N (some ⟨gb, 0, none⟩) ob (lst n (beg l)) n n cb w' (lst_length _ _) (by omega) ((F1.out.below HB9.out).below hb) (FB.out.below hb))
                  have HS2 := Lib.hid (fun w' (hb : Below w9.heap.size w9 w') => same_N (some ⟨gl, 0, none⟩) (some ⟨w8.heap.size, 0, none⟩) (lst n (lat l)) n n n w' (lst_length _ _) (by omega) ((F2.out.below HB9.out).below hb) (FL.out.below hb))
                  have HS3 := Lib.hid (fun w' (hb : Below w9.heap.size w9 w') (hb2 : Below wr.heap.size wr w') => same_N oc oc2 (chD l (beg l) (last l) d).reverse d cc cc2 w' (by rw [List.length_reverse, chD_len]) hd40 ((F3.out.below HB9.out).below hb) (hfc.below hb2))
                  have HBR := Lib.hid HW.out.2.1
                  have k0 := keepCell (bthen HB9.out HBR.out) R0.out
                  have k1 := keepCell (bthen HB9.out HBR.out) R1.out
                  have k2 := keepCell (bthen HB9.out HBR.out) R2.out
                  have k3 := keepCell (bthen HB9.out HBR.out) R3.out
                  rw [← HE.out] at k2
                  have t1 : (E == E) = true := by simp
                  clear hfc
                  go_wp2_with (first | (go_at_call 28; (with_reducible refine (HS1.out _ HBR.out).mono ?_); rintro e wa ⟨rfl, hba⟩; have ka1 := keepCell hba k1; have ka3 := keepCell hba k3; have HBA := Lib.hid hba; clear hba) | (go_at_call 28; (with_reducible refine (HS2.out _ (bthen HBR.out HBA.out)).mono ?_); rintro e wb ⟨rfl, hbb⟩; have kb3 := keepCell hbb ka3; have HBB := Lib.hid hbb; clear hbb) | (go_at_call 28; (with_reducible refine (HS3.out _ (bthen (bthen HBR.out HBA.out) HBB.out) (bthen HBA.out HBB.out)).mono ?_); rintro e wc ⟨rfl, hbc⟩; have HBC := Lib.hid hbc; clear hbc))
                  go_ret
                  exact ⟨rfl, bthen (bthen (bthen (bthen HB9'.out HBR.out) HBA.out) HBB.out) HBC.out⟩
set_option maxRecDepth 100000 in
set_option maxHeartbeats 4000000 in
theorem times_law_bad (oa : Option Addr) (l : List Task) (cap : Nat) (w : World) (hm : l.length ≤ maxLen) (hx : TasksAt w oa l) (hc : tasksErr l ≠ 0) :
    Calls Try.prog 8 #[.slice oa l.length cap] w fun e w' => e = .returned (.bool true) ∧ Below w.heap.size w w' := by
  have HT := Lib.hid (fun w1 (hb : Below w.heap.size w w1) => times_bad oa l cap w1 hm (hx.below hb) hc)
  have HE := Lib.hid (fun w1 (hb : Below w.heap.size w w1) => tasksError_any oa l cap w1 hm (hx.below hb))
  have HK := Lib.hid (fun w1 (hb : Below w.heap.size w w1) => checkTasks_any oa l cap w1 hm (hx.below hb))
  obtain ⟨x, hx2⟩ : ∃ x, x = tasksErr l := ⟨_, rfl⟩
  rw [← hx2] at HT HE HK
  have t1 : (x != 0) = true := by rw [hx2]; exact bne_iff_ne.2 hc
  have t2 : (x == x) = true := by simp
  have t3 : (x != x) = false := by simp
  clear hx hc hx2 hm
  unfold noTimes at HT
  generalize l.length = n at *
  go_enter Try.func8, Try.ntmps8
  go_wp2_with (first | (go_at_call 12; (with_reducible refine (plansL_any _).mono ?_); rintro e w1 ⟨rfl, hb1⟩; have HB1 := Lib.hid hb1; clear hb1) | (go_at_call 24; (with_reducible refine (HT.out _ HB1.out).mono ?_); rintro e w2 ⟨rfl, hb2⟩; have HB2 := Lib.hid (bthen HB1.out hb2); have HB3 := Lib.hid (balloc HB2.out (.cells #[.slice none 0 0, .slice none 0 0, .int .i64 0, .slice none 0 0] 43)); clear hb2) | (go_at_call 25; (with_reducible refine (HE.out _ HB3.out).mono ?_); rintro e w4 ⟨rfl, hb4⟩; have HB4 := Lib.hid hb4; have HB4' := Lib.hid (bthen HB3.out hb4); clear hb4) | (go_at_call 26; (with_reducible refine (HK.out _ HB4'.out).mono ?_); rintro e w5 ⟨rfl, hb5⟩; have HB5 := Lib.hid (bthen HB4.out hb5); have HB5' := Lib.hid (bthen HB4'.out hb5); obtain ⟨r0, r1, r2, r3, _⟩ := resCells HB5.out; clear hb5))
  go_ret
  exact ⟨rfl, HB5'.out⟩
theorem times_law (v : Value) {w : World} (hv : TasksArg w v) :
    Calls Try.prog 8 #[v] w fun e w' => e = .returned (.bool true) ∧ Below w.heap.size w w' := by
  obtain ⟨l, oa, cap, rfl, hm, hx⟩ := hv
  by_cases hc : tasksErr l = 0
  · exact times_law_ok oa l cap _ w rfl hx hc
  · exact times_law_bad oa l cap w hm hx hc
end Go.Proofs.Ytjggcnpnjnmamaa
