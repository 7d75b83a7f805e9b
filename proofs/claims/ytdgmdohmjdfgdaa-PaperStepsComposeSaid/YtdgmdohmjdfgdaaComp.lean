/-
  The walk of PaperStepsCompose. Own text.
-/
import Derived.Test.YtdgmdohmjdfgdaaSuff
import Derived.Test.YtdgmdohmjdfgdaaConcatPStep
namespace Go.Proofs.Ytdgmdohmjdfgdaa
open Go.RowKit
set_option linter.unusedVariables false
theorem yield_append (xs ys : List (Int × Int)) (n : Int) : yieldV (xs ++ ys) n = yieldV ys (yieldV xs n) := by
  unfold yieldV
  rw [List.foldl_append]
theorem waste_sum {xs : List (Int × Int)} (hx : GoodSteps xs) {n : Int} (h : 0 ≤ n) : (wasteV xs n).sum = n - yieldV xs n ∧ ∀ x ∈ wasteV xs n, 0 ≤ x := by
  induction xs generalizing n with
  | nil => exact ⟨by simp [wasteV, yieldV], fun x hx => by cases hx⟩
  | cons s r ih =>
    have hs := hx s (by simp)
    have ha := after_bd s.1 s.2 n hs.1 hs.2.2.1 hs.2.2.2 h
    obtain ⟨h1, h2⟩ := ih (fun y hy => hx y (by simp [hy])) ha.1
    refine ⟨?_, ?_⟩
    · simp only [wasteV, List.sum_cons, h1]
      show _ = n - yieldV r (afterV s.1 s.2 n)
      omega
    · intro x hx'
      simp only [wasteV, List.mem_cons] at hx'
      rcases hx' with rfl | hx'
      · omega
      · exact h2 x hx'
theorem sum_take_bd {xs : List Int} (h : ∀ x ∈ xs, 0 ≤ x) (k : Nat) : 0 ≤ (xs.take k).sum ∧ (xs.take k).sum ≤ xs.sum := by
  have e : xs.sum = (xs.take k).sum + (xs.drop k).sum := by
    conv => lhs; rw [← List.take_append_drop k xs]
    rw [List.sum_append]
  have pos : ∀ l : List Int, (∀ x ∈ l, 0 ≤ x) → 0 ≤ l.sum := by
    intro l hl
    induction l with
    | nil => simp
    | cons a r ih =>
      rw [List.sum_cons]
      have := hl a (by simp)
      have := ih (fun x hx => hl x (by simp [hx]))
      omega
  have h1 := pos (xs.take k) (fun x hx => h x (List.mem_of_mem_take hx))
  have h2 := pos (xs.drop k) (fun x hx => h x (List.mem_of_mem_drop hx))
  omega
theorem sum_take_succ (xs : List Int) (k : Nat) (h : k < xs.length) : (xs.take (k + 1)).sum = (xs.take k).sum + xs[k] := by
  rw [List.take_succ_eq_append_getElem h, List.sum_append]
  simp
set_option maxHeartbeats 800000 in
theorem compose_any (oa ob : Option Addr) (xs xs2 : List (Int × Int)) (ca cb : Nat) (g : Int) (w : World) (hm : xs.length ≤ maxLen) (hm2 : xs2.length ≤ maxLen) (hx : Flat w 2 encInt2 oa xs) (hx2 : Flat w 2 encInt2 ob xs2)
    (hb64 : ∀ x ∈ xs, i64ok x.1 ∧ i64ok x.2) (hb64' : ∀ x ∈ xs2, i64ok x.1 ∧ i64ok x.2) :
    Calls Try.prog 8 #[.slice oa xs.length ca, .slice ob xs2.length cb, .int .i64 g] w fun e w' => e = .returned (.bool true) ∧ Below w.heap.size w w' := by
  have hg := wi_bd g 0 1073741824 (by omega)
  have hl1 := stepsV_len xs
  have hl2 := stepsV_len xs2
  have HG1 := Lib.hid (stepsV_good xs)
  have HG2 := Lib.hid (stepsV_good xs2)
  have HC1 := Lib.hid (chk_good (stepsV_good xs) (by omega))
  have HC2 := Lib.hid (chk_good (stepsV_good xs2) (by omega))
  generalize hys : stepsV xs = ys at *
  generalize hzs : stepsV xs2 = zs at *
  have HY := Lib.hid hys; clear hys
  have HZ := Lib.hid hzs; clear hzs
  have HG3 : Hid (GoodSteps (ys ++ zs)) := by
    intro x hx
    rcases List.mem_append.1 hx with h | h
    · exact HG1.out x h
    · exact HG2.out x h
  have HL3 : Hid ((ys ++ zs).length = ys.length + zs.length) := List.length_append
  have HC3 := Lib.hid (chk_good HG3.out (by rw [HL3.out]; omega))
  have hy1 := yield_bd HG1.out hg.1
  have hy2 := yield_bd HG2.out hy1.1
  have HYA := Lib.hid (yield_append ys zs (wi g 0 1073741824))
  have HFL : Hid ([ys, zs].flatten = ys ++ zs) := by show _ = _; simp
  generalize ys ++ zs = cs at *
  go_enter Try.func8, Try.ntmps8
  go_wp2_with fail
  refine (papersK_any _).mono ?_
  rintro e w1 ⟨rfl, hb1⟩
  go_wp2_with fail
  refine (steps_any _ _ _ _ hm (hx.below hb1) hb64).mono ?_
  rintro e w2 ⟨oay, capy, he, hmy, hfy, hb2, hny⟩
  rw [HY.out] at he hmy hfy
  subst he
  have hb3 := bthen hb1 hb2
  go_wp2_with fail
  refine (steps_any _ _ _ _ hm2 (hx2.below hb3) hb64').mono ?_
  rintro e w3 ⟨oaz, capz, he, hmz, hfz, hb4, hnz⟩
  rw [HZ.out] at he hmz hfz
  subst he
  have hb5 := bthen hb3 hb4
  have hfy3 := hfy.below hb4
  clear hfy hb1 hb2 hb3 hb4
  go_wp2_with fail
  refine (within_any _ _ _ _ (by omega) (by omega) (by omega)).mono ?_
  rintro e w' ⟨rfl, rfl⟩
  go_wp2_with fail
  refine (yield_ok _ _ _ _ _ hmy hfy3 HC1.out hg.1 hg.2).mono ?_
  rintro e w4 ⟨rfl, hb6⟩
  have hb7 := bthen hb5 hb6
  have hfy4 := hfy3.below hb6
  have hfz4 := hfz.below hb6
  clear hfy3 hfz hb5 hb6
  go_wp2_with fail
  refine (yield_ok _ _ _ _ _ hmz hfz4 HC2.out hy1.1 (by omega)).mono ?_
  rintro e w5 ⟨rfl, hb8⟩
  have hb9 := bthen hb7 hb8
  have hfy5 := hfy4.below hb8
  have hfz5 := hfz4.below hb8
  clear hfy4 hfz4 hb7 hb8
  have HT : Hid (total [ys, zs] * 16 ≤ 140737488355328) := by
    show total [ys, zs] * 16 ≤ 140737488355328
    unfold total
    simp
    omega
  have hR := Rows1.lit2 (w := w5) (k := 2) (enc := encInt2) ⟨oay, capy, rfl, hny, hmy, hfy5⟩ ⟨oaz, capz, rfl, hnz, hmz, hfz5⟩ 28
  go_wp2_with fail
  refine (concatPStep _ [ys, zs] _ _ (by simp) hR HT.out).mono ?_
  rw [HFL.out]
  rintro e w6 hret
  obtain ⟨oac, capc, rfl, hnc, hmc, hfc, hb10⟩ := hret.out
  clear hret
  have hbw := balloc_lt _ _ hb10
  have hb11 := bthen hb9 hbw
  have hfy6 := hfy5.below hbw
  have hfz6 := hfz5.below hbw
  clear hR hfy5 hfz5 hb9 hb10 hbw
  go_wp2_with fail
  refine (yield_ok _ _ _ _ _ hmc hfc HC3.out hg.1 hg.2).mono ?_
  rintro e w7 ⟨rfl, hb12⟩
  rw [HYA.out]
  have hb13 := bthen hb11 hb12
  have hfy7 := hfy6.below hb12
  have hfz7 := hfz6.below hb12
  clear hfy6 hfz6 hb11 hb12 hfc hmc hnc
  have hR := Rows1.lit2 (w := w7) (k := 2) (enc := encInt2) ⟨oay, capy, rfl, hny, hmy, hfy7⟩ ⟨oaz, capz, rfl, hnz, hmz, hfz7⟩ 28
  go_wp2_with fail
  refine (concatPStep _ [ys, zs] _ _ (by simp) hR HT.out).mono ?_
  rw [HFL.out]
  rintro e w8 hret
  obtain ⟨oad, capd, rfl, hnd, hmd, hfd, hb14⟩ := hret.out
  clear hret
  have hb15 := bthen hb13 (balloc_lt _ _ hb14)
  clear hR hfy7 hfz7 hb13 hb14
  go_wp2_with fail
  refine (waste_ok _ _ _ _ _ hmd hfd HC3.out hg.1 hg.2).mono ?_
  rintro e w9 ⟨oae, cape, rfl, hme, hfe, hb16⟩
  have hb17 := bthen hb15 hb16
  clear hfd hb15 hb16 hmd hnd
  obtain ⟨hsum, hpos⟩ := waste_sum HG3.out hg.1
  rw [HYA.out] at hsum
  have hlen : (wasteV cs (wi g 0 1073741824)).length = ys.length + zs.length := by rw [wasteV_length, HL3.out]
  generalize wasteV cs (wi g 0 1073741824) = ws at *
  have HPOS := Lib.hid hpos; clear hpos
  have HSUM := Lib.hid hsum; clear hsum
  have hlb : (ws.length : Int) = (ys.length : Int) + (zs.length : Int) := by omega
  have HLEN := Lib.hid hlen
  have hl3 : ws.length ≤ 16 := by omega
  have hle : ((ws.length : Int) == (ys.length : Int) + (zs.length : Int)) = true := by simpa using hlb
  clear hlen hlb
  clear hny hnz hmy hmz hx hx2 hb64 hb64' hm hm2
  go_wp2_with fail
  go_loopw [15, 58] (fun n i wr => ∃ k : Nat, k ≤ ws.length ∧ i = .int .i64 k ∧ n = .int .i64 (ws.take k).sum ∧ Below w9.heap.size w9 wr) (fun _ i _ => ws.length - (intOf i).toNat)
  case atStart => exact ⟨0, by omega, rfl, by simp, Below.refl _ _⟩
  case round =>
    obtain ⟨k, hk, rfl, rfl, hr⟩ := hrel
    by_cases hlt : k < ws.length
    · obtain ⟨b, off, rfl, hc1⟩ := (hfe.below hr).int hlt
      have h0 := HPOS.out ws[k] (List.getElem_mem hlt)
      have h1 := sum_take_bd HPOS.out k
      have h2 := sum_take_bd HPOS.out (k + 1)
      have h3 := HSUM.out
      have h4 := sum_take_succ ws k hlt
      have hlo : 0 ≤ (ws.take k).sum + ws[k] ∧ (ws.take k).sum + ws[k] ≤ 1073741824 := by omega
      have E := Lib.hid h4
      clear h1 h2 h3 h4
      go_wp2
      go_roundw
      case rel => exact ⟨k + 1, by omega, by go_num, by rw [E.out], hr⟩
      case measure => simp [intOf]; omega
    · have E := Lib.hid (show ws.take k = ws from List.take_of_length_le (by omega))
      rw [E.out, HSUM.out]
      go_wp2
      go_ret
      exact ⟨rfl, bthen hb17 hr⟩
theorem compose_law (v : Value) {w : World} (hv : StepsArg w v) (v2 : Value) (hv2 : StepsArg w v2) (g : Int) (_hg : i64ok g) :
    Calls Try.prog 8 #[v, v2, .int .i64 g] w fun e w' => e = .returned (.bool true) ∧ Below w.heap.size w w' := by
  obtain ⟨xs, oa, cap, rfl, hm, hx, hb⟩ := hv
  obtain ⟨ys, ob, cap2, rfl, hm2, hx2, hb2⟩ := hv2
  exact compose_any oa ob xs ys cap cap2 g w hm hm2 hx hx2 hb hb2
end Go.Proofs.Ytdgmdohmjdfgdaa
