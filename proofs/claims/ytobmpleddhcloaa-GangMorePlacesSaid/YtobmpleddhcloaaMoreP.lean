/-
  The walk of GangMorePlaces. Own text.
-/
import Derived.Test.YtobmpleddhcloaaFormsC
import Derived.Test.YtobmpleddhcloaaTight
namespace Go.Proofs.Ytobmpleddhcloaa
open Go.RowKit
set_option linter.unusedVariables false
theorem half_bd {d : Int} (h : 1 ≤ d ∧ d ≤ 1048576) : 1 ≤ (d + 1) / 2 ∧ (d + 1) / 2 ≤ d := by omega
theorem set_demands {ds : List Int} (h : Demands ds) (q : Nat) {y : Int} (hy : 1 ≤ y ∧ y ≤ 1048576) : Demands (ds.set q y) := by
  intro d hd
  rcases List.mem_or_eq_of_mem_set hd with h1 | rfl
  · exact h d h1
  · exact hy
set_option maxHeartbeats 2000000 in
theorem morePlaces_any (oa : Option Addr) (xs : List Int) (cap : Nat) (s m wh : Int) (w : World) (hm : xs.length ≤ maxLen) (hx : Flat w 1 encInt oa xs) :
    Calls Try.prog 8 #[.slice oa xs.length cap, .int .i64 s, .int .i64 m, .int .i64 wh] w fun e w' => e = .returned (.bool true) ∧ Below w.heap.size w w' := by
  obtain ⟨hd, l1, l2⟩ := jobsV_ok xs
  generalize hds : jobsV xs = ds at *
  have HDS := Lib.hid hds; clear hds
  have hsl := wi_bd s ds.length 40 (by omega)
  generalize hss : wi s ds.length 40 = sl at *
  have HSL := Lib.hid hss; clear hss
  have hmo := wi_bd m 0 20 (by omega)
  generalize hmm : wi m 0 20 = mo at *
  have HMO := Lib.hid hmm; clear hmm
  have hwh := wi_bd wh 0 ((ds.length : Int) - 1) (by omega)
  obtain ⟨q, hq⟩ : ∃ q : Nat, wi wh 0 ((ds.length : Int) - 1) = (q : Int) := ⟨(wi wh 0 ((ds.length : Int) - 1)).toNat, by omega⟩
  rw [hq] at hwh
  have HQ := Lib.hid hq; clear hq
  have hqn : q < ds.length := by omega
  have hdq := hd _ (List.getElem_mem hqn)
  have hy := half_bd hdq
  have hdl : Demands (ds.set q ((ds[q] + 1) / 2)) := set_demands hd q (by omega)
  have hll : (ds.set q ((ds[q] + 1) / 2)).length = ds.length := List.length_set
  have HC1 := Lib.hid (gchk_ok l1 (by omega) hd (by omega : 1 ≤ sl) (by omega))
  have HC2 := Lib.hid (gchk_ok l1 (by omega) hd (by omega : 1 ≤ sl + mo) (by omega))
  have HC3 := Lib.hid (gchk_ok (by omega) (by omega) hdl (by omega : 1 ≤ sl) (by omega))
  have hab : Hid (leastV ds (sl + mo) ≤ leastV ds sl) := leastV_more hd hsl.1 (by omega)
  have hac : Hid (leastV (ds.set q ((ds[q] + 1) / 2)) sl ≤ leastV ds sl) := leastV_le hd hdl hsl.1 hll (fun r hr => needV_set hqn hy.2 hr)
  obtain ⟨ls, hls⟩ : ∃ ls, ls = ds.set q ((ds[q] + 1) / 2) := ⟨_, rfl⟩
  rw [← hls] at hac HC3 hll hdl
  obtain ⟨d, hdd⟩ : ∃ d, d = ds[q] := ⟨_, rfl⟩
  rw [← hdd] at hdq hy hls
  have HLS := Lib.hid hls; clear hls
  obtain ⟨a, ha⟩ : ∃ a, a = leastV ds sl := ⟨_, rfl⟩
  obtain ⟨b, hb⟩ : ∃ b, b = leastV ds (sl + mo) := ⟨_, rfl⟩
  obtain ⟨c, hc⟩ : ∃ c, c = leastV ls sl := ⟨_, rfl⟩
  rw [← ha, ← hb] at hab
  rw [← ha, ← hc] at hac
  have hab' := hab.out
  have hac' := hac.out
  have HD := Lib.hid hd; clear hd
  have HDL := Lib.hid hdl; clear hdl
  go_enter Try.func8, Try.ntmps8
  go_wp2_with fail
  refine (gangsK_any _).mono ?_
  rintro e w1 ⟨rfl, hb⟩
  have hx1 := hx.below hb
  clear hx
  go_wp2_with fail
  refine (jobs_any _ _ _ _ hm hx1).mono ?_
  rw [HDS.out]
  rintro e w2 ⟨oad, capd, rfl, _, hmd, hfd, hb2⟩
  have hb3 := Lib.hid (bthen hb hb2)
  clear hx1 hb hb2
  go_wp2_with fail
  refine (within_any _ _ _ _ (by omega) (by omega) (by omega)).mono ?_
  rw [HSL.out]
  rintro e w' ⟨rfl, rfl⟩
  go_wp2_with fail
  refine (within_any _ _ _ _ (by omega) (by omega) (by omega)).mono ?_
  rw [HMO.out]
  rintro e w' ⟨rfl, rfl⟩
  obtain ⟨ad, had⟩ : ∃ ad, oad = some ad := by
    obtain ⟨b, o, h, _⟩ := hfd.int (i := 0) (by omega)
    exact ⟨_, h⟩
  subst had
  go_wp2_with fail
  refine (cloneInts ad ds capd _ (by omega) (by omega) hfd).mono ?_
  rintro e w3 ⟨g, cg, rfl, hA, hb4⟩
  have hW : Below w2.heap.size w2 (w3.setCell ⟨g, q, none⟩ (.int .i64 ((d + 1) / 2))) := hA.setBelow hb4 (Nat.le_refl _) q _
  have hfd3 := hfd.below hW
  have hfl := (hA.set q ((d + 1) / 2)).flat
  rw [← HLS.out] at hfl
  have hb5 := Lib.hid (bthen hb3.out hW)
  clear hfd hb3 hb4 hW
  go_wp2_with fail
  refine (within_any _ _ _ _ (by omega) (by omega) (by omega)).mono ?_
  rw [HQ.out]
  rintro e w' ⟨rfl, rfl⟩
  have hcq := hA.cell hqn
  rw [← hdd] at hcq
  have hcf := hA.frozen q
  go_wp2_with fail
  rw [← hdd]
  generalize w3.setCell ⟨g, q, none⟩ (.int .i64 ((d + 1) / 2)) = w4 at *
  clear hcq hcf hA hdd
  refine (allot_ok _ _ _ _ _ hmd hfd3 HC1.out (by omega)).mono ?_
  rw [← ha]
  generalize allotV ds a = y1
  rintro e w5 ⟨o1, c1, rfl, _, _, _, hb6⟩
  have hfd5 := hfd3.below hb6
  have hfl5 := hfl.below hb6
  have hb7 := Lib.hid (bthen hb5.out hb6)
  clear hfd3 hfl hb5 hb6
  go_wp2_with fail
  refine (allot_ok _ _ _ _ _ hmd hfd5 HC2.out (by omega)).mono ?_
  rw [← hb]
  generalize allotV ds b = y2
  rintro e w6 ⟨o2, c2, rfl, _, _, _, hb6⟩
  have hfd6 := hfd5.below hb6
  have hfl6 := hfl5.below hb6
  have hb8 := Lib.hid (bthen hb7.out hb6)
  clear hfd5 hfl5 hb7 hb6
  have hal := allot_ok _ ls cg sl w6 (by rw [hll]; exact hmd) hfl6 HC3.out (by omega)
  rw [hll, ← hc] at hal
  generalize allotV ls c = y3 at hal
  go_wp2_with fail
  refine hal.mono ?_
  rintro e w7 ⟨o3, c3, rfl, _, _, _, hb6⟩
  have hfd7 := hfd6.below hb6
  have hb9 := Lib.hid (bthen hb8.out hb6)
  clear hfd6 hfl6 hb8 hb6 hal
  go_wp2_with fail
  refine (forms_cost _ _ _ _ _ _ hfd7 HC1.out (by omega) (by omega)).mono ?_
  rintro e w8 ⟨x, o4, m4, c4, rfl, hx8, hb6⟩
  have HX := Lib.hid hx8
  have hfd8 := hfd7.below hb6
  have hb10 := Lib.hid (bthen hb9.out hb6)
  clear hfd7 hb9 hb6 hx8
  go_wp2_with fail
  refine (forms_cost _ _ _ _ _ _ hfd8 HC2.out (by omega) (by omega)).mono ?_
  rintro e w9 ⟨y, o5, m5, c5, rfl, hy9, hb6⟩
  have hyx : y ≤ x := HX.out.more (vals_demands HD.out) (by omega) hy9
  have hb11 := Lib.hid (bthen hb10.out hb6)
  clear hfd8 hb10 hb6 hy9 hab hac
  go_wp2_with fail
  go_ret
  exact ⟨rfl, hb11.out⟩
theorem morePlaces_law (v : Value) {w : World} (hv : IntsArg w v) (s : Int) (_hs : i64ok s) (m : Int) (_hm : i64ok m) (wh : Int) (_hw : i64ok wh) :
    Calls Try.prog 8 #[v, .int .i64 s, .int .i64 m, .int .i64 wh] w fun e w' => e = .returned (.bool true) ∧ Below w.heap.size w w' := by
  obtain ⟨xs, oa, cap, rfl, hm, hx, _⟩ := hv
  exact morePlaces_any oa xs cap s m wh w hm hx
end Go.Proofs.Ytobmpleddhcloaa
