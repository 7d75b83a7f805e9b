/-
  The walk of GangAllotTight. Own text.
-/
import Derived.Test.YtobmpleddhcloaaGang2
import Derived.Test.YtobmpleddhcloaaInts
import Derived.Test.YtobmpleddhcloaaEqInts
namespace Go.Proofs.Ytobmpleddhcloaa
open Go.RowKit
set_option linter.unusedVariables false
theorem gangsK_lit : gchk [5, 3] 4 = 0 ∧ leastV [5, 3] 4 = 3 ∧ allotV [5, 3] 3 = [2, 1] :=
  ⟨by decide, leastV_eq (by intro d hd; simp at hd; omega) (by decide) ⟨by decide, by decide, .inr (by decide)⟩, by decide⟩
set_option maxHeartbeats 400000 in
theorem gangsK_any (w : World) : Calls Try.prog 20 #[] w fun e w' => e = .returned (.bool true) ∧ Below w.heap.size w w' := by
  have HL := Lib.hid gangsK_lit.2.1
  have HA := Lib.hid gangsK_lit.2.2
  go_enter Try.func20, Try.ntmps20
  go_wp2_with fail
  refine (allot_ok (some ⟨w.heap.size, 0, none⟩) [5, 3] 2 4 _ (by decide) (Flat.litN w 1 encInt [5, 3] 3 (fun _ => rfl)) gangsK_lit.1 (by decide)).mono ?_
  rw [HL.out, HA.out]
  rintro e w1 ⟨oa, cap, rfl, _, hm, hf, hb⟩
  have hb1 := balloc_lt _ _ hb
  go_wp2_with fail
  refine (equalInts_any oa (some ⟨w1.heap.size, 0, none⟩) [2, 1] [2, 1] cap 2 _ hm (by decide) (hf.below ((Below.refl _ _).alloc (Nat.le_refl _) _)) (Flat.litN w1 1 encInt [2, 1] 3 (fun _ => rfl))).mono ?_
  rintro e w2 ⟨rfl, hb2⟩
  rw [sameB_self]
  go_wp2
  go_ret
  exact ⟨rfl, bthen hb1 (balloc_lt _ _ hb2)⟩
def jobV (x : Int) : Int := wi x 1 1048576
def jobsV (xs : List Int) : List Int := wi xs.length 1 900 :: (xs.take 8).map jobV
def jobsTo (xs : List Int) (k : Nat) : List Int := wi xs.length 1 900 :: (xs.take k).map jobV
theorem jobsTo_zero (xs : List Int) : jobsTo xs 0 = [wi xs.length 1 900] := by simp [jobsTo]
theorem jobsTo_succ {xs : List Int} {k : Nat} (h : k < xs.length) : jobsTo xs (k + 1) = jobsTo xs k ++ [jobV xs[k]] := by
  unfold jobsTo
  rw [List.take_succ_eq_append_getElem h, List.map_append]
  rfl
theorem jobsTo_len (xs : List Int) (k : Nat) : (jobsTo xs k).length ≤ k + 1 := by
  unfold jobsTo
  rw [List.length_cons, List.length_map, List.length_take]
  omega
theorem jobsTo_all {xs : List Int} {k : Nat} (h : xs.length ≤ k ∧ k ≤ 8 ∨ k = 8) : jobsTo xs k = jobsV xs := by
  unfold jobsTo jobsV
  rcases h with h | h
  · rw [List.take_of_length_le h.1, List.take_of_length_le (by omega)]
  · rw [h]
theorem jobsV_ok (xs : List Int) : Demands (jobsV xs) ∧ 1 ≤ (jobsV xs).length ∧ (jobsV xs).length ≤ 9 := by
  refine ⟨fun d hd => ?_, by simp [jobsV], by simp [jobsV]; omega⟩
  unfold jobsV at hd
  rcases List.mem_cons.1 hd with rfl | hd
  · have := wi_bd xs.length 1 900 (by omega)
    omega
  · obtain ⟨x, _, rfl⟩ := List.mem_map.1 hd
    have := wi_bd x 1 1048576 (by omega)
    unfold jobV
    omega
/-- Returns a new slice of ints. -/
def RetIntsOnly (ys : List Int) (w : World) (e : Ending) (w' : World) : Prop :=
  ∃ oa cap, e = .returned (.slice oa ys.length cap) ∧ (oa = none → cap = 0) ∧ ys.length ≤ maxLen ∧ Flat w' 1 encInt oa ys ∧ Below w.heap.size w w'
set_option maxHeartbeats 1000000 in
theorem jobs_any (oa : Option Addr) (xs : List Int) (cap : Nat) (w : World) (hm : xs.length ≤ maxLen) (hx : Flat w 1 encInt oa xs) :
    Calls Try.prog 21 #[.slice oa xs.length cap] w (RetIntsOnly (jobsV xs) w) := by
  have hm9 : xs.length ≤ 9223372036854775807 := by unfold maxLen at hm; omega
  go_enter Try.func21, Try.ntmps21
  go_wp2_with (go_at_call 22; refine (within_any _ _ _ _ (by omega) (by omega) (by omega)).mono ?_; rintro e w' ⟨rfl, rfl⟩)
  go_loopw [3, 4] (fun out i wr => ∃ k : Nat, k ≤ xs.length ∧ k ≤ 8 ∧ i = .int .i64 k ∧ Own wr w.heap.size 3 1 encInt out (jobsTo xs k) ∧ Below w.heap.size w wr) (fun _ i _ => xs.length - (intOf i).toNat)
  case atStart => exact ⟨0, by omega, by omega, rfl, by rw [jobsTo_zero]; exact Own.lit w _ 1 encInt [wi xs.length 1 900] 3 (fun _ => rfl) (by simp [maxLen]) (Nat.le_refl _), (Below.refl _ _).alloc (Nat.le_refl _) _⟩
  case round =>
    obtain ⟨k, hk, hk8, rfl, hown, hb⟩ := hrel
    by_cases hlt : k < xs.length ∧ k < 8
    · obtain ⟨hlt, hlt8⟩ := hlt
      obtain ⟨b, off, rfl, hc1⟩ := (hx.below hb).int hlt
      have E2 := Lib.hid (jobsTo_succ hlt)
      have hlen := jobsTo_len xs k
      go_wp2_with (first | (go_at_call 22; refine (within_any _ _ _ _ (by omega) (by omega) (by omega)).mono ?_; rintro e w' ⟨rfl, rfl⟩) | (at_builtin; go_must (refine wpList_app1 rfl (.tmp 19) (.tmp 25) 22 rfl elemInt Try.underlying22 w.heap.size _ _ encInt rfl (hown.alloc _) (jobV xs[k]) ⟨wr.heap.size, 0, none⟩ 1 rfl rfl ?c1 ?c2 ?c3 ?c4 ?c5 ?_)))
      case c1 => exact cell_one_new _ _ _
      case c2 => simp [encInt, Value.oneCell']
      case c3 => omega
      case c4 => unfold maxLen; omega
      case c5 => have := hb.size; simp; omega
      intro v' w3 hown3 hg3
      have hb5 := (hown.alloc _).grown (balloc hb _) (Nat.le_refl _) hg3
      rw [← E2.out] at hown3
      clear hg3 hown
      go_wp2
      go_roundw
      case rel => exact ⟨k + 1, by omega, by omega, by go_num, hown3, hb5⟩
      case measure => simp [intOf]; omega
    · have E := Lib.hid (jobsTo_all (xs := xs) (k := k) (by omega))
      rw [E.out] at hown
      obtain ⟨oa', cap', rfl, hn0, hm', hf'⟩ := hown.isSlice (fun _ => rfl)
      have HF := Lib.hid (show RetIntsOnly (jobsV xs) w _ wr from ⟨oa', cap', rfl, hn0, hm', hf', hb⟩)
      clear hf' hown hn0
      by_cases hlt2 : k < xs.length
      all_goals
        go_wp2
        go_ret
        exact HF.out
theorem allot_sum_take (xs : List Int) (r : Int) (k : Nat) (h : k < xs.length) : ((allotV xs r).take (k + 1)).sum = ((allotV xs r).take k).sum + cl xs[k] r := by
  have h2 : k < (allotV xs r).length := by simpa [allotV] using h
  rw [List.take_succ_eq_append_getElem h2, List.sum_append]
  simp [allotV]
theorem allot_take (xs : List Int) (r : Int) (k : Nat) : ((allotV xs r).take k).sum = needV (xs.take k) r := by
  unfold allotV needV
  rw [List.map_take]
theorem cl_tight {d r : Int} (hr : 1 ≤ r) : d ≤ cl d r * r ∧ (cl d r - 1) * r < d := by
  constructor
  · exact (cl_le hr).1 (Int.le_refl _)
  · have h := cl_le (d := d) (r := r) (c := cl d r - 1) hr
    omega
set_option maxHeartbeats 2000000 in
theorem tight_any (oa : Option Addr) (xs : List Int) (cap : Nat) (s : Int) (w : World) (hm : xs.length ≤ maxLen) (hx : Flat w 1 encInt oa xs) :
    Calls Try.prog 5 #[.slice oa xs.length cap, .int .i64 s] w fun e w' => e = .returned (.bool true) ∧ Below w.heap.size w w' := by
  obtain ⟨hd, l1, l2⟩ := jobsV_ok xs
  generalize hds : jobsV xs = ds at *
  have HDS := Lib.hid hds; clear hds
  have hsl := wi_bd s ds.length 64 (by omega)
  generalize hss : wi s ds.length 64 = sl at *
  have HSL := Lib.hid hss; clear hss
  have HC := Lib.hid (gchk_ok l1 (by omega) hd (by omega : 1 ≤ sl) hsl.2)
  have hle := leastV_isLeast hd hsl.1
  have r1 := hle.1.1
  have r2 := hle.2
  have hnd := hle.1.2.1
  have HLT := Lib.hid hle.1.2.2
  clear hle
  generalize hr : leastV ds sl = r at *
  have HR := Lib.hid hr; clear hr
  have HD := Lib.hid hd
  have hlen : (allotV ds r).length = ds.length := by unfold allotV; rw [List.length_map]
  have hsum := fun k h => allot_sum_take ds r k h
  have htk := fun k => allot_take ds r k
  have hget : ∀ k (h1 : k < (allotV ds r).length) (h2 : k < ds.length), (allotV ds r)[k] = cl ds[k] r := by
    intro k h1 h2
    simp [allotV]
  generalize hv : allotV ds r = ys at *
  have HV := Lib.hid hv; clear hv
  have HSUM := Lib.hid hsum; clear hsum
  have HTK := Lib.hid htk; clear htk
  have HG := Lib.hid hget; clear hget
  have HLEN := Lib.hid hlen
  have hl3 : ys.length ≤ 9 := by omega
  have hne : ((ys.length : Int) != (ds.length : Int)) = false := by simp [hlen]
  clear hlen hd
  go_enter Try.func5, Try.ntmps5
  go_wp2_with fail
  refine (gangsK_any _).mono ?_
  rintro e w1 ⟨rfl, hb⟩
  have hx1 := hx.below hb
  clear hx
  go_wp2_with fail
  refine (jobs_any _ _ _ _ hm hx1).mono ?_
  rw [HDS.out]
  rintro e w2 ⟨oad, capd, rfl, _, hmd, hfd, hb2⟩
  have hb3 := bthen hb hb2
  clear hx1 hb hb2
  go_wp2_with fail
  refine (within_any _ _ _ _ (by omega) (by omega) (by omega)).mono ?_
  rw [HSL.out]
  rintro e w' ⟨rfl, rfl⟩
  go_wp2_with fail
  refine (allot_ok _ _ _ _ _ hmd hfd HC.out hsl.1).mono ?_
  rw [HR.out, HV.out]
  rintro e w3 ⟨oay, capy, rfl, _, hmy, hfy, hb4⟩
  have hb5 := bthen hb3 hb4
  have hfd3 := hfd.below hb4
  clear hfd hb3 hb4
  go_wp2_with fail
  refine (gneed_ok _ _ _ _ _ _ hmd hfd3 HC.out r1 r2).mono ?_
  rintro e w' ⟨rfl, rfl⟩
  go_wp2_with fail
  go_loop [10, 39] (fun n i => ∃ k : Nat, k ≤ ys.length ∧ i = .int .i64 k ∧ n = .int .i64 (ys.take k).sum) (fun _ i => ys.length - (intOf i).toNat)
  case atStart => exact ⟨0, by omega, rfl, by simp⟩
  case round =>
    obtain ⟨k, hk, rfl, rfl⟩ := hrel
    by_cases hlt : k < ys.length
    · have hlt2 : k < ds.length := by have := HLEN.out; omega
      obtain ⟨b, off, rfl, hc1⟩ := hfy.int hlt
      obtain ⟨b', off', rfl, hc2⟩ := hfd3.int hlt2
      have hg := HG.out k hlt hlt2
      rw [hg] at hc1
      have hd := HD.out ds[k] (List.getElem_mem hlt2)
      have hcb := cl_bd hd.1 r1
      have htt := cl_tight (d := ds[k]) r1
      have hm1 := mul_bd (cl ds[k] r) r 1048576 1048576 (by omega) (by omega) (by omega) r2
      have hm2 := mul_bd (cl ds[k] r - 1) r 1048576 1048576 (by omega) (by omega) (by omega) r2
      have h1 := HTK.out k
      have h2 := needV_bd (xs := ds.take k) (fun d hd => HD.out d (List.mem_of_mem_take hd)) r1
      have h3 : (ds.take k).length ≤ 9 := by rw [List.length_take]; omega
      have hsb : 0 ≤ (ys.take k).sum ∧ (ys.take k).sum ≤ 9437184 := by omega
      have E := Lib.hid (HSUM.out k hlt2)
      clear h1 h2 h3 hg
      go_wp2
      go_round
      case rel => exact ⟨k + 1, by omega, by go_num, by rw [E.out]⟩
      case measure => simp [intOf]; omega
    · have E : Hid ((ys.take k).sum = needV ds r) := by
        show _ = _
        rw [HTK.out k, List.take_of_length_le (by have := HLEN.out; omega)]
      rw [E.out]
      by_cases h1 : r = 1
      · have h1b : (r == 1) = true := by simpa using h1
        clear h1
        go_wp2
        go_ret
        exact ⟨rfl, hb5⟩
      · have h1b : (r == 1) = false := by simpa using h1
        have h2 : sl < needV ds (r - 1) := by
          rcases HLT.out with h | h
          · exact absurd h h1
          · exact h
        have r1' : 1 ≤ r - 1 := by omega
        have r2' : r - 1 ≤ 1048576 := by omega
        clear h1
        go_wp2_with (go_at_call 16; refine (gneed_ok _ _ _ _ _ _ hmd hfd3 HC.out r1' r2').mono ?_; rintro e w' ⟨rfl, rfl⟩)
        go_ret
        exact ⟨rfl, hb5⟩
theorem tight_law (v : Value) {w : World} (hv : IntsArg w v) (s : Int) (_hs : i64ok s) :
    Calls Try.prog 5 #[v, .int .i64 s] w fun e w' => e = .returned (.bool true) ∧ Below w.heap.size w w' := by
  obtain ⟨xs, oa, cap, rfl, hm, hx, _⟩ := hv
  exact tight_any oa xs cap s w hm hx
end Go.Proofs.Ytobmpleddhcloaa
