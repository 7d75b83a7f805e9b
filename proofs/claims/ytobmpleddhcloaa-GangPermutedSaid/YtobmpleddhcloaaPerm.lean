/-
  The walk of GangPermuted. Own text.
-/
import Derived.Test.YtobmpleddhcloaaFormsC
import Derived.Test.YtobmpleddhcloaaTight
import Derived.Test.YtobmpleddhcloaaConcatInts
import Derived.RegionTactic
import Derived.BigRegion
import Derived.Deep.RegionHeld3
import Derived.Handy
namespace Go.Proofs.Ytobmpleddhcloaa
open Go.RowKit
set_option linter.unusedVariables false
/-- A list turned by q places. -/
def turnV (xs : List Int) (q : Nat) : List Int := xs.drop q ++ xs.take q
theorem turn_perm (xs : List Int) (q : Nat) : (turnV xs q).Perm xs := by
  unfold turnV
  refine List.perm_append_comm.trans ?_
  rw [List.take_append_drop]
theorem turn_allot (xs : List Int) (q : Nat) (r : Int) : allotV (turnV xs q) r = turnV (allotV xs r) q := by
  unfold turnV allotV
  rw [List.map_append, List.map_drop, List.map_take]
theorem turn_len (xs : List Int) (q : Nat) : (turnV xs q).length = xs.length := (turn_perm xs q).length_eq
theorem Flat.dropN {w : World} {b off : Nat} {xs : List Int} (h : Flat w 1 encInt (some ⟨b, off, none⟩) xs) (q : Nat) : Flat w 1 encInt (some ⟨b, off + q, none⟩) (xs.drop q) := by
  have := h.cut q xs.length
  rw [Nat.mul_one, List.take_of_length_le (by rw [List.length_drop]; omega)] at this
  exact this
theorem Flat.takeN {w : World} {b off : Nat} {xs : List Int} (h : Flat w 1 encInt (some ⟨b, off, none⟩) xs) (q : Nat) : Flat w 1 encInt (some ⟨b, off, none⟩) (xs.take q) := by
  have := h.cut 0 q
  simpa using this
def RetTurn (xs : List Int) (q n : Nat) (w : World) (e : Ending) (w' : World) : Prop :=
  ∃ ot ct, e = .returned (.slice ot n ct) ∧ Flat w' 1 encInt ot (turnV xs q) ∧ Below w.heap.size w w'
/-- The call of slices.Concat at two parts of one row. -/
theorem concat_turn (b off : Nat) (xs : List Int) (q n c1 c2 : Nat) (w : World) (hx : Flat w 1 encInt (some ⟨b, off, none⟩) xs) (hq : q ≤ n) (hn : xs.length = n) (hm : n ≤ 1000) :
    Calls Try.prog 30 #[.slice (some ⟨w.heap.size, 0, none⟩) 2 2] (w.alloc (.cells #[.slice (some ⟨b, off + q, none⟩) (n - q) c1, .slice (some ⟨b, off, none⟩) q c2] 22)).drew (RetTurn xs q n w) := by
  have h1 : IsSlice w 1 encInt (.slice (some ⟨b, off + q, none⟩) (n - q) c1) (xs.drop q) := ⟨_, _, by rw [List.length_drop, hn], (fun e => by cases e), by rw [List.length_drop]; unfold maxLen; omega, hx.dropN q⟩
  have h2 : IsSlice w 1 encInt (.slice (some ⟨b, off, none⟩) q c2) (xs.take q) := ⟨_, _, by rw [List.length_take, hn, Nat.min_eq_left hq], (fun e => by cases e), by rw [List.length_take]; unfold maxLen; omega, hx.takeN q⟩
  have hT : total [xs.drop q, xs.take q] * 8 ≤ 140737488355328 := by
    have : total [xs.drop q, xs.take q] = n := by simp [total]; omega
    omega
  have hR : Rows1 (w.alloc (.cells #[.slice (some ⟨b, off + q, none⟩) (n - q) c1, .slice (some ⟨b, off, none⟩) q c2] 22)).drew 1 encInt (some ⟨w.heap.size, 0, none⟩) [xs.drop q, xs.take q] := Rows1.lit2 h1 h2 22
  refine (concatInts _ [xs.drop q, xs.take q] 2 _ (by simp) hR hT).mono ?_
  intro e w' h
  obtain ⟨oa, cap, rfl, _, _, hf, hb⟩ := RetSliceInts.out h
  have e1 : [xs.drop q, xs.take q].flatten = turnV xs q := by simp [turnV]
  rw [e1] at hf ⊢
  rw [turn_len, hn]
  exact ⟨oa, cap, rfl, hf, bthen ((Below.refl _ _).alloc (Nat.le_refl _) _).drew hb⟩
/-- jobs, what it returns said as memory of the call's own. -/
def RetJobs (ys : List Int) (w : World) (e : Ending) (w' : World) : Prop := ∃ v, e = .returned v ∧ Own w' w.heap.size 3 1 encInt v ys ∧ Below w.heap.size w w'
theorem Arr.cap {α : Type} {w : World} {base : Nat} {e : TypeId} {f : α → Value} {g cap : Nat} {xs : List α} (h : Arr w base e f g cap xs) : xs.length ≤ cap ∧ cap ≤ maxLen := by
  rcases h.2 with ⟨h1, _⟩ | ⟨g', cap', cur, h1, h2, h3, h4, h5, _⟩
  · cases h1
  · simp only [Value.slice.injEq] at h1
    obtain ⟨_, _, rfl⟩ := h1
    exact ⟨h4, h5⟩
set_option maxHeartbeats 1000000 in
theorem jobs_own (oa : Option Addr) (xs : List Int) (cap : Nat) (w : World) (hm : xs.length ≤ maxLen) (hx : Flat w 1 encInt oa xs) :
    Calls Try.prog 21 #[.slice oa xs.length cap] w (RetJobs (jobsV xs) w) := by
  have hm9 : xs.length ≤ 9223372036854775807 := by unfold maxLen at hm; omega
  go_enter Try.func21, Try.ntmps21
  go_wp2_with (go_at_call 22; refine (within_any _ _ _ _ (by omega) (by omega) (by omega)).mono ?_; rintro e w' ⟨rfl, rfl⟩)
  go_loopw [3, 4] (fun out i wr => ∃ k : Nat, k ≤ xs.length ∧ k ≤ 8 ∧ i = .int .i64 k ∧ Own wr w.heap.size 3 1 encInt out (jobsTo xs k) ∧ Below w.heap.size w wr) (fun _ i _ => xs.length - (intOf i).toNat)
  case atStart => exact ⟨0, by omega, by omega, rfl, by rw [jobsTo_zero]; exact Own.lit w _ 1 encInt [wi xs.length 1 900] 3 (fun _ => rfl) (by simp [maxLen]) (Nat.le_refl _), (Below.refl _ _).alloc (Nat.le_refl _) _⟩
  case round =>
    obtain ⟨k, hk, hk8, rfl, hown, hb⟩ := hrel
    by_cases hlt : k < xs.length ∧ k < 8
    · obtain ⟨hlt, hlt8⟩ := hlt
      obtain ⟨b, off, rfl, hc1⟩ := (hx.below hb).int hlt
      have E2 := Lib.hid (jobsTo_succ hlt)
      have hlen := jobsTo_len xs k
      go_wp2_with (first | (go_at_call 22; refine (within_any _ _ _ _ (by omega) (by omega) (by omega)).mono ?_; rintro e w' ⟨rfl, rfl⟩) | (at_builtin; go_must (refine wpList_app1 rfl (.tmp 19) (.tmp 25) 22 rfl elemInt Try.underlying22 w.heap.size _ _ encInt rfl (hown.alloc _) (jobV xs[k]) ⟨wr.heap.size, 0, none⟩ 1 rfl rfl ?c1 ?c2 ?c3 ?c4 ?c5 ?_)))
      case c1 => exact cell_one_new _ _ _
      case c2 => simp [encInt, Value.oneCell']
      case c3 => omega
      case c4 => unfold maxLen; omega
      case c5 => have := hb.size; simp; omega
      intro v' w3 hown3 hg3
      have hb5 := (hown.alloc _).grown (balloc hb _) (Nat.le_refl _) hg3
      rw [← E2.out] at hown3
      clear hg3 hown
      go_wp2
      go_roundw
      case rel => exact ⟨k + 1, by omega, by omega, by go_num, hown3, hb5⟩
      case measure => simp [intOf]; omega
    · have E := Lib.hid (jobsTo_all (xs := xs) (k := k) (by omega))
      rw [E.out] at hown
      have HF := Lib.hid (show RetJobs (jobsV xs) w (.returned _) wr from ⟨_, rfl, hown, hb⟩)
      clear hown
      by_cases hlt2 : k < xs.length
      all_goals
        go_wp2
        go_ret
        exact HF.out
set_option maxHeartbeats 2000000 in
theorem permuted_any (oa : Option Addr) (xs : List Int) (cap : Nat) (s by' : Int) (w : World) (hm : xs.length ≤ maxLen) (hx : Flat w 1 encInt oa xs) :
    Calls Try.prog 9 #[.slice oa xs.length cap, .int .i64 s, .int .i64 by'] w fun e w' => e = .returned (.bool true) ∧ Below w.heap.size w w' := by
  obtain ⟨hd, l1, l2⟩ := jobsV_ok xs
  generalize hds : jobsV xs = ds at *
  have HDS := Lib.hid hds; clear hds
  have hsl := wi_bd s ds.length 64 (by omega)
  generalize hss : wi s ds.length 64 = sl at *
  have HSL := Lib.hid hss; clear hss
  have hwh := wi_bd by' 0 ((ds.length : Int) - 1) (by omega)
  obtain ⟨q, hq⟩ : ∃ q : Nat, wi by' 0 ((ds.length : Int) - 1) = (q : Int) := ⟨(wi by' 0 ((ds.length : Int) - 1)).toNat, by omega⟩
  rw [hq] at hwh
  have HQ := Lib.hid hq; clear hq
  have hqn : q < ds.length := by omega
  have HT : Hid (Demands (turnV ds q)) := demands_perm (turn_perm ds q).symm hd
  have HC1 := Lib.hid (gchk_ok l1 (by omega) hd (by omega : 1 ≤ sl) (by omega))
  have HC2 := Lib.hid (gchk_ok (by rw [turn_len]; exact l1) (by rw [turn_len]; omega) HT.out (by omega : 1 ≤ sl) (by omega))
  obtain ⟨n, hn⟩ : ∃ n : Nat, ds.length = n := ⟨_, rfl⟩
  have hq1 : (0 : Int) ≤ (q : Int) := by omega
  have hq2 : (q : Int) ≤ (n : Int) := by omega
  have hq3 : q < n := by omega
  obtain ⟨a, ha⟩ : ∃ a, a = leastV ds sl := ⟨_, rfl⟩
  have HA2 : Hid (leastV (turnV ds q) sl = a) := (leastV_perm (turn_perm ds q) sl).trans ha.symm
  have HA := Lib.hid ha; clear ha
  have HD := Lib.hid hd; clear hd
  rw [hn] at l1 l2 hsl HSL hwh HQ hqn
  replace hn := Lib.hid hn
  go_enter Try.func9, Try.ntmps9
  go_wp2_with fail
  refine (gangsK_any _).mono ?_
  rintro e w1 ⟨rfl, hb⟩
  have hx1 := hx.below hb
  clear hx
  go_wp2_with fail
  refine (jobs_own _ _ _ _ hm hx1).mono ?_
  rw [HDS.out]
  rintro e w2 ⟨v, rfl, hown, hb2⟩
  obtain ⟨b0, capd, rfl, hA⟩ := Own.arr hown (by rw [hn.out]; exact l1)
  obtain ⟨hcap, hcm⟩ := hA.cap
  rw [hn.out] at hcap ⊢
  have hq4 : (q : Int) ≤ (capd : Int) := by omega
  have hq5 : ¬ capd = q := by omega
  have hfd := Lib.hid hA.flat
  have hb3 := Lib.hid (bthen hb hb2)
  clear hx1 hb hb2 hown hA
  go_wp2_with fail
  refine (within_any _ _ _ _ (by omega) (by omega) (by omega)).mono ?_
  rw [HSL.out]
  rintro e w' ⟨rfl, rfl⟩
  go_wp2_with fail
  refine (within_any _ _ _ _ (by omega) (by omega) (by omega)).mono ?_
  rw [HQ.out]
  rintro e w' ⟨rfl, rfl⟩
  go_upto_region 5 with fail
  have hcc : Hid (∀ c1 c2, Calls Try.prog 30 #[.slice (some ⟨w2.heap.size, 0, none⟩) 2 2] (w2.alloc (.cells #[.slice (some ⟨b0, q, none⟩) (n - q) c1, .slice (some ⟨b0, 0, none⟩) q c2] 22)).drew (RetTurn ds q n w2)) := fun c1 c2 => by
    have := concat_turn b0 0 ds q n c1 c2 w2 hfd.out (by omega) hn.out (by omega)
    rw [Nat.zero_add] at this
    exact this
  go_region_held3 (fun w' => Below w2.heap.size w2 w') ((first | assumption | go_grown | exact Below.alloc (by assumption) (by omega) _)) (first | fail | (go_simp; go_at_call 30; (with_reducible refine (hcc.out _ _).mono ?_); rintro e w5 ⟨ot, ct, rfl, hft, hb5⟩; have hz5 : Below w2.heap.size w2 w5 := hb5))
  have hfd5 := hfd.out.below hz5
  have hb6 := Lib.hid (bthen hb3.out hz5)
  clear hcc hz5 hb5 hb3 hfd
  obtain ⟨ys, hys⟩ : ∃ ys, ys = allotV ds a := ⟨_, rfl⟩
  have hyl : ys.length = n := by rw [hys]; unfold allotV; rw [List.length_map]; exact hn.out
  have hal1 := allot_own _ ds capd sl w5 (by rw [hn.out]; unfold maxLen; omega) hfd5 HC1.out (by rw [hn.out]; exact hsl.1)
  rw [hn.out, ← HA.out, ← hys] at hal1
  have HL1 := Lib.hid hal1; clear hal1
  go_wp2_with fail
  refine HL1.out.mono ?_
  rintro e w6 ⟨v, rfl, hown, hb7⟩
  obtain ⟨g1, k1, rfl, hA1⟩ := Own.arr hown (by rw [hyl]; exact l1)
  obtain ⟨hc1, hc2⟩ := hA1.cap
  rw [hyl] at hc1 ⊢
  have hq6 : (q : Int) ≤ (k1 : Int) := by omega
  have hq7 : ¬ k1 = q := by omega
  have hfl6 := Lib.hid (show Flat w6 1 encInt (some ⟨g1, 0, none⟩) ys from hA1.flat)
  have hft6 := hft.below hb7
  have hfd6 := hfd5.below hb7
  have hb8 := Lib.hid (bthen hb6.out hb7)
  clear hfd5 hb6 hb7 hown hA1 HL1 hft
  have htl : (turnV ds q).length = n := by rw [turn_len]; exact hn.out
  have hal2 := allot_ok _ (turnV ds q) ct sl w6 (by rw [htl]; unfold maxLen; omega) hft6 HC2.out (by rw [htl]; exact hsl.1)
  rw [htl, HA2.out, turn_allot, ← hys] at hal2
  have HL2 := Lib.hid hal2; clear hal2
  have HYS := Lib.hid hys; clear hys
  go_wp2_with fail
  refine HL2.out.mono ?_
  rintro e w7 ⟨o2, k2, rfl, _, hm2, hf2, hb7⟩
  rw [turn_len, hyl]
  have hfl7 := Lib.hid (hfl6.out.below hb7)
  have hft7 := hft6.below hb7
  have hfd7 := hfd6.below hb7
  have hf27 := Lib.hid hf2
  have hb9 := Lib.hid (bthen hb8.out hb7)
  clear hfd6 hb8 hb7 hfl6 hft6 HL2 hf2 hm2
  have hfo1 := forms_cost _ ds capd sl 50 w7 hfd7 HC1.out (by omega) (by omega)
  rw [hn.out] at hfo1
  have HF1 := Lib.hid hfo1; clear hfo1
  go_wp2_with fail
  refine HF1.out.mono ?_
  rintro e w8 ⟨x, o3, m3, k3, rfl, hx8, hb7⟩
  have HX := Lib.hid hx8
  have hfl8 := Lib.hid (hfl7.out.below hb7)
  have hf28 := Lib.hid (hf27.out.below hb7)
  have hft8 := hft7.below hb7
  have hb10 := Lib.hid (bthen hb9.out hb7)
  clear hfd7 hb9 hb7 hfl7 hft7 hf27 HF1 hx8
  have hfo2 := forms_cost _ (turnV ds q) ct sl 50 w8 hft8 HC2.out (by omega) (by omega)
  rw [htl] at hfo2
  have HF2 := Lib.hid hfo2; clear hfo2
  go_wp2_with fail
  refine HF2.out.mono ?_
  rintro e w9 ⟨y, o4, m4, k4, rfl, hy9, hb7⟩
  rw [vals_same (turn_perm ds q)] at hy9
  obtain rfl : x = y := HX.out.unique hy9
  have hfl9 := Lib.hid (hfl8.out.below hb7)
  have hf29 := Lib.hid (hf28.out.below hb7)
  have hb11 := Lib.hid (bthen hb10.out hb7)
  clear hb10 hb7 hfl8 hft8 hf28 HF2 hy9
  go_upto_region 10 with fail
  have hcc : Hid (∀ c1 c2, Calls Try.prog 30 #[.slice (some ⟨w9.heap.size, 0, none⟩) 2 2] (w9.alloc (.cells #[.slice (some ⟨g1, q, none⟩) (n - q) c1, .slice (some ⟨g1, 0, none⟩) q c2] 22)).drew (RetTurn ys q n w9)) := fun c1 c2 => by
    have := concat_turn g1 0 ys q n c1 c2 w9 hfl9.out (by omega) hyl (by omega)
    rw [Nat.zero_add] at this
    exact this
  have heq : Hid (∀ W oa ob ca cb, Flat W 1 encInt oa (turnV ys q) → Flat W 1 encInt ob (turnV ys q) → Calls Try.prog 31 #[.slice oa n ca, .slice ob n cb] W fun e w' => e = .returned (.bool true) ∧ Below W.heap.size W w') := fun W oa ob ca cb h1 h2 => by
    have h3 : (turnV ys q).length = n := by rw [turn_len]; exact hyl
    have := equalInts_any oa ob (turnV ys q) (turnV ys q) ca cb W (by rw [h3]; unfold maxLen; omega) (by rw [h3]; unfold maxLen; omega) h1 h2
    rw [sameB_self, h3] at this
    exact this
  go_region_held3 (fun w' => Below w9.heap.size w9 w') ((first | assumption | go_grown | exact Below.alloc (by assumption) (by omega) _)) (first | fail | (go_simp; go_at_call 30; (with_reducible refine (hcc.out _ _).mono ?_); rintro e w10 ⟨ot2, ct2, rfl, hft2, hb12⟩; have hz5 : Below w9.heap.size w9 w10 := hb12) | (go_simp; go_at_call 31; (with_reducible refine (heq.out _ _ _ _ _ hft2 (hf29.out.below hb12)).mono ?_); rintro e w11 ⟨rfl, hb13⟩; have hz6 : Below w9.heap.size w9 w11 := bthen hb12 hb13))
  go_wp2
  go_ret
  exact ⟨rfl, bthen hb11.out hz6⟩
theorem permuted_law (v : Value) {w : World} (hv : IntsArg w v) (s : Int) (_hs : i64ok s) (q : Int) (_hq : i64ok q) :
    Calls Try.prog 9 #[v, .int .i64 s, .int .i64 q] w fun e w' => e = .returned (.bool true) ∧ Below w.heap.size w w' := by
  obtain ⟨xs, oa, cap, rfl, hm, hx, _⟩ := hv
  exact permuted_any oa xs cap s q w hm hx
end Go.Proofs.Ytobmpleddhcloaa
