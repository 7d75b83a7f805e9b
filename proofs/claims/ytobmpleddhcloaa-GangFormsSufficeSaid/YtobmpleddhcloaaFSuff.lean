/-
  The walk of GangFormsSuffice. Own text.
-/
import Derived.Test.YtobmpleddhcloaaFSuffV
import Derived.Test.YtobmpleddhcloaaMinI
import Derived.Test.YtobmpleddhcloaaFormsX
import Derived.Test.YtobmpleddhcloaaTight
namespace Go.Proofs.Ytobmpleddhcloaa
open Go.RowKit
set_option linter.unusedVariables false
theorem sum_nonneg {U : List Int} (h : ∀ x ∈ U, 0 ≤ x) : 0 ≤ U.sum := by
  induction U with
  | nil => simp
  | cons x U ih =>
    have := h x (by simp)
    have := ih (fun y hy => h y (by simp [hy]))
    rw [List.sum_cons]
    omega
theorem take_sum_bd {U : List Int} (h : ∀ x ∈ U, 0 ≤ x) (j : Nat) : 0 ≤ (U.take j).sum ∧ (U.take j).sum ≤ U.sum := by
  have h1 := sum_nonneg (U := U.take j) (fun x hx => h x (List.mem_of_mem_take hx))
  have h2 := sum_nonneg (U := U.drop j) (fun x hx => h x (List.mem_of_mem_drop hx))
  have h3 : U.sum = (U.take j).sum + (U.drop j).sum := by rw [← List.sum_append, List.take_append_drop]
  omega
theorem take_sum_succ {U : List Int} {j : Nat} (h : j < U.length) : (U.take (j + 1)).sum = (U.take j).sum + U[j] := by
  rw [List.take_succ_eq_append_getElem h, List.sum_append]
  simp
/-- A plate's places: none is negative, and all of them fit. -/
def UpsFit (s : Int) (f : Form) : Prop := (∀ x ∈ f.ups, 0 ≤ x) ∧ f.ups.sum ≤ s ∧ f.ups.length ≤ 12
theorem forms_ups {ds : List Int} {s p : Int} {B : Nat → Int} {N : Nat → Nat} {m : Nat} (hd : Demands ds) (hn : ds.length ≤ 12) (hB : BestFrom (vals ds) s p B N 0) (hm : ∀ a, a < m → pos N a < ds.length) : ∀ f ∈ formsV ds s N m, UpsFit s f := by
  intro f hf
  have hdv := vals_demands hd
  obtain ⟨b, hb, rfl⟩ := List.mem_map.1 hf
  obtain ⟨d1, d2, d3, _⟩ := chain_at hB hm (List.mem_range.1 hb)
  have hrr := runV_least hdv (Nat.le_of_lt d1) (by rw [vals_len]; exact d2) d3
  refine ⟨fun x hx => ?_, formV_fits hdv (Nat.le_of_lt d1) d2 d3, by rw [formV_ups_len (Nat.le_of_lt d1) d2]; omega⟩
  obtain ⟨d, hdm, rfl⟩ := List.mem_map.1 hx
  have hc := cl_bd (hdv d (seg_mem hdm)).1 hrr.2.1
  omega
theorem one_demands {d : Int} (h : 1 ≤ d ∧ d ≤ 1048576) : Demands [d] := fun x hx => by simp at hx; omega
set_option maxHeartbeats 2000000 in
theorem suffice_any (oa : Option Addr) (xs : List Int) (cap : Nat) (s p : Int) (w : World) (hm : xs.length ≤ maxLen) (hx : Flat w 1 encInt oa xs) :
    Calls Try.prog 10 #[.slice oa xs.length cap, .int .i64 s, .int .i64 p] w fun e w' => e = .returned (.bool true) ∧ Below w.heap.size w w' := by
  obtain ⟨hd, l1, l2⟩ := jobsV_ok xs
  generalize hds : jobsV xs = ds at *
  have HDS := Lib.hid hds; clear hds
  have hsl := wi_bd s 1 64 (by omega)
  generalize hss : wi s 1 64 = sl at *
  have HSL := Lib.hid hss; clear hss
  have hpl := wi_bd p 0 2000 (by omega)
  generalize hpp : wi p 0 2000 = pl at *
  have HPL := Lib.hid hpp; clear hpp
  have HC1 := Lib.hid (gchk_ok l1 (by omega) hd hsl.1 hsl.2)
  have HD := Lib.hid hd; clear hd
  go_enter Try.func10, Try.ntmps10
  go_wp2_with fail
  refine (gangsK_any _).mono ?_
  rintro e w1 ⟨rfl, hb⟩
  have hx1 := hx.below hb
  clear hx
  go_wp2_with fail
  refine (jobs_any _ _ _ _ hm hx1).mono ?_
  rw [HDS.out]
  rintro e w2 ⟨oad, capd, rfl, _, hmd, hfd, hb2⟩
  have hb3 := Lib.hid (bthen hb hb2)
  clear hx1 hb hb2
  go_wp2_with fail
  refine (within_any _ _ _ _ (by omega) (by omega) (by omega)).mono ?_
  rw [HSL.out]
  rintro e w' ⟨rfl, rfl⟩
  go_wp2_with fail
  refine (within_any _ _ _ _ (by omega) (by omega) (by omega)).mono ?_
  rw [HPL.out]
  rintro e w' ⟨rfl, rfl⟩
  go_wp2_with fail
  refine (forms_ok _ _ _ _ _ _ hfd HC1.out hpl.1 (by omega)).mono ?_
  rintro e w3 ⟨B, N, m, of, cf, rfl, hB, hmn, hend, hlt, hfs, hb4⟩
  have hch := hB.cheap
  obtain ⟨hse, hsv⟩ := forms_sur HD.out l1 (by omega) hsl.2 hB hlt hmn hend
  have hup := forms_ups HD.out (by omega) hB hlt
  have hfl : (formsV ds sl N m).length = m := formsV_len _ _ _ _
  generalize B 0 = c at *
  generalize formsV ds sl N m = fs at *
  have hfd3 := Lib.hid (hfd.below hb4)
  have hb5 := Lib.hid (bthen hb3.out hb4)
  have hone : Hid ((ds.length : Int) ≤ sl → c ≤ pl + leastV ds sl) := fun h => by
    have := hch.one (by rw [vals_len]; omega) (by rw [vals_len]; exact h)
    rwa [leastV_perm (vals_perm ds)] at this
  have halone : c ≤ aloneV sl pl ds := by
    have := hch.alone hsl.1
    rwa [aloneV_perm (vals_perm ds)] at this
  have HUP := Lib.hid hup
  have HSV := Lib.hid hsv
  subst hfl
  clear hB hlt hend hch hup hsv hfd hb3 hb4
  have HS := Lib.hid (sur_any oad of ds fs capd cf w3 hmd hfd3.out (by unfold maxLen; omega) hfs)
  have HFS := Lib.hid hfs
  clear hfs
  go_wp2_with fail
  refine HS.out.mono ?_
  rintro e w4 ⟨hb6, ⟨hne, _⟩ | ⟨_, o5, c5, rfl, hm5, hf5⟩⟩
  · exact absurd hse hne
  have hyl := surV_length ds fs
  generalize surV ds fs = ys at *
  rw [hyl]
  have hfs4 := Lib.hid (HFS.out.below hb6)
  have hfd4 := Lib.hid (hfd3.out.below hb6)
  have hb7 := Lib.hid (bthen hb5.out hb6)
  have hmin := min_any o5 ys c5 w4 (by omega) hm5 hf5
  rw [hyl] at hmin
  have HM := Lib.hid hmin
  clear hmin hf5 hfd3 hb5 hb6 HS HFS hse
  go_wp2_with (go_at_call 32; refine HM.out.mono ?_; rintro e w' ⟨x, hmx, rfl, rfl⟩; have hx0 : 0 ≤ x := HSV.out x hmx; have hx1 : ¬ x < 0 := by omega)
  go_loopw [68] (fun i wr => ∃ k : Nat, k ≤ fs.length ∧ i = .int .i64 k ∧ Below w4.heap.size w4 wr) (fun i _ => fs.length - (intOf i).toNat)
  case atStart => exact ⟨0, by omega, rfl, Below.refl _ _⟩
  case round =>
    obtain ⟨k, hk, rfl, hb8⟩ := hrel
    by_cases hltk : k < fs.length
    · obtain ⟨b, off, oj, cj, ou, cu, rfl, c0, c1, c2, lj, lu, fj, fu⟩ := (hfs4.out.below hb8).at hltk
      obtain ⟨u1, u2, u3⟩ := HUP.out fs[k] (List.getElem_mem hltk)
      have HU1 := Lib.hid u1
      obtain ⟨wo, rfl⟩ : ∃ wo : World, wo = wr := ⟨_, rfl⟩
      clear u1 fj
      go_wp2_with fail
      go_loop [14, 75] (fun n i => ∃ j : Nat, j ≤ fs[k].ups.length ∧ i = .int .i64 j ∧ n = .int .i64 (fs[k].ups.take j).sum) (fun _ i => fs[k].ups.length - (intOf i).toNat)
      case atStart => exact ⟨0, by omega, rfl, by simp⟩
      case round =>
        obtain ⟨j, hj, rfl, rfl⟩ := hrel
        by_cases hltj : j < fs[k].ups.length
        · obtain ⟨bu, offu, rfl, cu0⟩ := fu.int hltj
          have hbu := cell?_lt cu0
          have hs1 := take_sum_bd HU1.out j
          have hs2 := take_sum_bd HU1.out (j + 1)
          have hs3 := take_sum_succ hltj
          have hs4 := HU1.out _ (List.getElem_mem hltj)
          have E := Lib.hid hs3
          have t1 : 0 ≤ (fs[k].ups.take j).sum + fs[k].ups[j] ∧ (fs[k].ups.take j).sum + fs[k].ups[j] ≤ 64 := by omega
          clear hs3 hs2
          go_wp2
          go_round
          case rel => exact ⟨j + 1, by omega, by go_num, by rw [E.out]⟩
          case measure => simp [intOf]; omega
        · have E := Lib.hid (show fs[k].ups.take j = fs[k].ups from List.take_of_length_le (by omega))
          rw [E.out]
          have hnot : ¬ sl < fs[k].ups.sum := by omega
          go_wp2
          go_roundw
          case rel => exact ⟨k + 1, by omega, by go_num, balloc hb8 _⟩
          case measure => simp [intOf]; omega
    · have hfd5 := Lib.hid (hfd4.out.below hb8)
      have hb9 := Lib.hid (bthen hb7.out hb8)
      clear hb8 hfs4 hfd4 hb7 HM
      by_cases hfit : (ds.length : Int) ≤ sl
      all_goals
        have hle := leastV_isLeast (xs := ds) (slots := sl) HD.out
        have hcap : Hid ((ds.length : Int) ≤ sl → c ≤ pl + leastV ds sl ∧ 1 ≤ leastV ds sl ∧ leastV ds sl ≤ 1048576) := fun h => ⟨hone.out h, (hle h).1.1, (hle h).2⟩
        clear hle
        obtain ⟨a, ha⟩ : ∃ a, a = leastV ds sl := ⟨_, rfl⟩
        rw [← ha] at hcap
        go_wp2_with (first | (go_at_call 12; refine (allot_ok _ _ _ _ _ hmd hfd5.out HC1.out (by omega)).mono ?_; rw [← ha]; generalize allotV ds a = ys2; rintro e w9 ⟨o9, c9, rfl, _, _, _, hb10⟩; have hfd6 := Lib.hid (hfd5.out.below hb10); have hb11 := Lib.hid (bthen hb9.out hb10); obtain ⟨q1, q2, q3⟩ := hcap.out hfit; have q4 : ¬ pl + a < c := by omega) | (go_at_call 12; refine (allot_fit _ _ _ _ _ hmd hfd5.out HC1.out (by omega)).mono ?_; rintro e w9 ⟨rfl, hw9⟩; have hfd6 := Lib.hid (hw9 ▸ hfd5.out : Flat w9 1 encInt oad ds); have hb11 := Lib.hid (hw9 ▸ hb9.out : Below w.heap.size w w9); clear hw9))
        clear hcap
        go_loopw [20, 105] (fun al i wr => ∃ k : Nat, k ≤ ds.length ∧ i = .int .i64 k ∧ al = .int .i64 (aloneV sl pl (ds.take k)) ∧ Below w9.heap.size w9 wr) (fun _ i _ => ds.length - (intOf i).toNat)
        case atStart => exact ⟨0, by omega, rfl, by simp [aloneV], Below.refl _ _⟩
        case round =>
          obtain ⟨k, hk2, rfl, rfl, hb12⟩ := hrel
          have hbd := aloneV_bd (s := sl) (p := pl) (xs := ds.take k) (fun d hd => HD.out d (List.mem_of_mem_take hd)) hsl.1 hpl.1 hpl.2
          rw [List.length_take] at hbd
          by_cases hltd : k < ds.length
          · obtain ⟨bd, offd, rfl, cd0⟩ := (hfd6.out.below hb12).int hltd
            have hdk := HD.out _ (List.getElem_mem hltd)
            have hl1 := leastV_isLeast (slots := sl) (one_demands hdk) (by simpa using hsl.1)
            have hC1 := Lib.hid (gchk_ok (xs := [ds[k]]) (slots := sl) (by simp) (by simp) (one_demands hdk) hsl.1 hsl.2)
            have E := Lib.hid (aloneV_take sl pl hltd)
            obtain ⟨r, hr⟩ : ∃ r, r = leastV [ds[k]] sl := ⟨_, rfl⟩
            rw [← hr] at hl1 E
            have r1 := hl1.1.1
            have r2 := hl1.2
            clear hl1
            obtain ⟨wo, rfl⟩ : ∃ wo : World, wo = wr := ⟨_, rfl⟩
            have hal := allot_ok (some ⟨wo.heap.size, 0, none⟩) [ds[k]] 1 sl _ (by simp [maxLen]) (Flat.litN wo 1 encInt [ds[k]] 3 (fun _ => rfl)) hC1.out (by simpa using hsl.1)
            rw [← hr] at hal
            generalize allotV [ds[k]] r = y1 at hal
            have HAL := Lib.hid hal
            clear hal hr
            go_wp2_with (go_at_call 12; refine HAL.out.mono ?_; rintro e w11 ⟨o11, c11, rfl, _, _, _, hb13⟩; have hb14 := Lib.hid (bthen hb12 (balloc_lt _ _ hb13)))
            go_roundw
            case rel => exact ⟨k + 1, by omega, by go_num, by rw [E.out], hb14.out⟩
            case measure => simp [intOf]; omega
          · have E := Lib.hid (show ds.take k = ds from List.take_of_length_le (by omega))
            rw [E.out]
            go_wp2
            go_ret
            exact ⟨by first | rfl | simp [halone], bthen hb11.out hb12⟩
theorem suffice_law (v : Value) {w : World} (hv : IntsArg w v) (s : Int) (_hs : i64ok s) (p : Int) (_hp : i64ok p) :
    Calls Try.prog 10 #[v, .int .i64 s, .int .i64 p] w fun e w' => e = .returned (.bool true) ∧ Below w.heap.size w w' := by
  obtain ⟨xs, oa, cap, rfl, hm, hx, _⟩ := hv
  exact suffice_any oa xs cap s p w hm hx
end Go.Proofs.Ytobmpleddhcloaa
