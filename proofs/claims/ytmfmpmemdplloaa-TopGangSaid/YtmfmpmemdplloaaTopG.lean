/-
  The walk of TopGang. Own text.
-/
import Derived.Test.YtmfmpmemdplloaaTopGV
import Derived.Test.YtmfmpmemdplloaaMCut
import Derived.StillTailTactics
import Derived.Handy
import Derived.Deep.Cut
namespace Go.Proofs.Ytmfmpmemdplloaa
open Go.RowKit
set_option linter.unusedVariables false
theorem flat_of4 {w : World} {b : Nat} (x : Item) (c0 : w.cell? ⟨b, 0, none⟩ = some (.int .i64 x.w)) (c1 : w.cell? ⟨b, 1, none⟩ = some (.int .i64 x.h)) (c2 : w.cell? ⟨b, 2, none⟩ = some (.int .i64 x.value)) (c3 : w.cell? ⟨b, 3, none⟩ = some (.bool x.turn)) : Flat w 4 encItem (some ⟨b, 0, none⟩) [x] := by
  intro i hi j hj
  have h0 : i = 0 := by simp at hi; omega
  subst h0
  match j, hj with
  | 0, _ => exact ⟨_, rfl, b, 0, rfl, c0⟩
  | 1, _ => exact ⟨_, rfl, b, 0, rfl, c1⟩
  | 2, _ => exact ⟨_, rfl, b, 0, rfl, c2⟩
  | 3, _ => exact ⟨_, rfl, b, 0, rfl, c3⟩
theorem bval_33 : bval [⟨2, 1, 5, true⟩] 3 3 = 20 := by kernel_rfl
theorem begin_33 : beginV ((3 : Nat) : Int) ((3 : Nat) : Int) [⟨2, 1, 5, true⟩] = 0 := by kernel_rfl
theorem begin_one {W H : Nat} {p : Item} (h1 : 1 ≤ W) (h2 : W ≤ 12) (h3 : 1 ≤ H) (h4 : H ≤ 12) (h5 : 1 ≤ p.w ∧ p.w ≤ 4) (h6 : 1 ≤ p.h ∧ p.h ≤ 4) (h7 : p.value = 1) : beginV W H [p] = 0 := by
  have he : itemsErr [p] = 0 := by
    unfold itemsErr
    rw [if_neg (by simp), if_pos]
    simp only [List.all_cons, List.all_nil, Bool.and_true]
    exact decide_eq_true (by omega)
  unfold beginV
  rw [if_pos (by omega), he]
theorem RetSur.plain {ds : List Int} {fs : List Form} {w w' : World} {e : Ending} (h : RetSur ds fs w e w') (hz : surErr ds fs = 0) : ∃ oa cap, e = .returned (.tuple #[.slice oa ds.length cap, .int .i64 0]) ∧ Below w.heap.size w w' := by
  obtain ⟨hb, h | ⟨_, oa, cap, he, _⟩⟩ := h
  · exact absurd hz h.1
  · refine ⟨oa, cap, ?_, hb⟩
    rw [he, show (surV ds fs).length = ds.length from tab_length _ _]
theorem forms_lit {f : Form} (w : World) (t : TypeId) {oj ou : Option Addr} {nj nu cj cu : Nat} (ej : f.jobs.length = nj) (eu : f.ups.length = nu) (hj : Flat w 1 encInt oj f.jobs) (hu : Flat w 1 encInt ou f.ups) (lj : nj ≤ maxLen) (lu : nu ≤ maxLen)
    (hr : i64ok f.run) (kj : ∀ x ∈ f.jobs, i64ok x) (ku : ∀ x ∈ f.ups, i64ok x) : FormsAt (w.alloc (.cells #[.slice oj nj cj, .slice ou nu cu, .int .i64 f.run] t)) (some ⟨w.heap.size, 0, none⟩) [f] := by
  subst ej eu
  have hb : Below w.heap.size w (w.alloc (.cells #[.slice oj f.jobs.length cj, .slice ou f.ups.length cu, .int .i64 f.run] t)) := balloc (Below.refl _ w) _
  intro i hi
  have h0 : i = 0 := by simp at hi; omega
  subst h0
  refine ⟨w.heap.size, 0, [.slice oj f.jobs.length cj, .slice ou f.ups.length cu, .int .i64 f.run], rfl, rfl, fun j v hv => ?_, oj, cj, ou, cu, rfl, lj, lu, hj.below hb, hu.below hb, hr, kj, ku⟩
  match j, hv with
  | 0, hv => simp at hv; subst hv; go_simp
  | 1, hv => simp at hv; subst hv; go_simp
  | 2, hv => simp at hv; subst hv; go_simp
theorem jl_ok (n : Nat) (h : n ≤ 6) : ∀ x ∈ jl n, i64ok x := by
  intro x hx
  unfold jl at hx
  rw [List.mem_map] at hx
  obtain ⟨i, hi, rfl⟩ := hx
  have := List.mem_range.1 hi
  unfold i64ok
  omega
theorem ups_ok {L : List Int} {r : Int} {n : Nat} (h : ∀ k (hk : k < L.length), 1 ≤ cl L[k] r ∧ cl L[k] r ≤ n) (hn : n ≤ 64) : ∀ x ∈ allotV L r, i64ok x := by
  intro x hx
  unfold allotV at hx
  rw [List.mem_map] at hx
  obtain ⟨d, hd, rfl⟩ := hx
  obtain ⟨k, hk, rfl⟩ := List.mem_iff_getElem.1 hd
  have := h k hk
  unfold i64ok
  omega
/-- The demands. -/
def listV (ds : List Int) (k : Nat) : List Int := (ds.take k).map fun d => mcV d 1 5000
theorem listV_succ {ds : List Int} {k : Nat} (h : k < ds.length) : listV ds (k + 1) = listV ds k ++ [mcV ds[k] 1 5000] := by
  unfold listV
  rw [List.take_succ_eq_append_getElem h, List.map_append]
  rfl
theorem listV_len {ds : List Int} {k : Nat} (h : k ≤ ds.length) : (listV ds k).length = k := by
  unfold listV
  rw [List.length_map, List.length_take]
  omega
theorem listV_demands (ds : List Int) (k : Nat) : Demands (listV ds k) := by
  intro d hd
  unfold listV at hd
  rw [List.mem_map] at hd
  obtain ⟨x, _, rfl⟩ := hd
  have := mcV_bd (x := x) (lo := 1) (hi := 5000) (by omega)
  omega
set_option maxRecDepth 100000 in
set_option maxHeartbeats 4000000 in
theorem topGang_any (W0 H0 : Int) (p : Item) (od : Option Addr) (ds : List Int) (cd : Nat) (w : World) (hcap : ds.length ≤ cd) (hcm : cd ≤ maxLen) (hx : Flat w 1 encInt od ds) :
    Calls Try.prog 3 #[.int .i64 W0, .int .i64 H0, .agg #[.int .i64 p.w, .int .i64 p.h, .int .i64 p.value, .bool p.turn], .slice od ds.length cd] w fun e w' => e = .returned (.bool true) ∧ Below w.heap.size w w' := by
  obtain ⟨pw, ph, pv, pt⟩ := p
  simp only
  obtain ⟨W, hW⟩ : ∃ W : Nat, mcV W0 1 12 = W := ⟨(mcV W0 1 12).toNat, by have := mcV_bd (x := W0) (lo := 1) (hi := 12) (by omega); omega⟩
  obtain ⟨H, hH⟩ : ∃ H : Nat, mcV H0 1 12 = H := ⟨(mcV H0 1 12).toNat, by have := mcV_bd (x := H0) (lo := 1) (hi := 12) (by omega); omega⟩
  have bW := mcV_bd (x := W0) (lo := 1) (hi := 12) (by omega)
  have bH := mcV_bd (x := H0) (lo := 1) (hi := 12) (by omega)
  rw [hW] at bW; rw [hH] at bH
  have HX := Lib.hid hx; clear hx
  have hcm9 : cd ≤ 9223372036854775807 := by unfold maxLen at hcm; omega
  obtain ⟨m, hm1, hm2, hm3⟩ : ∃ m : Nat, (if (6 : Int) < (ds.length : Int) then (6 : Int) else (ds.length : Int)) = (m : Int) ∧ m ≤ ds.length ∧ m ≤ 6 := by
    by_cases h : (6 : Int) < (ds.length : Int)
    · exact ⟨6, by rw [if_pos h]; rfl, by omega, by omega⟩
    · exact ⟨ds.length, by rw [if_neg h], by omega, by omega⟩
  have HM := Lib.hid hm1; clear hm1
  have hmc : m ≤ cd := by omega
  have HW := Lib.hid hW; clear hW
  have HH := Lib.hid hH; clear hH
  have h33 := Lib.hid bval_33
  go_enter Try.func3, Try.ntmps3
  go_wp2_with (first
    | (go_at_call 4; refine (best_ok 3 3 _ [⟨2, 1, 5, true⟩] 1 _ (by decide) (flat_of4 _ (by go_simp) (by go_simp) (by go_simp) (by go_simp)) begin_33).mono ?_; rintro e w1 ⟨hb1, k1, a1, i1, kids1, o1, c1, hk1, rfl, hT1⟩; rw [h33.out])
    | (go_at_call 5; refine (mcut_any _ _ _ _ (by omega) (by omega) (by omega)).mono ?_; rintro e w' ⟨rfl, rfl⟩; (first | rw [HW.out] | rw [HH.out])))
  have m0 : w1.cell? ⟨w.heap.size, 0, none⟩ = some (.int .i64 pw) := keepCell hb1 (by go_simp)
  have m1 : w1.cell? ⟨w.heap.size, 1, none⟩ = some (.int .i64 ph) := keepCell hb1 (by go_simp)
  have m3 : w1.cell? ⟨w.heap.size, 3, none⟩ = some (.bool pt) := keepCell hb1 (by go_simp)
  have m2 : w1.cell? ⟨w.heap.size, 2, none⟩ = some (.int .i64 pv) := keepCell hb1 (by go_simp)
  have mf : ∀ j, w1.frozen? ⟨w.heap.size, j, none⟩ = false := fun j => (hb1.frozen (p := ⟨w.heap.size, j, none⟩) (by simp only [World.size_alloc]; omega)).trans (by go_simp)
  have hlt1 := cell?_lt m0
  have hB1 : Below w.heap.size w w1 := bthen (balloc (balloc (Below.refl _ w) _) _) hb1
  clear hb1 hT1 hk1
  obtain ⟨w2, hw2⟩ : ∃ w2, w2 = w1.alloc (.cells #[.int .i64 k1, .int .i64 a1, .int .i64 i1, .slice o1 kids1.length c1] 27) := ⟨_, rfl⟩
  have n0 : w2.cell? ⟨w.heap.size, 0, none⟩ = some (.int .i64 pw) := by rw [hw2]; go_simp
  have n1 : w2.cell? ⟨w.heap.size, 1, none⟩ = some (.int .i64 ph) := by rw [hw2]; go_simp
  have n2 : w2.cell? ⟨w.heap.size, 2, none⟩ = some (.int .i64 pv) := by rw [hw2]; go_simp
  have n3 : w2.cell? ⟨w.heap.size, 3, none⟩ = some (.bool pt) := by rw [hw2]; go_simp
  have nf : ∀ j, w2.frozen? ⟨w.heap.size, j, none⟩ = false := fun j => by rw [hw2]; have := mf j; go_simp
  have hB2 : Below w.heap.size w w2 := by rw [hw2]; exact balloc hB1 _
  have hlt2 := cell?_lt n0
  rw [← hw2]
  clear m0 m1 m2 m3 mf hlt1 hB1 hw2
  obtain ⟨iw, hiw⟩ : ∃ iw, iw = mcV pw 1 4 := ⟨_, rfl⟩
  obtain ⟨ih, hih⟩ : ∃ ih, ih = mcV ph 1 4 := ⟨_, rfl⟩
  have bw := mcV_bd (x := pw) (lo := 1) (hi := 4) (by omega)
  have bh := mcV_bd (x := ph) (lo := 1) (hi := 4) (by omega)
  rw [← hiw] at bw; rw [← hih] at bh
  have Hiw := Lib.hid hiw
  have Hih := Lib.hid hih
  clear hiw hih
  have hz : beginV W H [⟨iw, ih, 1, pt⟩] = 0 := begin_one (by omega) (by omega) (by omega) (by omega) bw bh rfl
  obtain ⟨s, hs1, hs2, hs3, hs4⟩ := topCut hz rfl
  obtain ⟨n, hn⟩ : ∃ n, n = s.rects.length := ⟨_, rfl⟩
  rw [← hn] at hs2 hs4
  rw [← hs2] at hs3
  have HZ := Lib.hid hz; have HP := Lib.hid hs1; have HN := Lib.hid hs2.symm; have HS := Lib.hid hs3; have Hn := Lib.hid hn.symm
  clear hz hs1 hs2 hs3 hn
  have d0 : w2.drew.cell? ⟨w.heap.size, 0, none⟩ = some (.int .i64 pw) := n0
  have d1 : w2.drew.cell? ⟨w.heap.size, 1, none⟩ = some (.int .i64 ph) := n1
  simp only [World.drew] at d0 d1
  refine wp_region_still_tail 7 (by kernel_rfl) (by kernel_rfl) ?_
  simp only [List.take_succ_cons, List.take_zero, List.drop_succ_cons, List.drop_zero]
  repeat still_step
  still_call ((mcut_any _ _ _ _ (by omega) (by omega) (by omega)).mono fun _ _ h => ⟨h.1, h.2.symm⟩)
  repeat still_step
  still_call ((mcut_any _ _ _ _ (by omega) (by omega) (by omega)).mono fun _ _ h => ⟨h.1, h.2.symm⟩)
  repeat still_step
  refine wpStill_nil ?_
  rw [← Hiw.out, ← Hih.out]
  change wpList _ _ _ _ _ w2.drew
  have e0 : w2.drew.cell? ⟨w.heap.size, 0, none⟩ = some (.int .i64 pw) := n0
  have e1 : w2.drew.cell? ⟨w.heap.size, 1, none⟩ = some (.int .i64 ph) := n1
  have e2 : w2.drew.cell? ⟨w.heap.size, 2, none⟩ = some (.int .i64 pv) := n2
  have e3 : w2.drew.cell? ⟨w.heap.size, 3, none⟩ = some (.bool pt) := n3
  have ef : ∀ j, w2.drew.frozen? ⟨w.heap.size, j, none⟩ = false := nf
  have ef0 := ef 0; have ef1 := ef 1; have ef2 := ef 2
  have hB3 : Below w.heap.size w w2.drew := hB2.drew
  have hlt3 : w.heap.size < w2.drew.heap.size := hlt2
  clear d0 d1 n0 n1 n2 n3 nf ef hB2 hlt2 Hiw Hih
  generalize w2.drew = w3 at *
  have hne : w.heap.size ≠ w3.heap.size := by omega
  have hne' : w3.heap.size ≠ w.heap.size := by omega
  have pr1 := mul_bd W H 12 12 (by omega) (by omega) (by omega) (by omega)
  have pr2 := mul_bd n iw 4096 4 (by omega) (by omega) (by omega) (by omega)
  have pr3 := mul_bd (n * iw) ih 16384 4 (by omega) (by omega) (by omega) (by omega)
  have gp1 : IntKind.i64.wrap ((W : Int) * H) = W * H := IntWalk.i64_in _ (by omega)
  have gp2 : IntKind.i64.wrap ((n : Int) * iw) = n * iw := IntWalk.i64_in _ (by omega)
  have gp3 : IntKind.i64.wrap ((n : Int) * iw * ih) = n * iw * ih := IntWalk.i64_in _ (by omega)
  have gp4 : IntKind.i64.wrap ((W : Int) * H - (n : Int) * iw * ih) = W * H - n * iw * ih := IntWalk.i64_in _ (by omega)
  clear pr1 pr2 pr3
  go_wp2_with (first
    | (go_at_call 4; refine (best_ok W H _ [⟨iw, ih, 1, pt⟩] 1 _ (by simp only [List.length_cons, List.length_nil]; unfold maxLen; omega) (flat_of4 ⟨iw, ih, 1, pt⟩ (by go_simp) (by go_simp) (by go_simp) (by go_simp)) HZ.out).mono ?_; rintro e w4 ⟨hb4, k2, a2, i2, kids2, o2, c2, hk2, rfl, hT2⟩; rw [HN.out]; have z0 : w4.cell? ⟨w.heap.size, 0, none⟩ = some (.int .i64 iw) := keepCell hb4 (by go_simp); have z1 : w4.cell? ⟨w.heap.size, 1, none⟩ = some (.int .i64 ih) := keepCell hb4 (by go_simp); have z2 : w4.cell? ⟨w.heap.size, 2, none⟩ = some (.int .i64 1) := keepCell hb4 (by go_simp); have z3 : w4.cell? ⟨w.heap.size, 3, none⟩ = some (.bool pt) := keepCell hb4 (by go_simp); have hlt4 := cell?_lt z0; have hB4 : Below w.heap.size w w4 := bthen (by go_grown) hb4; have hT2 := Lib.hid hT2; clear hb4 hk2)
    | (go_at_call 6; refine (pieces_any W H _ [⟨iw, ih, 1, pt⟩] 1 _ k2 a2 i2 o2 _ c2 _ (by simp only [List.length_cons, List.length_nil]; unfold maxLen; omega) (flat_of4 ⟨iw, ih, 1, pt⟩ (by go_simp) (by go_simp) (by go_simp) (by go_simp)) (hT2.out.under (balloc (balloc (Below.refl _ w4) _) _))).mono ?_; rintro e w5 ⟨hb5, hP⟩; rw [HP.out] at hP; obtain ⟨o3, c3, rfl, hl3, _⟩ := hP; rw [Hn.out, HS.out]; have y0 : w5.cell? ⟨w.heap.size, 0, none⟩ = some (.int .i64 iw) := keepCell hb5 (by go_simp); have y1 : w5.cell? ⟨w.heap.size, 1, none⟩ = some (.int .i64 ih) := keepCell hb5 (by go_simp); have hB5 : Below w.heap.size w w5 := bthen (by go_grown) hb5; clear hb5 z0 z1 z2 z3)
    | (refine wpList_min2 rfl (.tmp 104) (.const (.int .i64 6)) _ rfl (ds.length : Int) 6 (m : Int) rfl rfl HM.out ?_))

  clear gp1 gp2 gp3 gp4 y0 y1 hne hne' hT2 hlt4 hB4 e0 e1 e2 e3 ef0 ef1 ef2
  go_wp2
  go_loopw [18, 108] (fun l i wr => ∃ k : Nat, k ≤ m ∧ i = .int .i64 k ∧ Own wr w.heap.size 3 1 encInt l (listV ds k) ∧ Below w.heap.size w wr) (fun _ i _ => m - (intOf i).toNat)
  case atStart => exact ⟨0, by omega, rfl, Own.nil _ _ _ _ _, hB5⟩
  case round =>
    obtain ⟨k, hk, rfl, hown, hb⟩ := hrel
    by_cases hlt : k < m
    · have hltd : k < ds.length := by omega
      obtain ⟨b, off, hod, hc1⟩ := (HX.out.below hb).int hltd
      subst hod
      have E2 : Hid (listV ds (k + 1) = listV ds k ++ [mcV ds[k] 1 5000]) := listV_succ hltd
      have hlen : (listV ds k).length ≤ 6 := by rw [listV_len (by omega)]; omega
      go_wp2_with (first | (go_at_call 5; refine (mcut_any _ _ _ _ (by omega) (by omega) (by omega)).mono ?_; rintro e w' ⟨rfl, rfl⟩) | (at_builtin; go_must (refine wpList_app1 rfl (.tmp 112) (.tmp 115) 24 rfl elemInt Try.underlying24 w.heap.size _ _ encInt rfl (hown.alloc _) (mcV ds[k] 1 5000) ⟨wr.heap.size, 0, none⟩ 1 rfl rfl ?c1 ?c2 ?c3 ?c4 ?c5 ?_)))
      case c1 => exact cell_one_new _ _ _
      case c2 => simp [encInt, Value.oneCell']
      case c3 => omega
      case c4 => unfold maxLen; omega
      case c5 => have := hb.size; simp; omega
      intro v' w7 hown3 hg3
      have hb5 := (hown.alloc _).grown (balloc hb _) (Nat.le_refl _) hg3
      rw [← E2.out] at hown3
      clear hg3 hown
      go_wp2
      go_roundw
      case rel => exact ⟨k + 1, by omega, by go_num, hown3, hb5⟩
      case measure => simp [intOf]; omega
    · obtain rfl : k = m := by omega
      have hL : (listV ds k).length = k := listV_len (by omega)
      have hD : Demands (listV ds k) := listV_demands ds k
      obtain ⟨ol, cl', rfl, _, hlm, hfl⟩ := hown.isSlice (fun _ => rfl)
      clear hown
      generalize listV ds k = L at *
      subst hL
      have hfl := Lib.hid hfl
      have hD := Lib.hid hD
      have HB := Lib.hid hb
      clear hb HX HM HZ HP HN HS Hn HW HH h33 bw bh hB3 hlt3 hB5 hl3 hcap hcm hcm9 hm2 hmc
      by_cases hn0 : n = 0
      · subst hn0
        go_wp2
        go_ret
        exact ⟨rfl, HB.out⟩
      · by_cases hn64 : 64 < n
        · go_wp2
          go_ret
          exact ⟨rfl, HB.out⟩
        · by_cases hL0 : L.length = 0
          · go_wp2
            go_ret
            exact ⟨rfl, HB.out⟩
          · have t1 : ((n : Int) == 0) = false := by simp; omega
            have t2 : ((L.length : Int) == 0) = false := by simp only [beq_eq_false_iff_ne, ne_eq]; omega
            have t3 : ¬ (64 : Int) < (n : Int) := by omega
            have t4 : ¬ (n : Int) = 0 := by omega
            have t5 : ¬ (L.length : Int) = 0 := by omega
            have hC : gchk L n = 0 := gchk_ok (by omega) (by omega) hD.out (by omega) (by omega)
            by_cases hfit : n < L.length
            · have hC := Lib.hid hC
              go_wp2_with (go_at_call 7; refine (allot_fit _ _ _ _ _ hlm hfl.out hC.out (by omega)).mono ?_; rintro e w' ⟨rfl, rfl⟩)
              go_ret
              exact ⟨rfl, HB.out⟩
            · obtain ⟨hT1, hT2, hT3⟩ := topPlate (by omega) (by omega) hD.out (by omega) (show (n : Int) ≤ 64 by omega)
              have hN := topNeed hT2
              obtain ⟨r, hr⟩ : ∃ r, r = leastV L n := ⟨_, rfl⟩
              rw [← hr] at hT1 hT2 hT3 hN
              have hr1 := hT2.1
              have hr2 := hT2.2.1
              have HC := Lib.hid hC; have HR := Lib.hid hr.symm; have HT := Lib.hid hT1; have HN := Lib.hid hN
              clear hC hr hT1 hT2 hN
              have hUl : (allotV L r).length = L.length := by unfold allotV; rw [List.length_map]
              have hUg : ∀ i (hi : i < (allotV L r).length), (allotV L r)[i] = cl (L[i]'(by rw [← hUl]; exact hi)) r := fun i hi => by simp [allotV]
              go_upto_region 24 with (go_at_call 7; refine (allot_ok _ _ _ _ _ hlm hfl.out HC.out (by omega)).mono ?_; rintro e w6 ⟨ou, cu, rfl, _, hum, huf, hub⟩; rw [HR.out] at huf; rw [HR.out, hUl])
              have hfl6 : Hid (Flat w6 1 encInt ol L) := hfl.out.below hub
              have huf := Lib.hid huf
              have HB6 := Lib.hid (bthen HB.out hub)
              clear hfl hub t1 t2
              have hu1 : ∀ k (hk : k < L.length), 1 ≤ cl L[k] r ∧ cl L[k] r ≤ n := fun k hk => upTo_bd hD.out hr1 hr2 (List.getElem_mem hk)
              have hu2 : ∀ k, needV (L.take k) r ≤ n ∧ 0 ≤ needV (L.take k) r := fun k => needTo_bd hD.out hr1 hr2 k
              have hu1 := Lib.hid hu1
              have hu2 := Lib.hid hu2
              go_loopw [23, 24, 148] (fun l u i w7 => ∃ k : Nat, k ≤ L.length ∧ i = .int .i64 k ∧ u = .int .i64 (needV (L.take k) r) ∧ Own w7 w6.heap.size 3 1 encInt l (jl k) ∧ Below w6.heap.size w6 w7) (fun _ _ i _ => L.length - (intOf i).toNat)
              case atStart => exact ⟨0, by omega, rfl, rfl, Own.nil _ _ _ _ _, Below.refl _ _⟩
              case round =>
                obtain ⟨k, hk, rfl, rfl, hown, hb⟩ := hrel
                by_cases hlt : k < L.length
                · obtain ⟨b, off, hod, hc1⟩ := (huf.out.below hb).int (i := k) (by rw [hUl]; exact hlt)
                  rw [hUg] at hc1
                  subst hod
                  have E1 : Hid (needV (L.take (k + 1)) r = needV (L.take k) r + cl L[k] r) := needV_take L k hlt r
                  have E2 : Hid (jl (k + 1) = jl k ++ [(k : Int)]) := jl_succ k
                  have v1 := hu1.out k hlt
                  have v2 := hu2.out k
                  have hlen : (jl k).length ≤ 6 := by rw [jl_len]; omega
                  go_wp2_with (at_builtin; go_must (refine wpList_app1 rfl (.tmp 153) (.tmp 155) 24 rfl elemInt Try.underlying24 w6.heap.size _ _ encInt rfl (hown.alloc _) (k : Int) ⟨wr.heap.size, 0, none⟩ 1 rfl rfl ?c1 ?c2 ?c3 ?c4 ?c5 ?_))
                  case c1 => exact cell_one_new _ _ _
                  case c2 => simp [encInt, Value.oneCell']
                  case c3 => omega
                  case c4 => unfold maxLen; omega
                  case c5 => have := hb.size; simp; omega
                  intro v' w8 hown3 hg3
                  have hb5 := (hown.alloc _).grown (balloc hb _) (Nat.le_refl _) hg3
                  rw [← E2.out] at hown3
                  clear hg3 hown
                  go_wp2
                  go_roundw
                  case rel => exact ⟨k + 1, by omega, by go_num, by rw [E1.out], hown3, hb5⟩
                  case measure => simp [intOf]; omega
                · obtain rfl : k = L.length := by omega
                  obtain ⟨oj, cj, rfl, _, hjm, hjf⟩ := hown.isSlice (fun _ => rfl)
                  rw [jl_len] at hjm ⊢
                  have hEn : Hid (needV (L.take L.length) r = needV L r) := by show needV (L.take L.length) r = _; rw [List.take_length]
                  rw [hEn.out]
                  obtain ⟨M, hM⟩ : ∃ M, M = max (r - 1) 1 := ⟨_, rfl⟩
                  have hM0 : (if r - 1 < 1 then 1 else r - 1) = M := by rw [hM]; split <;> omega
                  have hM1 : 1 ≤ M := by omega
                  have hM2 : M ≤ 1048576 := by omega
                  have hN := HN.out
                  rw [← hM] at hN
                  have HM0 := Lib.hid hM0
                  have HB7 := Lib.hid (bthen HB6.out hb)
                  have hfl7 := hfl6.out.below hb
                  have huf7 := huf.out.below hb
                  have hFA := forms_lit (f := ⟨jl L.length, allotV L r, r⟩) wr 41 (cj := cj) (cu := cu) (jl_len L.length) hUl hjf huf7 (by omega) (by omega) (show i64ok r by unfold i64ok; omega) (jl_ok L.length (by omega)) (ups_ok hu1.out (by omega))
                  have hflA := hfl7.below (balloc (Below.refl _ wr) (.cells #[.slice oj L.length cj, .slice ou L.length cu, .int .i64 r] 41))
                  have HFA := Lib.hid hFA
                  have HFL := Lib.hid hflA
                  have hur2 := (hu2.out L.length).1
                  rw [hEn.out] at hur2
                  clear hM hM0 hfl7 huf7 hFA hflA hEn huf hfl6 hu1 hu2 hUl hUg hjf hb
                  rcases hN with hN | hN
                  · have hN1 : (r == 1) = true := by simpa using hN
                    clear hN
                    go_wp2_with (first
                      | (go_at_call 8; refine (sur_any _ _ L [⟨jl L.length, allotV L r, r⟩] _ _ _ hlm HFL.out (by simp only [List.length_cons, List.length_nil]; unfold maxLen; omega) HFA.out).mono ?_; rintro e w8 hS; obtain ⟨ov, cv, rfl, hb8⟩ := hS.plain HT.out; have hfl8 := HFL.out.below hb8; have HB8 := Lib.hid (bthen (balloc HB7.out _) hb8))
                      | (refine wpList_max2 rfl (.tmp 175) (.const (.int .i64 1)) _ rfl (r - 1) 1 M rfl rfl HM0.out ?_)
                      | (go_at_call 9; refine (gneed_ok _ _ _ _ _ _ hlm hfl8 HC.out hM1 hM2).mono ?_; rintro e w' ⟨rfl, rfl⟩))
                    go_ret
                    exact ⟨rfl, HB8.out⟩
                  · have hN1 : (r == 1) = false ∨ (r == 1) = true := by cases (r == 1) <;> simp
                    rcases hN1 with hN1 | hN1
                    all_goals
                      go_wp2_with (first
                        | (go_at_call 8; refine (sur_any _ _ L [⟨jl L.length, allotV L r, r⟩] _ _ _ hlm HFL.out (by simp only [List.length_cons, List.length_nil]; unfold maxLen; omega) HFA.out).mono ?_; rintro e w8 hS; obtain ⟨ov, cv, rfl, hb8⟩ := hS.plain HT.out; have hfl8 := HFL.out.below hb8; have HB8 := Lib.hid (bthen (balloc HB7.out _) hb8))
                        | (refine wpList_max2 rfl (.tmp 175) (.const (.int .i64 1)) _ rfl (r - 1) 1 M rfl rfl HM0.out ?_)
                        | (go_at_call 9; refine (gneed_ok _ _ _ _ _ _ hlm hfl8 HC.out hM1 hM2).mono ?_; rintro e w' ⟨rfl, rfl⟩))
                      go_ret
                      exact ⟨rfl, HB8.out⟩
end Go.Proofs.Ytmfmpmemdplloaa
