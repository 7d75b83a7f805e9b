/-
  The walks of fold's after (behind all folds) and folded. The walk of fold's folded. Own text.
-/
import Derived.Test.YtdblibjmgamjeaaFoldC
namespace Go.Proofs.Ytdblibjmgamjeaa
open Go.RowKit
set_option linter.unusedVariables false
def RetAfter (sc : Sch) (w : World) (e : Ending) (w' : World) : Prop := Below w.heap.size w w' ∧
  ((∃ c : Int, c ≠ 0 ∧ endV sc = none ∧ e = .returned (.tuple #[.agg #[.int .i64 0, .int .i64 0, .slice none 0 0], .int .i64 c])) ∨
   ∃ x oa cap, endV sc = some x ∧ Mid sc x ∧ e = .returned (.tuple #[.agg #[.int .i64 x.cols, .int .i64 x.rows, .slice oa x.piles.length cap], .int .i64 0]) ∧ Rows1 w' 4 encLeaf oa x.piles)
theorem afterRes : Try.f59.results = #[.cell 4 105, .tmp 5] := rfl
set_option maxRecDepth 100000 in
set_option maxHeartbeats 16000000 in
theorem after_any (sc : Sch) (os : Option Addr) (cs : Nat) (w : World) (hf : Flat w 3 encStp os sc.steps) (hm : sc.steps.length ≤ maxLen) (hcs : sc.steps.length ≤ cs) :
    Calls Try.prog 59 #[.agg #[.int .i64 sc.cols, .int .i64 sc.rows, .slice os sc.steps.length cs], .int .i64 sc.steps.length] w (RetAfter sc w) := by
  have HCH : Hid (∀ W, Below w.heap.size w W → Calls Try.prog 19 #[.agg #[.int .i64 sc.cols, .int .i64 sc.rows, .slice os sc.steps.length cs]] W (RetCode (GoodF sc) W)) := fun W hb => fcheck_any sc os cs W (hf.below hb) hm
  have HFLT : Hid (∀ W, SchIn sc → Calls Try.prog 36 #[.agg #[.int .i64 sc.cols, .int .i64 sc.rows, .slice os sc.steps.length cs]] W (RetSht (flatV sc) W)) := fun W hin => flat_any sc ⟨hin.1, hin.2.1⟩ ⟨hin.2.2.1, hin.2.2.2.1⟩ os sc.steps.length cs W
  obtain ⟨m, hmm⟩ : ∃ m, m = sc.steps.length := ⟨_, rfl⟩
  obtain ⟨W1, hW1⟩ : ∃ W1, W1 = (w.alloc (.cells #[.int .i64 sc.cols, .int .i64 sc.rows, .slice os m cs] 24)).alloc (.cells #[.int .i64 0, .int .i64 0, .slice none 0 0] 105) := ⟨_, rfl⟩
  have hb1 : Below w.heap.size w W1 := by rw [hW1]; exact ((Below.refl _ w).alloc (Nat.le_refl _) _).alloc (by simp) _
  have ht1 : FTab (fun v : Value => v) W1 w.heap.size 3 (outF (.int .i64 sc.cols) (.int .i64 sc.rows) (.slice os m cs)) := by rw [hW1]; exact (outF_new w _ _ _ _).alloc (by simp) _
  have ht2 : FTab (fun v : Value => v) W1 (w.heap.size + 1) 3 (outF (.int .i64 0) (.int .i64 0) (.slice none 0 0)) := by
    have h := outF_new (w.alloc (.cells #[.int .i64 sc.cols, .int .i64 sc.rows, .slice os m cs] 24)) (.int .i64 0) (.int .i64 0) (.slice none 0 0) 105
    rw [World.size_alloc] at h
    rw [hW1]; exact h
  have hz1 : W1.heap.size = w.heap.size + 1 + 1 := by rw [hW1, World.size_alloc, World.size_alloc]
  have c0 : W1.cell? ⟨w.heap.size, 0, none⟩ = some (.int .i64 sc.cols) := ht1.at' 0 (by omega)
  have c1 : W1.cell? ⟨w.heap.size, 1, none⟩ = some (.int .i64 sc.rows) := ht1.at' 1 (by omega)
  have c2 : W1.cell? ⟨w.heap.size, 2, none⟩ = some (.slice os m cs) := ht1.at' 2 (by omega)
  have HB1 := Lib.hid hb1
  have HZ1 := Lib.hid hz1
  have HT2 := Lib.hid ht2
  have HM := Lib.hid hmm
  have HF := Lib.hid hf
  rw [← hmm] at hm hcs HCH HFLT ⊢
  have hm9 : m ≤ 9223372036854775807 := by unfold maxLen at hm; omega
  have hm0 : ¬ (m : Int) < 0 := by omega
  have hmi : (m : Int) ≤ (cs : Int) := by omega
  clear hb1 ht1 ht2 hmm hf hm hz1
  go_enter Try.func59, Try.ntmps59
  go_upto_region 1 with fail
  rw [← hW1]
  clear hW1
  have HC1 := Lib.hid (HCH.out W1 HB1.out)
  go_wp2_with fail
  refine HC1.out.mono ?_
  intro e w2 hret
  obtain ⟨code, rfl, hcode, hb2⟩ := hret
  have c0 := keepCell hb2 c0
  have c1 := keepCell hb2 c1
  have c2 := keepCell hb2 c2
  have HB2 := Lib.hid (bthen HB1.out hb2)
  have HT2 := Lib.hid (HT2.out.below hb2 (by rw [HZ1.out]; omega))
  have HZ2 : Hid (w.heap.size + 1 + 1 ≤ w2.heap.size) := by have h1 := hb2.size; rw [HZ1.out] at h1; exact h1
  clear HC1 HCH hb2
  by_cases hc : code = 0
  · have HG := Lib.hid (hcode.1 hc)
    subst hc
    clear hcode
    have hin : SchIn sc := by
      obtain ⟨x, hx⟩ := HG.out
      unfold endV at hx
      by_cases h : SchIn sc
      · exact h
      · rw [if_neg h] at hx; cases hx
    have HIN := Lib.hid hin
    have HFL := Lib.hid (HFLT.out w2 hin)
    have hm8 : m ≤ 8 := by have := hin.2.2.2.2.2; rw [← HM.out] at this; exact this
    clear hin HFLT
    go_wp2_with fail
    refine HFL.out.mono ?_
    intro e w3 hret
    obtain ⟨oa, cap, rfl, hps, hb3⟩ := hret
    obtain ⟨x0, hx0⟩ : ∃ x, x = flatV sc := ⟨_, rfl⟩
    rw [← hx0] at hps ⊢
    have c2 := keepCell hb3 c2
    obtain ⟨W4, hW4⟩ : ∃ W4, W4 = w3.alloc (.cells #[.int .i64 x0.cols, .int .i64 x0.rows, .slice oa x0.piles.length cap] 105) := ⟨_, rfl⟩
    have hb4 : Below w3.heap.size w3 W4 := by rw [hW4]; exact balloc (Below.refl _ w3) _
    have ht4 : FTab (fun v : Value => v) W4 w3.heap.size 3 (outF (.int .i64 x0.cols) (.int .i64 x0.rows) (.slice oa x0.piles.length cap)) := by rw [hW4]; exact outF_new w3 _ _ _ _
    have hz4 : W4.heap.size = w3.heap.size + 1 := by rw [hW4, World.size_alloc]
    have c2 := keepCell hb4 c2
    have hmid : Mid sc x0 := by rw [hx0]; exact Mid.flat HIN.out
    have HCK : Hid (Ck (w.heap.size + 1 + 1) W4 w3.heap.size W4 sc 0 x0 oa cap) := by
      refine ⟨Below.refl _ _, ht4, (hps.near (Nat.le_refl _) HZ2.out ?_).below hb4, by rw [List.take_zero, hx0]; rfl, hmid, by omega⟩
      obtain ⟨h1, h2, h3⟩ := hmid.k.wf
      rw [h1]
      exact Nat.mul_pos h3 h2
    have HBW : Hid (Below w.heap.size w W4) := (bthen HB2.out hb3).trans (hb4.mono (by have h1 := hb3.size; have h2 := HB2.out.size; omega))
    have HT4 : Hid (FTab (fun v : Value => v) W4 (w.heap.size + 1) 3 (outF (.int .i64 0) (.int .i64 0) (.slice none 0 0))) := (HT2.out.below hb3 (by have := HZ2.out; omega)).below hb4 (by have := HZ2.out; have := hb3.size; omega)
    obtain ⟨b, hb⟩ : ∃ b, b = w3.heap.size := ⟨_, rfl⟩
    rw [← hb] at HCK
    have HW4 : Hid (w3.alloc (.cells #[.int .i64 x0.cols, .int .i64 x0.rows, .slice oa x0.piles.length cap] 105) = W4) := hW4.symm
    have HBB := Lib.hid hb
    have HLW : Hid (w.heap.size + 1 < b ∧ W4.heap.size = b + 1) := ⟨by have h1 := hb3.size; have := HZ2.out; omega, by omega⟩
    clear hb3 hb4 ht4 hz4 hW4 hmid hps c0 c1 HFL hx0 HT2
    go_upto_region 7 with fail
    rw [HW4.out, ← HBB.out]
    clear HW4 HBB hb
    go_wp2_with fail
    go_loopw [33] (fun i wr => ∃ k : Nat, k ≤ m ∧ i = .int .i64 k ∧ Hid (∃ x oa cap, Ck (w.heap.size + 1 + 1) W4 b wr sc k x oa cap)) (fun i _ => m - (intOf i).toNat)
    case atStart => exact ⟨0, by omega, rfl, _, _, _, HCK.out⟩
    case round =>
      clear HCK c2
      obtain ⟨k, hk, rfl, HX⟩ := hrel
      obtain ⟨wa, rfl⟩ : ∃ wa : World, wa = wr := ⟨_, rfl⟩
      obtain ⟨x, ox, cx, hx⟩ := HX.out
      have HX := Lib.hid hx
      clear hx
      have HBA : Hid (Below w.heap.size w wa) := HBW.out.trans (HX.out.bel.mono (by have := HLW.out; omega))
      by_cases hlt : k < m
      · have kd : (k : Int) < (m : Int) := by omega
        have hks : k < sc.steps.length := by rw [← HM.out]; exact hlt
        obtain ⟨sb, soff, rfl, s0, s1, s2⟩ := (HF.out.below HBA.out).stp hks
        obtain ⟨f, hf⟩ : ∃ f, f = sc.steps[k] := ⟨_, rfl⟩
        rw [← hf] at s0 s1 s2
        have HFF := Lib.hid hf
        obtain ⟨fs, fl, fo⟩ := f
        simp only at s0 s1 s2
        clear hf
        have HST : Hid (StepOk x ⟨fs, fl, fo⟩) := by
          by_cases h : StepOk x ⟨fs, fl, fo⟩
          · exact h
          · exfalso
            obtain ⟨y, hy⟩ := HG.out
            unfold endV at hy
            rw [if_pos HIN.out, runF_stop hks HX.out.run (by rw [← HFF.out]; exact h)] at hy
            cases hy
        obtain ⟨W5, hW5⟩ : ∃ W5, W5 = wa.alloc (.cells #[.int .i64 fs, .int .i64 fl, .bool fo] 108) := ⟨_, rfl⟩
        have hb5 : Below wa.heap.size wa W5 := by rw [hW5]; exact balloc (Below.refl _ wa) _
        have ht5 : FTab (fun v : Value => v) W5 wa.heap.size 3 (outF (.int .i64 fs) (.int .i64 fl) (.bool fo)) := by rw [hW5]; exact outF_new wa _ _ _ _
        have a0 : W5.cell? ⟨wa.heap.size, 0, none⟩ = some (.int .i64 fs) := ht5.at' 0 (by omega)
        have a1 : W5.cell? ⟨wa.heap.size, 1, none⟩ = some (.int .i64 fl) := ht5.at' 1 (by omega)
        have a2 : W5.cell? ⟨wa.heap.size, 2, none⟩ = some (.bool fo) := ht5.at' 2 (by omega)
        have HX5 := Lib.hid (HX.out.below hb5)
        have b0 : W5.cell? ⟨b, 0, none⟩ = some (.int .i64 x.cols) := HX5.out.tab.at' 0 (by omega)
        have b1 : W5.cell? ⟨b, 1, none⟩ = some (.int .i64 x.rows) := HX5.out.tab.at' 1 (by omega)
        have b2 : W5.cell? ⟨b, 2, none⟩ = some (.slice ox x.piles.length cx) := HX5.out.tab.at' 2 (by omega)
        have HFO := Lib.hid (fold_any sc x ⟨fs, fl, fo⟩ HX5.out.mid HST.out ox cx W5 HX5.out.ps.rows1)
        go_upto_region 10 with fail
        rw [← hW5]
        clear s0 s1 s2 ht5 hb5 hW5
        go_wp2_with fail
        refine HFO.out.mono ?_
        intro e w8 hret
        obtain ⟨oy, cy, rfl, hpy, hb8⟩ := hret
        obtain ⟨y, hy⟩ : ∃ y, y = foldV x ⟨fs, fl, fo⟩ := ⟨_, rfl⟩
        rw [← hy] at hpy ⊢
        have HS : Hid (Ck (w.heap.size + 1 + 1) W4 b (resW w8 b (.int .i64 y.cols) (.int .i64 y.rows) (.slice oy y.piles.length cy)) sc (k + 1) y oy cy) := HX5.out.step hb8 hks (by rw [← HFF.out]; exact HST.out) (by rw [← HFF.out]; exact hy) hpy (by have h1 := HX5.out.lt; have h2 := HLW.out; omega)
        have hx8 := (HX5.out.below hb8).tab
        have b0 : w8.cell? ⟨b, 0, none⟩ = some (.int .i64 x.cols) := hx8.at' 0 (by omega)
        have b1 : w8.cell? ⟨b, 1, none⟩ = some (.int .i64 x.rows) := hx8.at' 1 (by omega)
        have b2 : w8.cell? ⟨b, 2, none⟩ = some (.slice ox x.piles.length cx) := hx8.at' 2 (by omega)
        have bf := hx8.fz
        clear hx8 hpy hb8 hy HFO
        go_wp2_with fail
        go_roundw
        case rel => exact ⟨k + 1, by omega, by go_num, y, oy, cy, HS.out⟩
        case measure => simp [intOf]; omega
      · obtain rfl : m = k := by omega
        have hr2 : FTab (fun v : Value => v) wa (w.heap.size + 1) 3 (outF (.int .i64 0) (.int .i64 0) (.slice none 0 0)) := HT4.out.below HX.out.bel HLW.out.1
        have hrs := res_set (x := .int .i64 x.cols) (y := .int .i64 x.rows) (z := .slice ox x.piles.length cx) hr2
        have HR : Hid (RetAfter sc w (.returned (.tuple #[.agg #[.int .i64 x.cols, .int .i64 x.rows, .slice ox x.piles.length cx], .int .i64 0])) (resW wa (w.heap.size + 1) (.int .i64 x.cols) (.int .i64 x.rows) (.slice ox x.piles.length cx))) := by
          refine ⟨hrs.bel HBA.out (by omega), .inr ⟨x, ox, cx, ?_, HX.out.mid, rfl, ?_⟩⟩
          · unfold endV
            rw [if_pos HIN.out]
            have h := HX.out.run
            rw [HM.out, List.take_length] at h
            exact h
          · exact (HX.out.ps.heap (by rw [hrs.sz]; exact Nat.le_refl _) fun g _ hg => hrs.hp g (by omega)).rows1
        have z0 : wa.cell? ⟨b, 0, none⟩ = some (.int .i64 x.cols) := HX.out.tab.at' 0 (by omega)
        have z1 : wa.cell? ⟨b, 1, none⟩ = some (.int .i64 x.rows) := HX.out.tab.at' 1 (by omega)
        have z2 : wa.cell? ⟨b, 2, none⟩ = some (.slice ox x.piles.length cx) := HX.out.tab.at' 2 (by omega)
        have r0 : wa.cell? ⟨w.heap.size + 1, 0, none⟩ = some (.int .i64 0) := hr2.at' 0 (by omega)
        have r1 : wa.cell? ⟨w.heap.size + 1, 1, none⟩ = some (.int .i64 0) := hr2.at' 1 (by omega)
        have r2 : wa.cell? ⟨w.heap.size + 1, 2, none⟩ = some (.slice none 0 0) := hr2.at' 2 (by omega)
        have rf := hr2.fz
        have HRS := Lib.hid hrs
        clear hr2 hrs
        repeat (first | go_values | go_skip | go_guarded | go_step | go_upon)
        obtain ⟨W9, hW9⟩ : ∃ W9, W9 = resW wa (w.heap.size + 1) (.int .i64 x.cols) (.int .i64 x.rows) (.slice ox x.piles.length cx) := ⟨_, rfl⟩
        rw [← hW9] at HR HRS
        unfold resW at hW9
        rw [← hW9]
        have e0 := HRS.out.c0
        have e1 := HRS.out.c1
        have e2 := HRS.out.c2
        clear hW9
        refine bodyPost_ret (v := .tuple #[.agg #[.int .i64 x.cols, .int .i64 x.rows, .slice ox x.piles.length cx], .int .i64 0]) (by simp only [results, afterRes]; go_simp) rfl ?_
        exact HR.out
  · have hne : (code != 0) = true := by simpa using hc
    have hnone : endV sc = none := by
      cases he : endV sc with
      | none => rfl
      | some x => exact absurd (hcode.2 ⟨x, he⟩) hc
    have hrs := res_set (x := .int .i64 0) (y := .int .i64 0) (z := .slice none 0 0) HT2.out
    have HR : Hid (RetAfter sc w (.returned (.tuple #[.agg #[.int .i64 0, .int .i64 0, .slice none 0 0], .int .i64 code])) (resW w2 (w.heap.size + 1) (.int .i64 0) (.int .i64 0) (.slice none 0 0))) :=
      ⟨hrs.bel HB2.out (by omega), .inl ⟨code, hc, hnone, rfl⟩⟩
    have r0 : w2.cell? ⟨w.heap.size + 1, 0, none⟩ = some (.int .i64 0) := HT2.out.at' 0 (by omega)
    have r1 : w2.cell? ⟨w.heap.size + 1, 1, none⟩ = some (.int .i64 0) := HT2.out.at' 1 (by omega)
    have r2 : w2.cell? ⟨w.heap.size + 1, 2, none⟩ = some (.slice none 0 0) := HT2.out.at' 2 (by omega)
    have rf := HT2.out.fz
    have HRS := Lib.hid hrs
    clear hcode hc hnone hrs HFLT
    go_upto_region 2 with fail
    repeat (first | go_values | go_skip | go_guarded | go_step | go_upon)
    obtain ⟨W9, hW9⟩ : ∃ W9, W9 = resW w2 (w.heap.size + 1) (.int .i64 0) (.int .i64 0) (.slice none 0 0) := ⟨_, rfl⟩
    rw [← hW9] at HR HRS
    unfold resW at hW9
    rw [← hW9]
    have e0 := HRS.out.c0
    have e1 := HRS.out.c1
    have e2 := HRS.out.c2
    clear hW9
    refine bodyPost_ret (v := .tuple #[.agg #[.int .i64 0, .int .i64 0, .slice none 0 0], .int .i64 code]) (by simp only [results, afterRes]; go_simp) rfl ?_
    exact HR.out
end Go.Proofs.Ytdblibjmgamjeaa
namespace Go.Proofs.Ytdblibjmgamjeaa
open Go.RowKit
set_option linter.unusedVariables false
def RetFolded (sc : Sch) (w : World) (e : Ending) (w' : World) : Prop := Below w.heap.size w w' ∧
  ((∃ c : Int, c ≠ 0 ∧ (¬ ∃ x, Folded sc x) ∧ e = .returned (.tuple #[.slice none 0 0, .int .i64 0, .int .i64 c])) ∨
   ∃ x oa cap, Folded sc x ∧ e = .returned (.tuple #[.slice oa (lastP x).length cap, .int .i64 (sideV sc), .int .i64 0]) ∧ Flat w' 4 encLeaf oa (lastP x))
theorem Folded.endV {sc : Sch} {x : Sht} (h : Folded sc x) : endV sc = some x := by unfold Go.Proofs.Ytdblibjmgamjeaa.endV; rw [if_pos h.inn]; exact h.run
theorem folded_of {sc : Sch} {x : Sht} (h : endV sc = some x) (hc : x.cols = 1) (hr : x.rows = 1) : Folded sc x := by
  unfold endV at h
  split at h
  · rename_i hin
    exact ⟨hin, h, hc, hr⟩
  · cases h
theorem last_get {x : Sht} (hw : WfS x) (hc : x.cols = 1) (hr : x.rows = 1) : ∃ h : 0 < x.piles.length, lastP x = x.piles[0] := by
  have h1 : x.piles.length = 1 := by rw [hw.1, hc, hr]
  refine ⟨by omega, ?_⟩
  unfold lastP
  have h2 := pile_at (s := x) (c := 0) (r := 0) (by omega) (by omega)
  rw [show (0 : Int) = ((0 : Nat) : Int) from rfl, h2, List.getD_eq_getElem?_getD, List.getElem?_eq_getElem (by omega)]
  simp
set_option maxRecDepth 100000 in
set_option maxHeartbeats 16000000 in
theorem folded_any (sc : Sch) (os : Option Addr) (cs : Nat) (w : World) (hf : Flat w 3 encStp os sc.steps) (hm : sc.steps.length ≤ maxLen) (hcs : sc.steps.length ≤ cs) :
    Calls Try.prog 39 #[.agg #[.int .i64 sc.cols, .int .i64 sc.rows, .slice os sc.steps.length cs]] w (RetFolded sc w) := by
  have HAF : Hid (∀ W, Below w.heap.size w W → Calls Try.prog 59 #[.agg #[.int .i64 sc.cols, .int .i64 sc.rows, .slice os sc.steps.length cs], .int .i64 sc.steps.length] W (RetAfter sc W)) := fun W hb => after_any sc os cs W (hf.below hb) hm hcs
  obtain ⟨m, hmm⟩ : ∃ m, m = sc.steps.length := ⟨_, rfl⟩
  obtain ⟨W1, hW1⟩ : ∃ W1, W1 = w.alloc (.cells #[.int .i64 sc.cols, .int .i64 sc.rows, .slice os m cs] 24) := ⟨_, rfl⟩
  have hb1 : Below w.heap.size w W1 := by rw [hW1]; exact balloc (Below.refl _ w) _
  have ht1 : FTab (fun v : Value => v) W1 w.heap.size 3 (outF (.int .i64 sc.cols) (.int .i64 sc.rows) (.slice os m cs)) := by rw [hW1]; exact outF_new w _ _ _ _
  have c0 : W1.cell? ⟨w.heap.size, 0, none⟩ = some (.int .i64 sc.cols) := ht1.at' 0 (by omega)
  have c1 : W1.cell? ⟨w.heap.size, 1, none⟩ = some (.int .i64 sc.rows) := ht1.at' 1 (by omega)
  have c2 : W1.cell? ⟨w.heap.size, 2, none⟩ = some (.slice os m cs) := ht1.at' 2 (by omega)
  have HB1 := Lib.hid hb1
  have HM := Lib.hid hmm
  have HF := Lib.hid hf
  rw [← hmm] at hm hcs HAF ⊢
  have hm9 : (m : Int) ≤ 9223372036854775807 := by unfold maxLen at hm; omega
  clear hb1 ht1 hmm hf hm
  go_enter Try.func39, Try.ntmps39
  go_upto_region 1 with fail
  rw [← hW1]
  clear hW1
  have HA1 := Lib.hid (HAF.out W1 HB1.out)
  go_wp2_with fail
  refine HA1.out.mono ?_
  intro e w2 hret
  obtain ⟨hb2, (⟨c, hc, hno, rfl⟩ | ⟨x, oa, cap, hx, hmid, rfl, hrows⟩)⟩ := hret
  · have hne : (c != 0) = true := by simpa using hc
    have HR : Hid (RetFolded sc w (.returned (.tuple #[.slice none 0 0, .int .i64 0, .int .i64 c])) (w2.alloc (.cells #[.int .i64 0, .int .i64 0, .slice none 0 0] 105))) :=
      ⟨bthen HB1.out (bthen hb2 (balloc (Below.refl _ w2) _)), .inl ⟨c, hc, fun ⟨x, h⟩ => (by rw [h.endV] at hno; cases hno), rfl⟩⟩
    clear hc hno hb2 HAF HA1
    go_wp2_with fail
    go_ret3
    exact HR.out
  · obtain ⟨W3, hW3⟩ : ∃ W3, W3 = w2.alloc (.cells #[.int .i64 x.cols, .int .i64 x.rows, .slice oa x.piles.length cap] 105) := ⟨_, rfl⟩
    have hb3 : Below w2.heap.size w2 W3 := by rw [hW3]; exact balloc (Below.refl _ w2) _
    have ht3 : FTab (fun v : Value => v) W3 w2.heap.size 3 (outF (.int .i64 x.cols) (.int .i64 x.rows) (.slice oa x.piles.length cap)) := by rw [hW3]; exact outF_new w2 _ _ _ _
    have b0 : W3.cell? ⟨w2.heap.size, 0, none⟩ = some (.int .i64 x.cols) := ht3.at' 0 (by omega)
    have b1 : W3.cell? ⟨w2.heap.size, 1, none⟩ = some (.int .i64 x.rows) := ht3.at' 1 (by omega)
    have b2 : W3.cell? ⟨w2.heap.size, 2, none⟩ = some (.slice oa x.piles.length cap) := ht3.at' 2 (by omega)
    have HBW := Lib.hid (bthen HB1.out (bthen hb2 hb3))
    have c2 := keepCell hb3 (keepCell hb2 c2)
    have HROW := Lib.hid (hrows.below hb3)
    have HX := Lib.hid hx
    have HMID := Lib.hid hmid
    clear hb2 hb3 ht3 hrows hx hmid HAF HA1 c0 c1
    go_upto_region 2 with fail
    rw [← hW3]
    clear hW3
    by_cases k1 : x.cols = 1
    · by_cases k2 : x.rows = 1
      · have hfo := folded_of HX.out k1 k2
        obtain ⟨h0, hl⟩ := last_get HMID.out.k.wf k1 k2
        obtain ⟨pb, poff, v, rfl, hcell, o', c', rfl, -, -, hfl⟩ := HROW.out 0 h0
        rw [← hl] at hcell hfl
        have t1 : ((x.cols : Int) != 1) = false := by rw [k1]; rfl
        have t2 : ((x.rows : Int) != 1) = false := by rw [k2]; rfl
        have HN : Hid (x.piles.length = 1) := by show _ = _; rw [HMID.out.k.wf.1, k1, k2]
        have HSD : Hid (∀ (h : 0 < m), sideV sc = (sc.steps[m - 1]'(by rw [← HM.out]; omega)).side) := fun h => by
          unfold sideV
          have e : sc.steps.length - 1 = m - 1 := by rw [← HM.out]
          rw [List.getLast?_eq_getElem?, e, List.getElem?_eq_getElem (by rw [← HM.out]; omega)]
        have HFO := Lib.hid hfo
        have HFL := Lib.hid hfl
        have n1 : (0 : Int) < (x.piles.length : Int) := by omega
        obtain ⟨N, hN⟩ : ∃ N, N = x.piles.length := ⟨_, rfl⟩
        rw [← hN] at b2 n1
        simp only [Nat.add_zero] at hcell
        clear k1 k2 hl hfo hfl h0 hN
        by_cases hm0 : 0 < m
        · obtain ⟨M, hMM⟩ : ∃ M, m = M + 1 := ⟨m - 1, by omega⟩
          have hs := HF.out.below HBW.out
          obtain ⟨sb, soff, rfl, s0, s1, s2⟩ := hs.stp (i := m - 1) (by rw [← HM.out]; omega)
          rw [← HSD.out hm0] at s0
          have x1 : IntKind.i64.wrap ((m : Int) - 1) = (m : Int) - 1 := IntWalk.i64_in _ (by omega)
          have y0 : (0 : Int) < (m : Int) := by omega
          have y1 : (0 : Int) ≤ (m : Int) - 1 := by omega
          have y2 : ((m : Int) - 1).toNat = m - 1 := by omega
          have HR : Hid (RetFolded sc w (.returned (.tuple #[.slice o' (lastP x).length c', .int .i64 (sideV sc), .int .i64 0])) W3) := ⟨HBW.out, .inr ⟨x, o', c', HFO.out, rfl, HFL.out⟩⟩
          clear hMM hs s1 s2
          generalize sideV sc = sd at *
          generalize (lastP x).length = L at *
          go_wp2_with fail
          go_ret3
          exact HR.out
        · have hsd : sideV sc = 0 := by
            unfold sideV
            have h : sc.steps = [] := List.eq_nil_of_length_eq_zero (by rw [← HM.out]; omega)
            rw [h]; rfl
          obtain rfl : m = 0 := by omega
          have HR : Hid (RetFolded sc w (.returned (.tuple #[.slice o' (lastP x).length c', .int .i64 0, .int .i64 0])) W3) := ⟨HBW.out, .inr ⟨x, o', c', HFO.out, by rw [hsd], HFL.out⟩⟩
          clear hsd
          generalize (lastP x).length = L at *
          go_wp2_with fail
          go_ret3
          exact HR.out
      · have t1 : ((x.cols : Int) != 1) = false := by rw [k1]; rfl
        have t2 : ((x.rows : Int) != 1) = true := by rw [bne_iff_ne]; omega
        have HR : Hid (RetFolded sc w (.returned (.tuple #[.slice none 0 0, .int .i64 0, .int .i64 9])) W3) := ⟨HBW.out, .inl ⟨9, by decide, fun ⟨y, h⟩ => (by have h1 := h.endV; rw [HX.out] at h1; cases h1; exact k2 h.r1), rfl⟩⟩
        clear k1 k2
        go_wp2_with fail
        go_ret3
        exact HR.out
    · have t1 : ((x.cols : Int) != 1) = true := by rw [bne_iff_ne]; omega
      have HR : Hid (RetFolded sc w (.returned (.tuple #[.slice none 0 0, .int .i64 0, .int .i64 9])) W3) := ⟨HBW.out, .inl ⟨9, by decide, fun ⟨y, h⟩ => (by have h1 := h.endV; rw [HX.out] at h1; cases h1; exact k1 h.c1), rfl⟩⟩
      clear k1
      go_wp2_with fail
      go_ret3
      exact HR.out
end Go.Proofs.Ytdblibjmgamjeaa
