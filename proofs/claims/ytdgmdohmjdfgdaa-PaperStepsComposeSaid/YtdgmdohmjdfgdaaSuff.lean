/-
  The walk of PaperNeedSuffices. Own text.
-/
import Derived.Test.YtdgmdohmjdfgdaaKeep
namespace Go.Proofs.Ytdgmdohmjdfgdaa
open Go.RowKit
set_option linter.unusedVariables false
theorem papersK_lit : chk [((10 : Int), (100 : Int))] = 0 ∧ yieldV [((10 : Int), (100 : Int))] 30 = 18 := by decide
set_option maxHeartbeats 400000 in
theorem papersK_any (w : World) : Calls Try.prog 19 #[] w fun e w' => e = .returned (.bool true) ∧ Below w.heap.size w w' := by
  have E := Lib.hid papersK_lit.2
  go_enter Try.func19, Try.ntmps19
  go_wp2_with fail
  refine (yield_ok (some ⟨w.heap.size, 0, none⟩) [((10 : Int), (100 : Int))] 1 30 _ (by decide) (Flat.lit1 w 2 encInt2 (10, 100) 36 rfl) papersK_lit.1 (by omega) (by omega)).mono ?_
  rintro e w' ⟨rfl, hb⟩
  rw [E.out]
  go_wp2
  go_ret
  exact ⟨rfl, balloc_lt _ _ hb⟩
theorem stepV_ok (s : Int × Int) : 0 ≤ (stepV s).1 ∧ (stepV s).1 ≤ 1000 ∧ 0 ≤ (stepV s).2 ∧ (stepV s).2 ≤ 999 := by
  have h1 := wi_bd s.1 0 1000 (by omega)
  have h2 := wi_bd s.2 0 999 (by omega)
  unfold stepV
  omega
theorem stepsV_good (xs : List (Int × Int)) : GoodSteps (stepsV xs) := by
  intro x hx
  obtain ⟨s, _, rfl⟩ := List.mem_map.1 hx
  have := stepV_ok s
  omega
theorem stepsV_len (xs : List (Int × Int)) : (stepsV xs).length ≤ 8 := by
  unfold stepsV
  rw [List.length_map, List.length_take]
  omega
theorem chk_good {ys : List (Int × Int)} (h : GoodSteps ys) (hl : ys.length ≤ 16) : chk ys = 0 := by
  unfold chk
  rw [if_neg (by omega), if_pos]
  rw [List.all_eq_true]
  intro x hx
  have := h x hx
  unfold stepOk
  exact decide_eq_true (by omega)
theorem suff_none (oa : Option Addr) (xs : List (Int × Int)) (cap : Nat) (g m : Int) (w : World) (hm : xs.length ≤ maxLen) (hx : Flat w 2 encInt2 oa xs) (hb64 : ∀ x ∈ xs, i64ok x.1 ∧ i64ok x.2)
    (hE : needR (stepsV xs) (wi g 0 5000) = (0, 10)) :
    Calls Try.prog 6 #[.slice oa xs.length cap, .int .i64 g, .int .i64 m] w fun e w' => e = .returned (.bool true) ∧ Below w.heap.size w w' := by
  have hg := wi_bd g 0 5000 (by omega)
  have HC := Lib.hid (chk_good (stepsV_good xs) (by have := stepsV_len xs; omega))
  go_enter Try.func6, Try.ntmps6
  go_wp2_with fail
  refine (papersK_any _).mono ?_
  rintro e w1 ⟨rfl, hb1⟩
  go_wp2_with fail
  refine (steps_any _ _ _ _ hm (hx.below hb1) hb64).mono ?_
  rintro e w2 ⟨oay, capy, rfl, hmy, hfy, hb2, _⟩
  have hb3 := bthen hb1 hb2
  go_wp2_with fail
  refine (within_any _ _ _ _ (by omega) (by omega) (by omega)).mono ?_
  rintro e w' ⟨rfl, rfl⟩
  go_wp2_with fail
  refine (within_any _ _ _ _ (by omega) (by omega) (by omega)).mono ?_
  rintro e w' ⟨rfl, rfl⟩
  go_wp2_with fail
  refine (need_ok _ _ _ _ _ hmy hfy HC.out hg.1 (by omega)).mono ?_
  rintro e w3 ⟨rfl, hb4⟩
  have hb5 := bthen hb3 hb4
  rw [hE]
  go_wp2
  go_ret
  exact ⟨rfl, hb5⟩
set_option maxHeartbeats 2000000 in
theorem suff_some (oa : Option Addr) (xs : List (Int × Int)) (cap : Nat) (g m n : Int) (w : World) (hm : xs.length ≤ maxLen) (hx : Flat w 2 encInt2 oa xs) (hb64 : ∀ x ∈ xs, i64ok x.1 ∧ i64ok x.2)
    (hN : needL (stepsV xs) (wi g 0 5000) = some n) :
    Calls Try.prog 6 #[.slice oa xs.length cap, .int .i64 g, .int .i64 m] w fun e w' => e = .returned (.bool true) ∧ Below w.heap.size w w' := by
  have hg := wi_bd g 0 5000 (by omega)
  have hmm := wi_bd m 0 5000 (by omega)
  have HG := Lib.hid (stepsV_good xs)
  have HC := Lib.hid (chk_good (stepsV_good xs) (by have := stepsV_len xs; omega))
  have HE : Hid (needR (stepsV xs) (wi g 0 5000) = (n, 0)) := by unfold needR; rw [hN]; rfl
  obtain ⟨hn0, hiff⟩ := need_iff HG.out hg.1 hN
  have hn1 := need_most (by omega) hN
  have hy1 := (hiff n hn0).2 (Int.le_refl _)
  have hy2 := yield_mono HG.out hn0 (show n ≤ n + wi m 0 5000 by omega)
  have hy2' := yield_mono HG.out hn0 hn1
  have hy3 : 1 ≤ n → yieldV (stepsV xs) (n - 1) < wi g 0 5000 := by
    intro h
    have := hiff (n - 1) (by omega)
    omega
  have hy4 : n = 0 → wi g 0 5000 = 0 := by
    intro h
    have := (yield_bd HG.out hn0).2
    omega
  clear hiff hN
  by_cases hlt : n + wi m 0 5000 < 1073741824
  all_goals
    by_cases hz : n = 0
    · have HG0 := Lib.hid (hy4 hz)
      clear hy3 hy4
      have hz1 : (n == 0) = true := by simpa using hz
      have hz2 : (wi g 0 5000 == 0) = true := by simpa using HG0.out
      clear hz
      go_enter Try.func6, Try.ntmps6
      go_wp2_with fail
      refine (papersK_any _).mono ?_
      rintro e w1 ⟨rfl, hb1⟩
      go_wp2_with fail
      refine (steps_any _ _ _ _ hm (hx.below hb1) hb64).mono ?_
      rintro e w2 ⟨oay, capy, rfl, hmy, hfy, hb2, _⟩
      have hb3 := bthen hb1 hb2
      go_wp2_with fail
      refine (within_any _ _ _ _ (by omega) (by omega) (by omega)).mono ?_
      rintro e w' ⟨rfl, rfl⟩
      go_wp2_with fail
      refine (within_any _ _ _ _ (by omega) (by omega) (by omega)).mono ?_
      rintro e w' ⟨rfl, rfl⟩
      go_wp2_with fail
      refine (need_ok _ _ _ _ _ hmy hfy HC.out hg.1 (by omega)).mono ?_
      rintro e w3 ⟨rfl, hb4⟩
      have hb5 := bthen hb3 hb4
      rw [HE.out]
      go_wp2_with fail
      refine (yield_ok _ _ _ _ _ hmy (hfy.below hb4) HC.out hn0 hn1).mono ?_
      rintro e w4 ⟨rfl, hb6⟩
      have hb7 := bthen hb5 hb6
      go_wp2_with fail
      refine (yield_ok _ _ _ _ _ hmy ((hfy.below hb4).below hb6) HC.out (by omega) (by omega)).mono ?_
      rintro e w5 ⟨rfl, hb8⟩
      have hb9 := bthen hb7 hb8
      go_wp2_with fail
      go_ret
      exact ⟨rfl, hb9⟩
    · have hz0 : 1 ≤ n := by omega
      have hy5 := hy3 hz0
      clear hy3 hy4
      have hz1 : (n == 0) = false := by simpa using hz
      clear hz
      go_enter Try.func6, Try.ntmps6
      go_wp2_with fail
      refine (papersK_any _).mono ?_
      rintro e w1 ⟨rfl, hb1⟩
      go_wp2_with fail
      refine (steps_any _ _ _ _ hm (hx.below hb1) hb64).mono ?_
      rintro e w2 ⟨oay, capy, rfl, hmy, hfy, hb2, _⟩
      have hb3 := bthen hb1 hb2
      go_wp2_with fail
      refine (within_any _ _ _ _ (by omega) (by omega) (by omega)).mono ?_
      rintro e w' ⟨rfl, rfl⟩
      go_wp2_with fail
      refine (within_any _ _ _ _ (by omega) (by omega) (by omega)).mono ?_
      rintro e w' ⟨rfl, rfl⟩
      go_wp2_with fail
      refine (need_ok _ _ _ _ _ hmy hfy HC.out hg.1 (by omega)).mono ?_
      rintro e w3 ⟨rfl, hb4⟩
      have hb5 := bthen hb3 hb4
      rw [HE.out]
      go_wp2_with fail
      refine (yield_ok _ _ _ _ _ hmy (hfy.below hb4) HC.out hn0 hn1).mono ?_
      rintro e w4 ⟨rfl, hb6⟩
      have hb7 := bthen hb5 hb6
      go_wp2_with fail
      refine (yield_ok _ _ _ _ _ hmy ((hfy.below hb4).below hb6) HC.out (by omega) (by omega)).mono ?_
      rintro e w5 ⟨rfl, hb8⟩
      have hb9 := bthen hb7 hb8
      go_wp2_with fail
      refine (yield_ok _ _ _ _ _ hmy (((hfy.below hb4).below hb6).below hb8) HC.out (by omega) (by omega)).mono ?_
      rintro e w6 ⟨rfl, hb10⟩
      have hb11 := bthen hb9 hb10
      go_wp2_with fail
      go_ret
      exact ⟨rfl, hb11⟩
theorem suff_law (v : Value) {w : World} (hv : StepsArg w v) (g : Int) (_hg : i64ok g) (m : Int) (_hm : i64ok m) :
    Calls Try.prog 6 #[v, .int .i64 g, .int .i64 m] w fun e w' => e = .returned (.bool true) ∧ Below w.heap.size w w' := by
  obtain ⟨xs, oa, cap, rfl, hm, hx, hb⟩ := hv
  cases hN : needL (stepsV xs) (wi g 0 5000) with
  | none => exact suff_none oa xs cap g m w hm hx hb (by unfold needR; rw [hN])
  | some n => exact suff_some oa xs cap g m n w hm hx hb hN
end Go.Proofs.Ytdgmdohmjdfgdaa
