/-
  The walk of mCut. The walk of mSmall. Own text.
-/
import Derived.Test.YtdblibjmgamjeaaBase
import Derived.Test.YtdblibjmgamjeaaFoldA
import Derived.Test.YtdblibjmgamjeaaPlc
import Derived.StillTailTactics
namespace Go.Proofs.Ytdblibjmgamjeaa
open Go.RowKit
set_option linter.unusedVariables false
/-- A number brought into the range. -/
def mcV (x lo hi : Int) : Int := lo + x % 18446744073709551616 % (hi - lo + 1)
theorem mcV_bd {x lo hi : Int} (h : lo ≤ hi) : lo ≤ mcV x lo hi ∧ mcV x lo hi ≤ hi := by
  unfold mcV
  have h1 := Int.emod_nonneg (x % 18446744073709551616) (show hi - lo + 1 ≠ 0 by omega)
  have h2 := Int.emod_lt_of_pos (x % 18446744073709551616) (show 0 < hi - lo + 1 by omega)
  omega
set_option maxHeartbeats 1000000 in
theorem mcut_any (x lo hi : Int) (w : World) (h0 : 0 ≤ lo) (h1 : lo ≤ hi) (h2 : hi ≤ 5000) :
    Calls Try.prog 8 #[.int .i64 x, .int .i64 lo, .int .i64 hi] w fun e w' => e = .returned (.int .i64 (mcV x lo hi)) ∧ w = w' := by
  have hu : IntKind.u64.wrap x = x % 18446744073709551616 := rfl
  have ht : (IntKind.u64.wrap x).tmod (hi - lo + 1) = x % 18446744073709551616 % (hi - lo + 1) := by rw [hu]; exact Int.tmod_eq_emod_of_nonneg (Int.emod_nonneg _ (by omega))
  have a1 := Int.emod_nonneg (x % 18446744073709551616) (show hi - lo + 1 ≠ 0 by omega)
  have a2 := Int.emod_lt_of_pos (x % 18446744073709551616) (show 0 < hi - lo + 1 by omega)
  have hw : wrap64 (lo + wrap64 ((IntKind.u64.wrap x).tmod (hi - lo + 1))) = mcV x lo hi := by
    rw [ht, IntWalk.wrap64_in (_ % _ % _) (by omega), IntWalk.wrap64_in _ (by omega)]; rfl
  have E := Lib.hid hw
  clear hw ht hu a1 a2
  go_enter Try.func8, Try.ntmps8
  go_wp2
  go_ret
  exact ⟨by rw [← E.out]; rfl, rfl⟩
end Go.Proofs.Ytdblibjmgamjeaa
namespace Go.Proofs.Ytdblibjmgamjeaa
open Go.RowKit
set_option linter.unusedVariables false
/-- A layout reduced to small pages. -/
def smallV (l : Lay) : Lay := { l with w := mcV l.w 1 5, h := mcV l.h 1 5, head := mcV l.head 0 2, fore := mcV l.fore 0 2, margin := mcV l.margin 0 3, spine := mcV l.spine 0 12 }
theorem smallRes : Try.f6.results = #[.cell 2 26] := rfl
theorem mcut_still (x lo hi : Int) (h0 : 0 ≤ lo) (h1 : lo ≤ hi) (h2 : hi ≤ 5000) (w : World) :
    Calls Try.prog 8 #[.int .i64 x, .int .i64 lo, .int .i64 hi] w fun e w' => e = .returned (.int .i64 (mcV x lo hi)) ∧ w' = w :=
  (mcut_any x lo hi w h0 h1 h2).mono fun e w' ⟨a, b⟩ => ⟨a, b.symm⟩
/-- Eleven cells are written. -/
def setLay (W : World) (t : Nat) (f : Nat → Value) : World :=
  ((((((((((W.setCell ⟨t, 0, none⟩ (f 0)).setCell ⟨t, 1, none⟩ (f 1)).setCell ⟨t, 2, none⟩ (f 2)).setCell ⟨t, 3, none⟩ (f 3)).setCell ⟨t, 4, none⟩ (f 4)).setCell ⟨t, 5, none⟩ (f 5)).setCell ⟨t, 6, none⟩ (f 6)).setCell ⟨t, 7, none⟩ (f 7)).setCell ⟨t, 8, none⟩ (f 8)).setCell ⟨t, 9, none⟩ (f 9)).setCell ⟨t, 10, none⟩ (f 10)
theorem setLay_at {W : World} {t : Nat} {f0 : Nat → Value} (h : FTab (fun v : Value => v) W t 11 f0) (f : Nat → Value) :
    FTab (fun v : Value => v) (setLay W t f) t 11 f ∧ ∀ {B : Nat} {w : World}, Below B w W → B ≤ t → Below B w (setLay W t f) := by
  refine ⟨?_, fun hb hl => ?_⟩
  · have t0 := h.set (i := 0) (by omega) (f 0)
    have t1 := t0.set (i := 1) (by omega) (f 1)
    have t2 := t1.set (i := 2) (by omega) (f 2)
    have t3 := t2.set (i := 3) (by omega) (f 3)
    have t4 := t3.set (i := 4) (by omega) (f 4)
    have t5 := t4.set (i := 5) (by omega) (f 5)
    have t6 := t5.set (i := 6) (by omega) (f 6)
    have t7 := t6.set (i := 7) (by omega) (f 7)
    have t8 := t7.set (i := 8) (by omega) (f 8)
    have t9 := t8.set (i := 9) (by omega) (f 9)
    have t10 := t9.set (i := 10) (by omega) (f 10)
    exact t10.congr fun i hi => match i, hi with
      | 0, _ => rfl
      | 1, _ => rfl
      | 2, _ => rfl
      | 3, _ => rfl
      | 4, _ => rfl
      | 5, _ => rfl
      | 6, _ => rfl
      | 7, _ => rfl
      | 8, _ => rfl
      | 9, _ => rfl
      | 10, _ => rfl
  · unfold setLay
    exact (((((((((((hb.setCell (p := ⟨t, 0, none⟩) hl _).setCell (p := ⟨t, 1, none⟩) hl _).setCell (p := ⟨t, 2, none⟩) hl _).setCell (p := ⟨t, 3, none⟩) hl _).setCell (p := ⟨t, 4, none⟩) hl _).setCell (p := ⟨t, 5, none⟩) hl _).setCell (p := ⟨t, 6, none⟩) hl _).setCell (p := ⟨t, 7, none⟩) hl _).setCell (p := ⟨t, 8, none⟩) hl _).setCell (p := ⟨t, 9, none⟩) hl _).setCell (p := ⟨t, 10, none⟩) hl _)
theorem layF_congr {a b : Nat → Value} (h0 : a 0 = b 0) (h1 : a 1 = b 1) (h2 : a 2 = b 2) (h3 : a 3 = b 3) (h4 : a 4 = b 4) (h5 : a 5 = b 5) (h6 : a 6 = b 6) (h7 : a 7 = b 7) (h8 : a 8 = b 8) (h9 : a 9 = b 9) (h10 : a 10 = b 10) : ∀ i, i < 11 → a i = b i := fun i hi => match i, hi with
  | 0, _ => h0
  | 1, _ => h1
  | 2, _ => h2
  | 3, _ => h3
  | 4, _ => h4
  | 5, _ => h5
  | 6, _ => h6
  | 7, _ => h7
  | 8, _ => h8
  | 9, _ => h9
  | 10, _ => h10
def lay0 : Lay := ⟨⟨0, 0, []⟩, 0, 0, 0, 0, 0, 0, 0, 0⟩
set_option maxRecDepth 100000 in
set_option maxHeartbeats 16000000 in
theorem small_any (l : Lay) (os : Option Addr) (n cs : Nat) (w : World) :
    Calls Try.prog 6 #[layV l os n cs] w fun e w' => e = .returned (layV (smallV l) os n cs) ∧ Below w.heap.size w w' := by
  obtain ⟨⟨kc, kr, st⟩, lw, lh, hd, fr, sp, mg, cp, sy⟩ := l
  have HC3 : Hid (∀ W, Calls Try.prog 8 #[.int .i64 lw, .int .i64 1, .int .i64 5] W fun e w' => e = .returned (.int .i64 (mcV lw 1 5)) ∧ w' = W) := fun W => mcut_still lw 1 5 (by omega) (by omega) (by omega) W
  have HC4 : Hid (∀ W, Calls Try.prog 8 #[.int .i64 lh, .int .i64 1, .int .i64 5] W fun e w' => e = .returned (.int .i64 (mcV lh 1 5)) ∧ w' = W) := fun W => mcut_still lh 1 5 (by omega) (by omega) (by omega) W
  have HC5 : Hid (∀ W, Calls Try.prog 8 #[.int .i64 hd, .int .i64 0, .int .i64 2] W fun e w' => e = .returned (.int .i64 (mcV hd 0 2)) ∧ w' = W) := fun W => mcut_still hd 0 2 (by omega) (by omega) (by omega) W
  have HC6 : Hid (∀ W, Calls Try.prog 8 #[.int .i64 fr, .int .i64 0, .int .i64 2] W fun e w' => e = .returned (.int .i64 (mcV fr 0 2)) ∧ w' = W) := fun W => mcut_still fr 0 2 (by omega) (by omega) (by omega) W
  have HC8 : Hid (∀ W, Calls Try.prog 8 #[.int .i64 mg, .int .i64 0, .int .i64 3] W fun e w' => e = .returned (.int .i64 (mcV mg 0 3)) ∧ w' = W) := fun W => mcut_still mg 0 3 (by omega) (by omega) (by omega) W
  have HC7 : Hid (∀ W, Calls Try.prog 8 #[.int .i64 sp, .int .i64 0, .int .i64 12] W fun e w' => e = .returned (.int .i64 (mcV sp 0 12)) ∧ w' = W) := fun W => mcut_still sp 0 12 (by omega) (by omega) (by omega) W
  have HSM : Hid (smallV ⟨⟨kc, kr, st⟩, lw, lh, hd, fr, sp, mg, cp, sy⟩ = ⟨⟨kc, kr, st⟩, mcV lw 1 5, mcV lh 1 5, mcV hd 0 2, mcV fr 0 2, mcV sp 0 12, mcV mg 0 3, cp, sy⟩) := rfl
  generalize mcV lw 1 5 = x3 at *
  generalize mcV lh 1 5 = x4 at *
  generalize mcV hd 0 2 = x5 at *
  generalize mcV fr 0 2 = x6 at *
  generalize mcV mg 0 3 = x8 at *
  generalize mcV sp 0 12 = x7 at *
  obtain ⟨W1, hW1⟩ : ∃ W1, W1 = (w.alloc (layO ⟨⟨kc, kr, st⟩, lw, lh, hd, fr, sp, mg, cp, sy⟩ os n cs)).alloc (layO lay0 none 0 0) := ⟨_, rfl⟩
  have hb1 : Below w.heap.size w W1 := by rw [hW1]; exact balloc (balloc (Below.refl _ w) _) _
  have hz1 : W1.heap.size = w.heap.size + 1 + 1 := by rw [hW1]; simp
  have ht1 : FTab (fun v : Value => v) W1 w.heap.size 11 (layF ⟨⟨kc, kr, st⟩, lw, lh, hd, fr, sp, mg, cp, sy⟩ os n cs) := by rw [hW1]; exact (layF_new w ⟨⟨kc, kr, st⟩, lw, lh, hd, fr, sp, mg, cp, sy⟩ os n cs _).alloc (by simp) _
  have ht2 : FTab (fun v : Value => v) W1 (w.heap.size + 1) 11 (layF lay0 none 0 0) := by
    have h := layF_new (w.alloc (layO ⟨⟨kc, kr, st⟩, lw, lh, hd, fr, sp, mg, cp, sy⟩ os n cs)) lay0 none 0 0 26
    rw [World.size_alloc] at h
    rw [hW1]; exact h
  obtain ⟨W2, hW2⟩ : ∃ W2, W2 = W1.drew := ⟨_, rfl⟩
  have ht1' : FTab (fun v : Value => v) W2 w.heap.size 11 (layF ⟨⟨kc, kr, st⟩, lw, lh, hd, fr, sp, mg, cp, sy⟩ os n cs) := by rw [hW2]; exact ht1.drew
  have ht2' : FTab (fun v : Value => v) W2 (w.heap.size + 1) 11 (layF lay0 none 0 0) := by rw [hW2]; exact ht2.drew
  have hb2 : Below w.heap.size w W2 := by rw [hW2]; exact hb1.drew
  have HW1 : Hid ((w.alloc (layO ⟨⟨kc, kr, st⟩, lw, lh, hd, fr, sp, mg, cp, sy⟩ os n cs)).alloc (layO lay0 none 0 0) = W1) := hW1.symm
  unfold layO lay0 at HW1
  dsimp only at HW1
  have d3 : W1.cell? ⟨w.heap.size, 3, none⟩ = some (.int .i64 lw) := ht1.at' 3 (by omega)
  have d4 : W1.cell? ⟨w.heap.size, 4, none⟩ = some (.int .i64 lh) := ht1.at' 4 (by omega)
  have e3 : W2.cell? ⟨w.heap.size, 3, none⟩ = some (.int .i64 lw) := ht1'.at' 3 (by omega)
  have e4 : W2.cell? ⟨w.heap.size, 4, none⟩ = some (.int .i64 lh) := ht1'.at' 4 (by omega)
  have ef := ht1'.fz
  obtain ⟨W3, hW3⟩ : ∃ W3, W3 = (W2.setCell ⟨w.heap.size, 3, none⟩ (.int .i64 x3)).setCell ⟨w.heap.size, 4, none⟩ (.int .i64 x4) := ⟨_, rfl⟩
  have ht3 : FTab (fun v : Value => v) W3 w.heap.size 11 (layF ⟨⟨kc, kr, st⟩, x3, x4, hd, fr, sp, mg, cp, sy⟩ os n cs) := by
    rw [hW3]
    exact ((ht1'.set (i := 3) (by omega) (.int .i64 x3)).set (i := 4) (by omega) (.int .i64 x4)).congr (layF_congr rfl rfl rfl rfl rfl rfl rfl rfl rfl rfl rfl)
  have ht3r : FTab (fun v : Value => v) W3 (w.heap.size + 1) 11 (layF lay0 none 0 0) := by
    rw [hW3]
    exact (ht2'.other (b := w.heap.size) (by omega) _).other (b := w.heap.size) (by omega) _
  have hb3 : Below w.heap.size w W3 := by rw [hW3]; exact (hb2.setCell (p := ⟨w.heap.size, 3, none⟩) (Nat.le_refl _) _).setCell (p := ⟨w.heap.size, 4, none⟩) (Nat.le_refl _) _
  obtain ⟨W4, hW4⟩ : ∃ W4, W4 = W3.drew := ⟨_, rfl⟩
  have ht4 : FTab (fun v : Value => v) W4 w.heap.size 11 (layF ⟨⟨kc, kr, st⟩, x3, x4, hd, fr, sp, mg, cp, sy⟩ os n cs) := by rw [hW4]; exact ht3.drew
  have ht4r : FTab (fun v : Value => v) W4 (w.heap.size + 1) 11 (layF lay0 none 0 0) := by rw [hW4]; exact ht3r.drew
  have hb4 : Below w.heap.size w W4 := by rw [hW4]; exact hb3.drew
  obtain ⟨W5, hW5⟩ : ∃ W5, W5 = (((W4.setCell ⟨w.heap.size, 5, none⟩ (.int .i64 x5)).setCell ⟨w.heap.size, 6, none⟩ (.int .i64 x6)).setCell ⟨w.heap.size, 8, none⟩ (.int .i64 x8)).setCell ⟨w.heap.size, 7, none⟩ (.int .i64 x7) := ⟨_, rfl⟩
  have ht5 : FTab (fun v : Value => v) W5 w.heap.size 11 (layF ⟨⟨kc, kr, st⟩, x3, x4, x5, x6, x7, x8, cp, sy⟩ os n cs) := by
    rw [hW5]
    exact ((((ht4.set (i := 5) (by omega) (.int .i64 x5)).set (i := 6) (by omega) (.int .i64 x6)).set (i := 8) (by omega) (.int .i64 x8)).set (i := 7) (by omega) (.int .i64 x7)).congr (layF_congr rfl rfl rfl rfl rfl rfl rfl rfl rfl rfl rfl)
  have ht5r : FTab (fun v : Value => v) W5 (w.heap.size + 1) 11 (layF lay0 none 0 0) := by
    rw [hW5]
    exact (((ht4r.other (b := w.heap.size) (by omega) _).other (b := w.heap.size) (by omega) _).other (b := w.heap.size) (by omega) _).other (b := w.heap.size) (by omega) _
  have hb5 : Below w.heap.size w W5 := by
    rw [hW5]
    exact (((hb4.setCell (p := ⟨w.heap.size, 5, none⟩) (Nat.le_refl _) _).setCell (p := ⟨w.heap.size, 6, none⟩) (Nat.le_refl _) _).setCell (p := ⟨w.heap.size, 8, none⟩) (Nat.le_refl _) _).setCell (p := ⟨w.heap.size, 7, none⟩) (Nat.le_refl _) _
  have HW2 := Lib.hid hW2
  have HW3 := Lib.hid hW3
  have HW4 := Lib.hid hW4
  have HW5 := Lib.hid hW5
  have HT3 := Lib.hid ht3
  have HT4 := Lib.hid ht4
  have HT5 := Lib.hid ht5
  have HT5R := Lib.hid ht5r
  have HB5 := Lib.hid hb5
  clear hW1 hb1 hz1 ht1 ht2 hW2 ht1' ht2' hb2 hW3 ht3 ht3r hb3 hW4 ht4 ht4r hb4 hW5 ht5 ht5r hb5
  go_enter Try.func6, Try.ntmps6
  go_upto_region 1 with fail
  rw [HW1.out]
  clear HW1
  refine wp_region_still_tail 7 (by kernel_rfl) (by kernel_rfl) ?_
  simp only [List.take_succ_cons, List.take_zero, List.drop_succ_cons, List.drop_zero]
  repeat (first | still_step | (refine wpStill_step (fun K hK => ?_); go_simp; (first | (with_reducible refine ⟨_, HC3.out _, hK _ ?_⟩) | (with_reducible refine ⟨_, HC4.out _, hK _ ?_⟩)); clear hK K))
  refine wpStill_nil ?_
  change wpList _ _ _ _ _ W1.drew
  rw [← HW2.out]
  clear d3 d4 HW2
  go_upto_region 2 with fail
  rw [← HW3.out]
  clear HW3 e3 e4 ef
  have d5 : W3.cell? ⟨w.heap.size, 5, none⟩ = some (.int .i64 hd) := HT3.out.at' 5 (by omega)
  have d6 : W3.cell? ⟨w.heap.size, 6, none⟩ = some (.int .i64 fr) := HT3.out.at' 6 (by omega)
  have d8 : W3.cell? ⟨w.heap.size, 8, none⟩ = some (.int .i64 mg) := HT3.out.at' 8 (by omega)
  have d7 : W3.cell? ⟨w.heap.size, 7, none⟩ = some (.int .i64 sp) := HT3.out.at' 7 (by omega)
  refine wp_region_still_tail 13 (by kernel_rfl) (by kernel_rfl) ?_
  simp only [List.take_succ_cons, List.take_zero, List.drop_succ_cons, List.drop_zero]
  repeat (first | still_step | (refine wpStill_step (fun K hK => ?_); go_simp; (first | (with_reducible refine ⟨_, HC5.out _, hK _ ?_⟩) | (with_reducible refine ⟨_, HC6.out _, hK _ ?_⟩) | (with_reducible refine ⟨_, HC8.out _, hK _ ?_⟩) | (with_reducible refine ⟨_, HC7.out _, hK _ ?_⟩)); clear hK K))
  refine wpStill_nil ?_
  change wpList _ _ _ _ _ W3.drew
  rw [← HW4.out]
  clear d5 d6 d7 d8 HW4
  have e5 : W4.cell? ⟨w.heap.size, 5, none⟩ = some (.int .i64 hd) := HT4.out.at' 5 (by omega)
  have e6 : W4.cell? ⟨w.heap.size, 6, none⟩ = some (.int .i64 fr) := HT4.out.at' 6 (by omega)
  have e8 : W4.cell? ⟨w.heap.size, 8, none⟩ = some (.int .i64 mg) := HT4.out.at' 8 (by omega)
  have e7 : W4.cell? ⟨w.heap.size, 7, none⟩ = some (.int .i64 sp) := HT4.out.at' 7 (by omega)
  have ef := HT4.out.fz
  go_upto_region 3 with fail
  rw [← HW5.out]
  clear HW5 e5 e6 e7 e8 ef
  have c0 : W5.cell? ⟨w.heap.size, 0, none⟩ = some (.int .i64 kc) := HT5.out.at' 0 (by omega)
  have c1 : W5.cell? ⟨w.heap.size, 1, none⟩ = some (.int .i64 kr) := HT5.out.at' 1 (by omega)
  have c2 : W5.cell? ⟨w.heap.size, 2, none⟩ = some (.slice os n cs) := HT5.out.at' 2 (by omega)
  have c3 : W5.cell? ⟨w.heap.size, 3, none⟩ = some (.int .i64 x3) := HT5.out.at' 3 (by omega)
  have c4 : W5.cell? ⟨w.heap.size, 4, none⟩ = some (.int .i64 x4) := HT5.out.at' 4 (by omega)
  have c5 : W5.cell? ⟨w.heap.size, 5, none⟩ = some (.int .i64 x5) := HT5.out.at' 5 (by omega)
  have c6 : W5.cell? ⟨w.heap.size, 6, none⟩ = some (.int .i64 x6) := HT5.out.at' 6 (by omega)
  have c7 : W5.cell? ⟨w.heap.size, 7, none⟩ = some (.int .i64 x7) := HT5.out.at' 7 (by omega)
  have c8 : W5.cell? ⟨w.heap.size, 8, none⟩ = some (.int .i64 x8) := HT5.out.at' 8 (by omega)
  have c9 : W5.cell? ⟨w.heap.size, 9, none⟩ = some (.int .i64 cp) := HT5.out.at' 9 (by omega)
  have c10 : W5.cell? ⟨w.heap.size, 10, none⟩ = some (.int .i64 sy) := HT5.out.at' 10 (by omega)
  have r0 : W5.cell? ⟨w.heap.size + 1, 0, none⟩ = some (.int .i64 0) := HT5R.out.at' 0 (by omega)
  have r1 : W5.cell? ⟨w.heap.size + 1, 1, none⟩ = some (.int .i64 0) := HT5R.out.at' 1 (by omega)
  have r2 : W5.cell? ⟨w.heap.size + 1, 2, none⟩ = some (.slice none 0 0) := HT5R.out.at' 2 (by omega)
  have r3 : W5.cell? ⟨w.heap.size + 1, 3, none⟩ = some (.int .i64 0) := HT5R.out.at' 3 (by omega)
  have r4 : W5.cell? ⟨w.heap.size + 1, 4, none⟩ = some (.int .i64 0) := HT5R.out.at' 4 (by omega)
  have r5 : W5.cell? ⟨w.heap.size + 1, 5, none⟩ = some (.int .i64 0) := HT5R.out.at' 5 (by omega)
  have r6 : W5.cell? ⟨w.heap.size + 1, 6, none⟩ = some (.int .i64 0) := HT5R.out.at' 6 (by omega)
  have r7 : W5.cell? ⟨w.heap.size + 1, 7, none⟩ = some (.int .i64 0) := HT5R.out.at' 7 (by omega)
  have r8 : W5.cell? ⟨w.heap.size + 1, 8, none⟩ = some (.int .i64 0) := HT5R.out.at' 8 (by omega)
  have r9 : W5.cell? ⟨w.heap.size + 1, 9, none⟩ = some (.int .i64 0) := HT5R.out.at' 9 (by omega)
  have r10 : W5.cell? ⟨w.heap.size + 1, 10, none⟩ = some (.int .i64 0) := HT5R.out.at' 10 (by omega)
  have rf := HT5R.out.fz
  have hR := setLay_at HT5R.out (layF ⟨⟨kc, kr, st⟩, x3, x4, x5, x6, x7, x8, cp, sy⟩ os n cs)
  have HR := Lib.hid hR.1
  have HF : Hid (Below w.heap.size w (setLay W5 (w.heap.size + 1) (layF ⟨⟨kc, kr, st⟩, x3, x4, x5, x6, x7, x8, cp, sy⟩ os n cs))) := hR.2 HB5.out (by omega)
  clear hR
  repeat (first | go_values | go_skip | go_guarded | go_step | go_upon)
  obtain ⟨W9, hW9⟩ : ∃ W9, W9 = setLay W5 (w.heap.size + 1) (layF ⟨⟨kc, kr, st⟩, x3, x4, x5, x6, x7, x8, cp, sy⟩ os n cs) := ⟨_, rfl⟩
  rw [← hW9] at HF HR
  unfold setLay at hW9
  simp only [layF] at hW9
  rw [← hW9]
  have e0 : W9.cell? ⟨w.heap.size + 1, 0, none⟩ = some (.int .i64 kc) := HR.out.at' 0 (by omega)
  have e1 : W9.cell? ⟨w.heap.size + 1, 1, none⟩ = some (.int .i64 kr) := HR.out.at' 1 (by omega)
  have e2 : W9.cell? ⟨w.heap.size + 1, 2, none⟩ = some (.slice os n cs) := HR.out.at' 2 (by omega)
  have e3 : W9.cell? ⟨w.heap.size + 1, 3, none⟩ = some (.int .i64 x3) := HR.out.at' 3 (by omega)
  have e4 : W9.cell? ⟨w.heap.size + 1, 4, none⟩ = some (.int .i64 x4) := HR.out.at' 4 (by omega)
  have e5 : W9.cell? ⟨w.heap.size + 1, 5, none⟩ = some (.int .i64 x5) := HR.out.at' 5 (by omega)
  have e6 : W9.cell? ⟨w.heap.size + 1, 6, none⟩ = some (.int .i64 x6) := HR.out.at' 6 (by omega)
  have e7 : W9.cell? ⟨w.heap.size + 1, 7, none⟩ = some (.int .i64 x7) := HR.out.at' 7 (by omega)
  have e8 : W9.cell? ⟨w.heap.size + 1, 8, none⟩ = some (.int .i64 x8) := HR.out.at' 8 (by omega)
  have e9 : W9.cell? ⟨w.heap.size + 1, 9, none⟩ = some (.int .i64 cp) := HR.out.at' 9 (by omega)
  have e10 : W9.cell? ⟨w.heap.size + 1, 10, none⟩ = some (.int .i64 sy) := HR.out.at' 10 (by omega)
  clear hW9
  refine bodyPost_ret (v := layV ⟨⟨kc, kr, st⟩, x3, x4, x5, x6, x7, x8, cp, sy⟩ os n cs) (by simp only [results, smallRes]; go_simp) rfl ?_
  exact ⟨by rw [HSM.out], HF.out⟩
end Go.Proofs.Ytdblibjmgamjeaa
