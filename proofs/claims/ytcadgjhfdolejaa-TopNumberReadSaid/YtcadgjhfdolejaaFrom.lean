/-
  The walk of bitmap.from, for whatever closure. Own text.
-/
import Derived.Test.YtcadgjhfdolejaaBitW
namespace Go.Proofs.Ytcadgjhfdolejaa
open Go.RowKit
set_option linter.unusedVariables false
/-- The bits that f sets in the rows above y, and in row y left of x. -/
def fromP (W H : Nat) (f : Plane) (X Y : Nat) : Plane := fun x y => insideV W H x y && (decide (y < Y) || (decide (y = Y) && decide (x < X))) && f x y
/-- All bits that f sets inside. -/
def cutP (W H : Nat) (f : Plane) : Plane := fun x y => insideV W H x y && f x y
theorem bool_ext {a b : Bool} (h : a = true ↔ b = true) : a = b := by cases a <;> cases b <;> simp_all
theorem fromP_zero (W H : Nat) (f : Plane) : fromP W H f 0 0 = noneP := by
  funext x y
  refine bool_ext ⟨fun h => ?_, fun h => by cases h⟩
  simp only [fromP, insideV, Bool.and_eq_true, Bool.or_eq_true, decide_eq_true_eq] at h
  omega
theorem fromP_row (W H : Nat) (f : Plane) (Y : Nat) : fromP W H f W Y = fromP W H f 0 (Y + 1) := by
  funext x y
  refine bool_ext ?_
  simp only [fromP, insideV, Bool.and_eq_true, Bool.or_eq_true, decide_eq_true_eq]
  constructor
  · rintro ⟨⟨h1, h2⟩, h3⟩
    exact ⟨⟨h1, by omega⟩, h3⟩
  · rintro ⟨⟨h1, h2⟩, h3⟩
    exact ⟨⟨h1, by omega⟩, h3⟩
theorem fromP_all (W H : Nat) (f : Plane) : fromP W H f 0 H = cutP W H f := by
  funext x y
  refine bool_ext ?_
  simp only [fromP, cutP, insideV, Bool.and_eq_true, Bool.or_eq_true, decide_eq_true_eq]
  constructor
  · rintro ⟨⟨h1, h2⟩, h3⟩
    exact ⟨h1, h3⟩
  · rintro ⟨h1, h3⟩
    exact ⟨⟨h1, by omega⟩, h3⟩
theorem fromP_yes {W H X Y : Nat} {f : Plane} (hX : X < W) (hY : Y < H) (hf : f X Y = true) : fromP W H f (X + 1) Y = markP (fromP W H f X Y) X Y := by
  funext x y
  refine bool_ext ?_
  simp only [fromP, markP, insideV, Bool.and_eq_true, Bool.or_eq_true, decide_eq_true_eq]
  constructor
  · rintro ⟨⟨h1, h2⟩, h3⟩
    by_cases h : x = X ∧ y = Y
    · exact .inr h
    · exact .inl ⟨⟨h1, by omega⟩, h3⟩
  · rintro (⟨⟨h1, h2⟩, h3⟩ | ⟨rfl, rfl⟩)
    · exact ⟨⟨h1, by omega⟩, h3⟩
    · exact ⟨⟨by omega, by omega⟩, hf⟩
theorem fromP_no {W H X Y : Nat} {f : Plane} (hX : X < W) (hY : Y < H) (hf : f X Y = false) : fromP W H f (X + 1) Y = fromP W H f X Y := by
  funext x y
  refine bool_ext ?_
  simp only [fromP, insideV, Bool.and_eq_true, Bool.or_eq_true, decide_eq_true_eq]
  constructor
  · rintro ⟨⟨h1, h2⟩, h3⟩
    by_cases h : x = X ∧ y = Y
    · obtain ⟨rfl, rfl⟩ := h
      rw [hf] at h3; cases h3
    · exact ⟨⟨h1, by omega⟩, h3⟩
  · rintro ⟨⟨h1, h2⟩, h3⟩
    exact ⟨⟨h1, by omega⟩, h3⟩
/-- The bitmap under way: its cells in g, its bytes in d, the result's block r. -/
structure FrU (w : World) (g r d c W H : Nat) (wr : World) (p : Plane) : Prop where
  bel : Below w.heap.size w wr
  tab : T3 wr g (.int .i64 W) (.int .i64 H) (.slice (some ⟨d, 0, none⟩) (strV W * H) c)
  res : T3 wr r (.int .i64 0) (.int .i64 0) (.slice none 0 0)
  dat : Dat wr d W H p
  lt : w.heap.size ≤ r ∧ r < d ∧ d < g ∧ g < wr.heap.size ∧ strV W * H ≤ c
theorem FrU.at' {w wr : World} {g r d c W H : Nat} {p : Plane} (h : FrU w g r d c W H wr p) : BitsAt wr g d c W H p := ⟨h.tab.c0, h.tab.c1, h.tab.c2, h.dat⟩
theorem FrU.below {w wr w' : World} {g r d c W H : Nat} {p : Plane} (h : FrU w g r d c W H wr p) (hb : Below wr.heap.size wr w') : FrU w g r d c W H w' p := by
  obtain ⟨l1, l2, l3, l4, l5⟩ := h.lt
  exact ⟨h.bel.trans (hb.mono h.bel.size), h.tab.below hb, h.res.below hb, h.dat.below hb (by omega), l1, l2, l3, Nat.lt_of_lt_of_le l4 hb.size, l5⟩
theorem FrU.mark {w wr w' : World} {g r d c W H : Nat} {p p' : Plane} (h : FrU w g r d c W H wr p) (hm : BitsAt w' g d c W H p') (ho : Only d wr w') : FrU w g r d c W H w' p' := by
  obtain ⟨l1, l2, l3, l4, l5⟩ := h.lt
  exact ⟨ho.bel h.bel (by omega), h.tab.heap (ho.hp g (by omega)), h.res.heap (ho.hp r (by omega)), hm.dat, l1, l2, l3, by rw [ho.sz]; exact l4, l5⟩
theorem fromRes : Try.f37.results = #[.cell 6 29] := rfl
set_option maxRecDepth 100000 in
set_option maxHeartbeats 8000000 in
theorem fromG_any (W H : Nat) (hW : 1 ≤ W ∧ W ≤ 1024) (hH : 1 ≤ H ∧ H ≤ 1024) (f : Plane) (pg : Nat) (w : World)
    (hat : ∀ (Wd : World) (x y : Nat), x < W → y < H → Below w.heap.size w Wd → Calls Try.prog 38 #[.int .i64 x, .int .i64 y, .pointer (some ⟨pg, 0, none⟩)] Wd (Quiet (.bool (f x y)) Wd)) :
    Calls Try.prog 37 #[.int .i64 W, .int .i64 H, .func (.func 38) #[] #[.pointer (some ⟨pg, 0, none⟩)]] w (RetBits W H (cutP W H f) w) := by
  have HAT := Lib.hid hat
  obtain ⟨wa, hwa⟩ : ∃ wa, wa = w.alloc (.cells #[.int .i64 0, .int .i64 0, .slice none 0 0] 29) := ⟨_, rfl⟩
  have HWA : Hid (w.alloc (.cells #[.int .i64 0, .int .i64 0, .slice none 0 0] 29) = wa) := hwa.symm
  have HT : Hid (T3 wa w.heap.size (.int .i64 0) (.int .i64 0) (.slice none 0 0)) := by rw [hwa]; exact T3.new w _ _ _ _
  have HB : Hid (Below w.heap.size w wa ∧ w.heap.size < wa.heap.size) := by rw [hwa]; exact ⟨balloc (Below.refl _ w) _, by simp⟩
  have HBL : Hid (Calls Try.prog 15 #[.int .i64 W, .int .i64 H] wa (RetBits W H noneP wa)) := blank_any W H hW.2 hH.2 wa
  clear hat hwa
  go_enter Try.func37, Try.ntmps37
  go_upto_region 1 with fail
  rw [HWA.out]
  clear HWA
  go_wp2_with fail
  refine HBL.out.mono ?_
  intro e w2 hret
  obtain ⟨d, c, rfl, hd, hd1, hd2, hc, hb2⟩ := hret
  obtain ⟨m, hm⟩ : ∃ m, m = strV W * H := ⟨_, rfl⟩
  obtain ⟨W3, hW3⟩ : ∃ W3, W3 = w2.alloc (.cells #[.int .i64 W, .int .i64 H, .slice (some ⟨d, 0, none⟩) m c] 29) := ⟨_, rfl⟩
  have HU : Hid (FrU w w2.heap.size w.heap.size d c W H W3 noneP) := by
    have h1 := HB.out
    have hb3 : Below w2.heap.size w2 W3 := by rw [hW3]; exact balloc (Below.refl _ _) _
    refine ⟨bthen h1.1 (bthen hb2 hb3), by rw [hW3, hm]; exact T3.new w2 _ _ _ _, (HT.out.below hb2).below hb3, hd.below hb3 hd2, Nat.le_refl _, by omega, hd2, by rw [hW3]; simp, hc⟩
  rw [← hm]
  have HW3 : Hid (w2.alloc (.cells #[.int .i64 W, .int .i64 H, .slice (some ⟨d, 0, none⟩) m c] 29) = W3) := hW3.symm
  have HM := Lib.hid hm
  obtain ⟨g, hg⟩ : ∃ g, g = w2.heap.size := ⟨_, rfl⟩
  rw [← hg] at HU
  have HG := Lib.hid hg
  clear hm hW3 hd hd1 hd2 hc hb2 HT HB HBL hg
  dsimp only
  go_upto_region 2 with fail
  rw [HW3.out, ← HG.out]
  clear HW3
  go_wp2_with fail
  go_loopw [14] (fun i wr => ∃ y : Nat, y ≤ H ∧ i = .int .i64 y ∧ Hid (FrU w g w.heap.size d c W H wr (fromP W H f 0 y))) (fun i _ => H - (intOf i).toNat)
  case atStart => exact ⟨0, by omega, rfl, by show FrU _ _ _ _ _ _ _ _ _; rw [fromP_zero]; exact HU.out⟩
  case round =>
    clear HU
    obtain ⟨y, hy, rfl, HX⟩ := hrel
    obtain ⟨wb, rfl⟩ : ∃ wb : World, wb = wr := ⟨_, rfl⟩
    by_cases hlt : y < H
    · have kd : (y : Int) < (H : Int) := by omega
      go_wp2_with fail
      go_loopw [18] (fun j wr => ∃ x : Nat, x ≤ W ∧ j = .int .i64 x ∧ Hid (FrU w g w.heap.size d c W H wr (fromP W H f x y))) (fun j _ => W - (intOf j).toNat)
      case atStart => exact ⟨0, by omega, rfl, HX⟩
      case round =>
        clear HX
        obtain ⟨x, hx, rfl, HY⟩ := hrel
        obtain ⟨wr2, rfl⟩ : ∃ wb : World, wb = wr := ⟨_, rfl⟩
        by_cases hct : x < W
        · have cd : (x : Int) < (W : Int) := by omega
          have HCL := Lib.hid (HAT.out wr2 x y hct hlt HY.out.bel)
          obtain ⟨b, hb⟩ : ∃ b, b = f x y := ⟨_, rfl⟩
          rw [← hb] at HCL
          have HBB := Lib.hid hb
          clear hb
          go_wp2_with fail
          refine HCL.out.mono ?_
          rintro e w4 ⟨rfl, nq, rfl⟩
          have HY4 := Lib.hid (HY.out.below (bdrewN (Below.refl _ _) nq))
          cases b with
          | false =>
            have HZ : Hid (FrU w g w.heap.size d c W H (wr2.drewN nq) (fromP W H f (x + 1) y)) := by show FrU _ _ _ _ _ _ _ _ _; rw [fromP_no hct hlt HBB.out.symm]; exact HY4.out
            clear HY HY4 HCL
            go_wp2_with fail
            go_roundw
            case rel => exact ⟨x + 1, by omega, by go_num, HZ⟩
            case measure => simp [intOf]; omega
          | true =>
            have HMK : Hid (Calls Try.prog 16 #[.pointer (some ⟨g, 0, none⟩), .int .i64 x, .int .i64 y] (wr2.drewN nq) (RetMark g d c W H (markP (fromP W H f x y) x y) (wr2.drewN nq))) :=
              mark_any g d c W H _ hW.2 hH.2 (by have := HY.out.lt; omega) x y hct hlt _ HY4.out.at'
            clear HY HCL
            go_wp2_with fail
            refine HMK.out.mono ?_
            rintro e w5 ⟨rfl, hb5, ho5⟩
            have HZ : Hid (FrU w g w.heap.size d c W H w5 (fromP W H f (x + 1) y)) := by show FrU _ _ _ _ _ _ _ _ _; rw [fromP_yes hct hlt HBB.out.symm]; exact HY4.out.mark hb5 ho5
            clear HY4 HMK hb5 ho5
            go_wp2_with fail
            go_roundw
            case rel => exact ⟨x + 1, by omega, by go_num, HZ⟩
            case measure => simp [intOf]; omega
        · obtain rfl : W = x := by omega
          have HZ : Hid (FrU w g w.heap.size d c W H wr2 (fromP W H f 0 (y + 1))) := by show FrU _ _ _ _ _ _ _ _ _; rw [← fromP_row]; exact HY.out
          clear HY
          go_wp2_with fail
          go_roundw
          case rel => exact ⟨y + 1, by omega, by go_num, HZ⟩
          case measure => simp [intOf]; omega
    · obtain rfl : H = y := by omega
      have hx := HX.out
      obtain ⟨l1, l2, l3, l4, l5⟩ := hx.lt
      have HEQ : Hid (strV W * H = m) := HM.out.symm
      obtain ⟨hT9, hO9⟩ := res_set (x := .int .i64 W) (y := .int .i64 H) (z := .slice (some ⟨d, 0, none⟩) m c) hx.res
      have HF : Hid (RetBits W H (cutP W H f) w (.returned (.agg #[.int .i64 W, .int .i64 H, .slice (some ⟨d, 0, none⟩) m c])) (resW wb w.heap.size (.int .i64 W) (.int .i64 H) (.slice (some ⟨d, 0, none⟩) m c))) := by
        refine ⟨d, c, by rw [HEQ.out], ?_, by omega, by rw [hO9.sz]; omega, l5, hO9.bel hx.bel (Nat.le_refl _)⟩
        rw [← fromP_all]
        exact hx.dat.heap (hO9.hp d (by omega))
      have z0 := hx.tab.c0
      have z1 := hx.tab.c1
      have z2 := hx.tab.c2
      rw [HEQ.out] at z2
      have r0 := hx.res.c0
      have r1 := hx.res.c1
      have r2 := hx.res.c2
      have rf := hx.res.fr
      have HT9 := Lib.hid hT9
      clear hx HX hT9 hO9 HM HEQ hy hlt
      repeat (first | go_values | go_skip | go_guarded | go_step | go_upon)
      obtain ⟨W9, hW9⟩ : ∃ W9, W9 = resW wb w.heap.size (.int .i64 W) (.int .i64 H) (.slice (some ⟨d, 0, none⟩) m c) := ⟨_, rfl⟩
      rw [← hW9] at HF HT9
      unfold resW at hW9
      rw [← hW9]
      have e0 := HT9.out.c0
      have e1 := HT9.out.c1
      have e2 := HT9.out.c2
      clear hW9
      refine bodyPost_ret (v := .agg #[.int .i64 W, .int .i64 H, .slice (some ⟨d, 0, none⟩) m c]) (by simp only [results, fromRes]; go_simp) rfl ?_
      exact HF.out

set_option maxRecDepth 100000 in
set_option maxHeartbeats 8000000 in
theorem fromT_any (W H : Nat) (hW : 1 ≤ W ∧ W ≤ 1024) (hH : 1 ≤ H ∧ H ≤ 1024) (f : Plane) (pg : Nat) (w : World)
    (hat : ∀ (Wd : World) (x y : Nat), x < W → y < H → Below w.heap.size w Wd → Calls Try.prog 40 #[.int .i64 x, .int .i64 y, .pointer (some ⟨pg, 0, none⟩)] Wd (Quiet (.bool (f x y)) Wd)) :
    Calls Try.prog 37 #[.int .i64 W, .int .i64 H, .func (.func 40) #[] #[.pointer (some ⟨pg, 0, none⟩)]] w (RetBits W H (cutP W H f) w) := by
  have HAT := Lib.hid hat
  obtain ⟨wa, hwa⟩ : ∃ wa, wa = w.alloc (.cells #[.int .i64 0, .int .i64 0, .slice none 0 0] 29) := ⟨_, rfl⟩
  have HWA : Hid (w.alloc (.cells #[.int .i64 0, .int .i64 0, .slice none 0 0] 29) = wa) := hwa.symm
  have HT : Hid (T3 wa w.heap.size (.int .i64 0) (.int .i64 0) (.slice none 0 0)) := by rw [hwa]; exact T3.new w _ _ _ _
  have HB : Hid (Below w.heap.size w wa ∧ w.heap.size < wa.heap.size) := by rw [hwa]; exact ⟨balloc (Below.refl _ w) _, by simp⟩
  have HBL : Hid (Calls Try.prog 15 #[.int .i64 W, .int .i64 H] wa (RetBits W H noneP wa)) := blank_any W H hW.2 hH.2 wa
  clear hat hwa
  go_enter Try.func37, Try.ntmps37
  go_upto_region 1 with fail
  rw [HWA.out]
  clear HWA
  go_wp2_with fail
  refine HBL.out.mono ?_
  intro e w2 hret
  obtain ⟨d, c, rfl, hd, hd1, hd2, hc, hb2⟩ := hret
  obtain ⟨m, hm⟩ : ∃ m, m = strV W * H := ⟨_, rfl⟩
  obtain ⟨W3, hW3⟩ : ∃ W3, W3 = w2.alloc (.cells #[.int .i64 W, .int .i64 H, .slice (some ⟨d, 0, none⟩) m c] 29) := ⟨_, rfl⟩
  have HU : Hid (FrU w w2.heap.size w.heap.size d c W H W3 noneP) := by
    have h1 := HB.out
    have hb3 : Below w2.heap.size w2 W3 := by rw [hW3]; exact balloc (Below.refl _ _) _
    refine ⟨bthen h1.1 (bthen hb2 hb3), by rw [hW3, hm]; exact T3.new w2 _ _ _ _, (HT.out.below hb2).below hb3, hd.below hb3 hd2, Nat.le_refl _, by omega, hd2, by rw [hW3]; simp, hc⟩
  rw [← hm]
  have HW3 : Hid (w2.alloc (.cells #[.int .i64 W, .int .i64 H, .slice (some ⟨d, 0, none⟩) m c] 29) = W3) := hW3.symm
  have HM := Lib.hid hm
  obtain ⟨g, hg⟩ : ∃ g, g = w2.heap.size := ⟨_, rfl⟩
  rw [← hg] at HU
  have HG := Lib.hid hg
  clear hm hW3 hd hd1 hd2 hc hb2 HT HB HBL hg
  dsimp only
  go_upto_region 2 with fail
  rw [HW3.out, ← HG.out]
  clear HW3
  go_wp2_with fail
  go_loopw [14] (fun i wr => ∃ y : Nat, y ≤ H ∧ i = .int .i64 y ∧ Hid (FrU w g w.heap.size d c W H wr (fromP W H f 0 y))) (fun i _ => H - (intOf i).toNat)
  case atStart => exact ⟨0, by omega, rfl, by show FrU _ _ _ _ _ _ _ _ _; rw [fromP_zero]; exact HU.out⟩
  case round =>
    clear HU
    obtain ⟨y, hy, rfl, HX⟩ := hrel
    obtain ⟨wb, rfl⟩ : ∃ wb : World, wb = wr := ⟨_, rfl⟩
    by_cases hlt : y < H
    · have kd : (y : Int) < (H : Int) := by omega
      go_wp2_with fail
      go_loopw [18] (fun j wr => ∃ x : Nat, x ≤ W ∧ j = .int .i64 x ∧ Hid (FrU w g w.heap.size d c W H wr (fromP W H f x y))) (fun j _ => W - (intOf j).toNat)
      case atStart => exact ⟨0, by omega, rfl, HX⟩
      case round =>
        clear HX
        obtain ⟨x, hx, rfl, HY⟩ := hrel
        obtain ⟨wr2, rfl⟩ : ∃ wb : World, wb = wr := ⟨_, rfl⟩
        by_cases hct : x < W
        · have cd : (x : Int) < (W : Int) := by omega
          have HCL := Lib.hid (HAT.out wr2 x y hct hlt HY.out.bel)
          obtain ⟨b, hb⟩ : ∃ b, b = f x y := ⟨_, rfl⟩
          rw [← hb] at HCL
          have HBB := Lib.hid hb
          clear hb
          go_wp2_with fail
          refine HCL.out.mono ?_
          rintro e w4 ⟨rfl, nq, rfl⟩
          have HY4 := Lib.hid (HY.out.below (bdrewN (Below.refl _ _) nq))
          cases b with
          | false =>
            have HZ : Hid (FrU w g w.heap.size d c W H (wr2.drewN nq) (fromP W H f (x + 1) y)) := by show FrU _ _ _ _ _ _ _ _ _; rw [fromP_no hct hlt HBB.out.symm]; exact HY4.out
            clear HY HY4 HCL
            go_wp2_with fail
            go_roundw
            case rel => exact ⟨x + 1, by omega, by go_num, HZ⟩
            case measure => simp [intOf]; omega
          | true =>
            have HMK : Hid (Calls Try.prog 16 #[.pointer (some ⟨g, 0, none⟩), .int .i64 x, .int .i64 y] (wr2.drewN nq) (RetMark g d c W H (markP (fromP W H f x y) x y) (wr2.drewN nq))) :=
              mark_any g d c W H _ hW.2 hH.2 (by have := HY.out.lt; omega) x y hct hlt _ HY4.out.at'
            clear HY HCL
            go_wp2_with fail
            refine HMK.out.mono ?_
            rintro e w5 ⟨rfl, hb5, ho5⟩
            have HZ : Hid (FrU w g w.heap.size d c W H w5 (fromP W H f (x + 1) y)) := by show FrU _ _ _ _ _ _ _ _ _; rw [fromP_yes hct hlt HBB.out.symm]; exact HY4.out.mark hb5 ho5
            clear HY4 HMK hb5 ho5
            go_wp2_with fail
            go_roundw
            case rel => exact ⟨x + 1, by omega, by go_num, HZ⟩
            case measure => simp [intOf]; omega
        · obtain rfl : W = x := by omega
          have HZ : Hid (FrU w g w.heap.size d c W H wr2 (fromP W H f 0 (y + 1))) := by show FrU _ _ _ _ _ _ _ _ _; rw [← fromP_row]; exact HY.out
          clear HY
          go_wp2_with fail
          go_roundw
          case rel => exact ⟨y + 1, by omega, by go_num, HZ⟩
          case measure => simp [intOf]; omega
    · obtain rfl : H = y := by omega
      have hx := HX.out
      obtain ⟨l1, l2, l3, l4, l5⟩ := hx.lt
      have HEQ : Hid (strV W * H = m) := HM.out.symm
      obtain ⟨hT9, hO9⟩ := res_set (x := .int .i64 W) (y := .int .i64 H) (z := .slice (some ⟨d, 0, none⟩) m c) hx.res
      have HF : Hid (RetBits W H (cutP W H f) w (.returned (.agg #[.int .i64 W, .int .i64 H, .slice (some ⟨d, 0, none⟩) m c])) (resW wb w.heap.size (.int .i64 W) (.int .i64 H) (.slice (some ⟨d, 0, none⟩) m c))) := by
        refine ⟨d, c, by rw [HEQ.out], ?_, by omega, by rw [hO9.sz]; omega, l5, hO9.bel hx.bel (Nat.le_refl _)⟩
        rw [← fromP_all]
        exact hx.dat.heap (hO9.hp d (by omega))
      have z0 := hx.tab.c0
      have z1 := hx.tab.c1
      have z2 := hx.tab.c2
      rw [HEQ.out] at z2
      have r0 := hx.res.c0
      have r1 := hx.res.c1
      have r2 := hx.res.c2
      have rf := hx.res.fr
      have HT9 := Lib.hid hT9
      clear hx HX hT9 hO9 HM HEQ hy hlt
      repeat (first | go_values | go_skip | go_guarded | go_step | go_upon)
      obtain ⟨W9, hW9⟩ : ∃ W9, W9 = resW wb w.heap.size (.int .i64 W) (.int .i64 H) (.slice (some ⟨d, 0, none⟩) m c) := ⟨_, rfl⟩
      rw [← hW9] at HF HT9
      unfold resW at hW9
      rw [← hW9]
      have e0 := HT9.out.c0
      have e1 := HT9.out.c1
      have e2 := HT9.out.c2
      clear hW9
      refine bodyPost_ret (v := .agg #[.int .i64 W, .int .i64 H, .slice (some ⟨d, 0, none⟩) m c]) (by simp only [results, fromRes]; go_simp) rfl ?_
      exact HF.out

end Go.Proofs.Ytcadgjhfdolejaa
