/-
  The walk of bitmap.Check at a valid bitmap. Own text.
-/
import Derived.Test.YtcadgjhfdolejaaBitW
namespace Go.Proofs.Ytcadgjhfdolejaa
open Go.RowKit
set_option linter.unusedVariables false
theorem bit_low : ∀ j : Nat, j < 8 → ∀ b : Nat, b < 256 → (∀ i, i < j → Nat.testBit b i = false) → (bits .and .u8 (b : Int) (2 ^ j - 1) != 0) = false := by decide +kernel
theorem u8_sub : ∀ j : Nat, j < 8 → IntKind.u8.wrap (2 ^ j) = 2 ^ j ∧ IntKind.u8.wrap (2 ^ j - 1) = 2 ^ j - 1 := by decide +kernel
theorem u8_ne : ∀ j : Nat, j < 8 → ((2 ^ j - 1 : Int) != 0) = decide (0 < j) := by decide +kernel
set_option maxRecDepth 100000 in
set_option maxHeartbeats 4000000 in
theorem check_any (d c W H : Nat) (p : Plane) (hW : 1 ≤ W ∧ W ≤ 1024) (hH : 1 ≤ H ∧ H ≤ 1024) (w : World) (hd : Dat w d W H p) :
    Calls Try.prog 17 #[.agg #[.int .i64 W, .int .i64 H, .slice (some ⟨d, 0, none⟩) (strV W * H) c]] w fun e w' => e = .returned (.int .i64 0) ∧ Below w.heap.size w w' := by
  obtain ⟨s, hs⟩ : ∃ s, s = strV W := ⟨_, rfl⟩
  have hs8 : 8 * s < W + 8 ∧ W ≤ 8 * s := by rw [hs]; unfold strV; omega
  obtain ⟨m, hm⟩ : ∃ m, m = s * H := ⟨_, rfl⟩
  have hmb : m ≤ 128 * 1024 := by rw [hm]; exact Nat.mul_le_mul (by omega) hH.2
  obtain ⟨j, hj⟩ : ∃ j, j = 8 * s - W := ⟨_, rfl⟩
  have hj8 : j < 8 := by omega
  have x1 : IntKind.i64.wrap (8 * (s : Int)) = 8 * (s : Int) := IntWalk.i64_in _ (by omega)
  have x2 : IntKind.i64.wrap (8 * (s : Int) - (W : Int)) = (j : Int) := by rw [show 8 * (s : Int) - (W : Int) = (j : Int) by omega]; exact IntWalk.i64_in _ (by omega)
  have x3 : IntKind.i64.wrap ((s : Int) * (H : Int)) = (m : Int) := by rw [hm, ← Int.natCast_mul]; exact IntWalk.i64_in _ (by rw [← hm]; omega)
  obtain ⟨u1, u2⟩ := u8_sub j hj8
  have HROW : Hid (∀ y : Nat, y < H → ∃ n : Nat, w.cell? ⟨d, y * s + s - 1, none⟩ = some (.int .u8 (n : Int)) ∧ (bits .and .u8 (n : Int) (2 ^ j - 1) != 0) = false) := fun y hy => by
    obtain ⟨t, h1, h2⟩ := hd
    have hlt := row_lt (s := s) (k := s - 1) hy (by omega)
    have hc := h1.at' _ (by rw [← hs]; exact hlt)
    refine ⟨_, by rw [show y * s + s - 1 = y * s + (s - 1) by omega]; exact hc, bit_low j hj8 _ (h2.lt _) fun i hi => ?_⟩
    have hb := h2.bit (8 * s - 1 - i) y hy (by rw [← hs]; omega)
    rw [← hs, show (8 * s - 1 - i) / 8 = s - 1 by omega, show 7 - (8 * s - 1 - i) % 8 = i by omega] at hb
    rw [hb]
    exact h2.out _ _ (by omega)
  have HST : Hid (∀ w, Calls Try.prog 35 #[.int .i64 W] w fun e w' => e = .returned (.int .i64 s) ∧ w = w') := fun w => by
    rw [hs]; exact stride_any W (by omega) w
  obtain ⟨W1, hW1⟩ : ∃ W1, W1 = w.alloc (.cells #[.int .i64 W, .int .i64 H, .slice (some ⟨d, 0, none⟩) m c] 29) := ⟨_, rfl⟩
  have HW1 : Hid (w.alloc (.cells #[.int .i64 W, .int .i64 H, .slice (some ⟨d, 0, none⟩) m c] 29) = W1) := hW1.symm
  have ht : T3 W1 w.heap.size (.int .i64 W) (.int .i64 H) (.slice (some ⟨d, 0, none⟩) m c) := by rw [hW1]; exact T3.new w _ _ _ _
  have HB : Hid (Below w.heap.size w W1) := by rw [hW1]; exact balloc (Below.refl _ w) _
  have HBW : Hid (Below w.heap.size w W1) := HB
  have HSM : Hid (∀ y : Nat, y < H → y * s + (s - 1) < m) := fun y hy => by rw [hm]; exact row_lt hy (by omega)
  have c0 := ht.c0
  have c1 := ht.c1
  have c2 := ht.c2
  rw [← hs, ← hm]
  clear hs hm ht hW1 hd hj
  go_enter Try.func17, Try.ntmps17
  go_upto_region 1 with fail
  rw [HW1.out]
  clear HW1
  go_wp2_with fail
  refine (HST.out W1).mono ?_
  rintro e w2 ⟨rfl, rfl⟩
  by_cases hj0 : j = 0
  · subst hj0
    go_wp2_with fail
    go_ret
    exact ⟨rfl, HB.out⟩
  · have u3 : ((2 ^ j - 1 : Int) != 0) = true := by rw [u8_ne j hj8]; exact decide_eq_true (by omega)
    go_wp2_with fail
    go_loopw [46] (fun i wr => ∃ y : Nat, y ≤ H ∧ i = .int .i64 y ∧ W1 = wr) (fun i _ => H - (intOf i).toNat)
    case atStart => exact ⟨0, by omega, rfl, rfl⟩
    case round =>
      obtain ⟨y, hy, rfl, rfl⟩ := hrel
      by_cases hlt : y < H
      · have kd : (y : Int) < (H : Int) := by omega
        obtain ⟨n, hc, hb⟩ := HROW.out y hlt
        have hi := HSM.out y hlt
        obtain ⟨q, hq⟩ : ∃ q, q = y * s := ⟨_, rfl⟩
        rw [← hq] at hc hi
        have e1 : IntKind.i64.wrap ((y : Int) * (s : Int)) = (q : Int) := by rw [hq, ← Int.natCast_mul]; exact IntWalk.i64_in _ (by rw [← hq]; omega)
        obtain ⟨qs, hqs⟩ : ∃ qs, qs = q + s := ⟨_, rfl⟩
        have e2 : IntKind.i64.wrap ((q : Int) + (s : Int)) = (qs : Int) := by rw [hqs, Int.natCast_add]; exact IntWalk.i64_in _ (by omega)
        obtain ⟨i, hii⟩ : ∃ i, i = q + s - 1 := ⟨_, rfl⟩
        have e3 : IntKind.i64.wrap ((qs : Int) - 1) = (i : Int) := by rw [show (qs : Int) - 1 = (i : Int) by omega]; exact IntWalk.i64_in _ (by omega)
        have hi2 : i < m := by omega
        rw [← hii] at hc
        have hc1 := keepCell HBW.out hc
        clear hq hqs hii hi hc
        go_wp2_with fail
        go_roundw
        case rel => exact ⟨y + 1, by omega, by go_num, trivial⟩
        case measure => simp [intOf]; omega
      · obtain rfl : H = y := by omega
        go_wp2_with fail
        go_ret
        exact ⟨rfl, HB.out⟩
end Go.Proofs.Ytcadgjhfdolejaa
