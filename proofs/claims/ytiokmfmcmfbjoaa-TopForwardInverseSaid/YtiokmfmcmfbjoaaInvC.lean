/-
  The walk of inverse.Check. Own text.
-/
import Derived.Test.YtiokmfmcmfbjoaaRun
namespace Go.Proofs.Ytiokmfmcmfbjoaa
open Go.RowKit
set_option linter.unusedVariables false
/-- The powers of six. -/
def sixP : Nat → Int
  | 0 => 1
  | 1 => 6
  | 2 => 36
  | 3 => 216
  | _ => 1296
theorem sixP_le (k : Nat) : 1 ≤ sixP k ∧ sixP k ≤ 1296 := by
  match k with
  | 0 => decide
  | 1 => decide
  | 2 => decide
  | 3 => decide
  | _ + 4 => exact ⟨(by decide : (1 : Int) ≤ 1296), (by decide : (1296 : Int) ≤ 1296)⟩
theorem sixP_next {k : Nat} (h : k < 4) : sixP k * 6 = sixP (k + 1) := by
  match k, h with
  | 0, _ => rfl
  | 1, _ => rfl
  | 2, _ => rfl
  | 3, _ => rfl
/-- The cells of a question. -/
def askCells (tv : Nat → Int) (st tt : Int) (ol : Option Addr) (cl : Nat) (oh : Option Addr) (ch : Nat) (n : Nat) : Array Value :=
  #[.int .i64 (tv 0), .int .i64 (tv 1), .int .i64 (tv 2), .int .i64 st, .int .i64 tt, .slice ol n cl, .slice oh n ch]
set_option maxRecDepth 100000 in
set_option maxHeartbeats 4000000 in
theorem invcheck_any (n : Nat) (tv : Nat → Int) (st tt : Int) (ol : Option Addr) (low : List Int) (cl : Nat) (oh : Option Addr) (high : List Int) (ch : Nat) (w : World) (hn1 : 1 ≤ n) (hn4 : n ≤ 4) (htv : OkLab (tv 0) (tv 1) (tv 2))
    (hst : st = 51 ∨ st = 85) (ht0 : 0 ≤ tt) (ht1 : tt ≤ 2040) (hxl : Flat w 1 encInt ol low) (hxh : Flat w 1 encInt oh high) (hl : OkTones low n) (hh : OkTones high n) :
    Calls Try.prog 17 #[.int .i64 n, .agg (askCells tv st tt ol cl oh ch n)] w (fun e w' => e = .returned (.int .i64 0) ∧ Below w.heap.size w w') := by
  have ll : low.length = n := by have := hl.1; omega
  have lh : high.length = n := by have := hh.1; omega
  have HLC := Lib.hid (fun W => RetChk.pos (lcheck_any (tv 0) (tv 1) (tv 2) W) htv)
  have HTL : Hid (∀ W, Below w.heap.size w W → Calls Try.prog 15 #[.slice ol n cl, .int .i64 n] W fun e w' => e = .returned (.int .i64 0) ∧ Below W.heap.size W w') := fun W hb => by
    have h := RetChk.pos (tones_any ol low cl n W (by unfold maxLen; omega) (hxl.below hb)) hl
    rw [ll] at h
    exact h
  have HTH : Hid (∀ W, Below w.heap.size w W → Calls Try.prog 15 #[.slice oh n ch, .int .i64 n] W fun e w' => e = .returned (.int .i64 0) ∧ Below W.heap.size W w') := fun W hb => by
    have h := RetChk.pos (tones_any oh high ch n W (by unfold maxLen; omega) (hxh.below hb)) hh
    rw [lh] at h
    exact h
  unfold askCells
  obtain ⟨a0, ha0⟩ : ∃ a, a = tv 0 := ⟨_, rfl⟩
  obtain ⟨a1, ha1⟩ : ∃ a, a = tv 1 := ⟨_, rfl⟩
  obtain ⟨a2, ha2⟩ : ∃ a, a = tv 2 := ⟨_, rfl⟩
  rw [← ha0, ← ha1, ← ha2]
  rw [← ha0, ← ha1, ← ha2] at HLC
  clear ha0 ha1 ha2 hxl hxh hl hh ll lh htv
  have n1 : ¬ (n : Int) < 1 := by omega
  have n8 : ¬ 8 < (n : Int) := by omega
  have t0 : ¬ tt < 0 := by omega
  have t1 : ¬ 2040 < tt := by omega
  rcases hst with rfl | rfl
  · go_enter Try.func17, Try.ntmps17
    go_upto_region 3 with fail
    obtain ⟨W1, hW1⟩ : ∃ W1, W1 = w.alloc (.cells #[.int .i64 a0, .int .i64 a1, .int .i64 a2, .int .i64 51, .int .i64 tt, .slice ol n cl, .slice oh n ch] 35) := ⟨_, rfl⟩
    have HX1 : Hid (BoxAt W1 w.heap.size 0 #[.int .i64 a0, .int .i64 a1, .int .i64 a2, .int .i64 51, .int .i64 tt, .slice ol n cl, .slice oh n ch]) := by rw [hW1]; exact BoxAt.new _ _ _
    have HB1 : Hid (Below w.heap.size w W1) := by rw [hW1]; exact balloc (Below.refl _ _) _
    rw [← hW1]
    clear hW1
    have b0 : W1.cell? ⟨w.heap.size, 0, none⟩ = some (.int .i64 a0) := HX1.out.at' 0 _ rfl
    have b1 : W1.cell? ⟨w.heap.size, 1, none⟩ = some (.int .i64 a1) := HX1.out.at' 1 _ rfl
    have b2 : W1.cell? ⟨w.heap.size, 2, none⟩ = some (.int .i64 a2) := HX1.out.at' 2 _ rfl
    go_upto_region 4 with (go_at_call 14; refine (HLC.out _).mono ?_; rintro e W2 ⟨rfl, hb2⟩; have HB2 := Lib.hid (bthen HB1.out hb2); have HX2 := Lib.hid (HX1.out.below hb2); clear hb2)
    clear b0 b1 b2 HX1 HB1
    have b3 := HX2.out.at' 3 _ rfl
    have b4 : W2.cell? ⟨w.heap.size, 4, none⟩ = some (.int .i64 tt) := HX2.out.at' 4 _ rfl
    have b5 : W2.cell? ⟨w.heap.size, 5, none⟩ = some (.slice ol n cl) := HX2.out.at' 5 _ rfl
    rw [Nat.zero_add] at b3
    go_upto_region 19 with (go_at_call 15; refine (HTL.out _ HB2.out).mono ?_; rintro e W3 ⟨rfl, hb3⟩; have HB3 := Lib.hid (bthen HB2.out hb3); have HX3 := Lib.hid (HX2.out.below hb3); clear hb3)
    clear b3 b4 b5
    have b6 : W3.cell? ⟨w.heap.size, 6, none⟩ = some (.slice oh n ch) := HX3.out.at' 6 _ rfl
    go_upto_region 22 with (go_at_call 15; refine (HTH.out _ HB3.out).mono ?_; rintro e W4 ⟨rfl, hb4⟩; have HB4 := Lib.hid (bthen HB3.out hb4); clear hb4)
    go_wp2
    go_loopw [9, 58] (fun s9 s58 wr => ∃ (k : Nat) (a : Int), k ≤ n ∧ s58 = .int .i64 k ∧ s9 = .int .i64 a ∧ Hid (1 ≤ a ∧ a ≤ sixP k) ∧ Hid (Below w.heap.size w wr)) (fun _ s58 _ => n - (intOf s58).toNat)
    case atStart => exact ⟨0, 1, by omega, rfl, rfl, ⟨Int.le_refl _, Int.le_refl _⟩, HB4⟩
    case round =>
      clear HB4
      obtain ⟨k, a, hk, rfl, rfl, ha, HB5⟩ := hrel
      have a1 := ha.out.1
      have a2 := Int.le_trans ha.out.2 (sixP_le k).2
      by_cases hlt : k < n
      · have kn : (k : Int) < (n : Int) := by omega
        have HN : Hid (∀ c : Int, 1 ≤ c → c ≤ 6 → 1 ≤ a * c ∧ a * c ≤ sixP (k + 1)) := fun c h1 h2 => by
          have h3 := sixP_next (show k < 4 by omega)
          have h4 := ha.out.2
          have h5 : a * 1 ≤ a * c := Int.mul_le_mul_of_nonneg_left h1 (by omega)
          have h6 : a * c ≤ a * 6 := Int.mul_le_mul_of_nonneg_left h2 (by omega)
          omega
        clear ha
        go_wp2
        go_roundw
        case rel => exact ⟨k + 1, _, by omega, by go_num, rfl, HN.out _ (by omega) (by omega), HB5⟩
        case measure => simp [intOf]; omega
      · obtain rfl : n = k := by omega
        have a3 : ¬ 20000 < a := by omega
        clear ha
        go_wp2
        go_ret
        exact ⟨rfl, HB5.out⟩
  · go_enter Try.func17, Try.ntmps17
    go_upto_region 3 with fail
    obtain ⟨W1, hW1⟩ : ∃ W1, W1 = w.alloc (.cells #[.int .i64 a0, .int .i64 a1, .int .i64 a2, .int .i64 85, .int .i64 tt, .slice ol n cl, .slice oh n ch] 35) := ⟨_, rfl⟩
    have HX1 : Hid (BoxAt W1 w.heap.size 0 #[.int .i64 a0, .int .i64 a1, .int .i64 a2, .int .i64 85, .int .i64 tt, .slice ol n cl, .slice oh n ch]) := by rw [hW1]; exact BoxAt.new _ _ _
    have HB1 : Hid (Below w.heap.size w W1) := by rw [hW1]; exact balloc (Below.refl _ _) _
    rw [← hW1]
    clear hW1
    have b0 : W1.cell? ⟨w.heap.size, 0, none⟩ = some (.int .i64 a0) := HX1.out.at' 0 _ rfl
    have b1 : W1.cell? ⟨w.heap.size, 1, none⟩ = some (.int .i64 a1) := HX1.out.at' 1 _ rfl
    have b2 : W1.cell? ⟨w.heap.size, 2, none⟩ = some (.int .i64 a2) := HX1.out.at' 2 _ rfl
    go_upto_region 4 with (go_at_call 14; refine (HLC.out _).mono ?_; rintro e W2 ⟨rfl, hb2⟩; have HB2 := Lib.hid (bthen HB1.out hb2); have HX2 := Lib.hid (HX1.out.below hb2); clear hb2)
    clear b0 b1 b2 HX1 HB1
    have b3 := HX2.out.at' 3 _ rfl
    have b4 : W2.cell? ⟨w.heap.size, 4, none⟩ = some (.int .i64 tt) := HX2.out.at' 4 _ rfl
    have b5 : W2.cell? ⟨w.heap.size, 5, none⟩ = some (.slice ol n cl) := HX2.out.at' 5 _ rfl
    rw [Nat.zero_add] at b3
    go_upto_region 19 with (go_at_call 15; refine (HTL.out _ HB2.out).mono ?_; rintro e W3 ⟨rfl, hb3⟩; have HB3 := Lib.hid (bthen HB2.out hb3); have HX3 := Lib.hid (HX2.out.below hb3); clear hb3)
    clear b3 b4 b5
    have b6 : W3.cell? ⟨w.heap.size, 6, none⟩ = some (.slice oh n ch) := HX3.out.at' 6 _ rfl
    go_upto_region 22 with (go_at_call 15; refine (HTH.out _ HB3.out).mono ?_; rintro e W4 ⟨rfl, hb4⟩; have HB4 := Lib.hid (bthen HB3.out hb4); clear hb4)
    go_wp2
    go_loopw [9, 58] (fun s9 s58 wr => ∃ (k : Nat) (a : Int), k ≤ n ∧ s58 = .int .i64 k ∧ s9 = .int .i64 a ∧ Hid (1 ≤ a ∧ a ≤ sixP k) ∧ Hid (Below w.heap.size w wr)) (fun _ s58 _ => n - (intOf s58).toNat)
    case atStart => exact ⟨0, 1, by omega, rfl, rfl, ⟨Int.le_refl _, Int.le_refl _⟩, HB4⟩
    case round =>
      clear HB4
      obtain ⟨k, a, hk, rfl, rfl, ha, HB5⟩ := hrel
      have a1 := ha.out.1
      have a2 := Int.le_trans ha.out.2 (sixP_le k).2
      by_cases hlt : k < n
      · have kn : (k : Int) < (n : Int) := by omega
        have HN : Hid (∀ c : Int, 1 ≤ c → c ≤ 6 → 1 ≤ a * c ∧ a * c ≤ sixP (k + 1)) := fun c h1 h2 => by
          have h3 := sixP_next (show k < 4 by omega)
          have h4 := ha.out.2
          have h5 : a * 1 ≤ a * c := Int.mul_le_mul_of_nonneg_left h1 (by omega)
          have h6 : a * c ≤ a * 6 := Int.mul_le_mul_of_nonneg_left h2 (by omega)
          omega
        clear ha
        go_wp2
        go_roundw
        case rel => exact ⟨k + 1, _, by omega, by go_num, rfl, HN.out _ (by omega) (by omega), HB5⟩
        case measure => simp [intOf]; omega
      · obtain rfl : n = k := by omega
        have a3 : ¬ 20000 < a := by omega
        clear ha
        go_wp2
        go_ret
        exact ⟨rfl, HB5.out⟩
end Go.Proofs.Ytiokmfmcmfbjoaa
