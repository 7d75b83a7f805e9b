/-
  The walk of camera.window. Own text.
-/
import Derived.Test.YtcadgjhfdolejaaCam
namespace Go.Proofs.Ytcadgjhfdolejaa
open Go.RowKit
set_option linter.unusedVariables false
/-- The sum of k values from a on. -/
def sumR (f : Nat → Nat) (a : Nat) : Nat → Nat
  | 0 => 0
  | k + 1 => sumR f a k + f (a + k)
theorem sumR_bd {f : Nat → Nat} {a M : Nat} (h : ∀ i, f i ≤ M) : ∀ k, sumR f a k ≤ k * M
  | 0 => by simp [sumR]
  | k + 1 => by
    have h1 := sumR_bd (a := a) h k
    have h2 := h (a + k)
    rw [Nat.succ_mul]
    show _ + _ ≤ _
    omega
def hiV (x W : Nat) : Nat := min (W - 1) (x + 1)
def cntV (x W : Nat) : Nat := hiV x W + 1 - (x - 1)
theorem cnt_bd {x W : Nat} (h : x < W) : 1 ≤ cntV x W ∧ cntV x W ≤ 3 ∧ (x - 1) + cntV x W = hiV x W + 1 ∧ hiV x W < W := by unfold cntV hiV; omega
/-- The sum of the pixels beside (x, y). -/
def winS (t : Nat → Nat) (W H x y : Nat) : Nat := sumR (fun j => sumR (fun i => t (j * W + i)) (x - 1) (cntV x W)) (y - 1) (cntV y H)
def winN (W H x y : Nat) : Nat := cntV y H * cntV x W
set_option maxRecDepth 100000 in
set_option maxHeartbeats 8000000 in
theorem win_any (g d c W H : Nat) (t : Nat → Nat) (ht : ∀ i, t i < 256) (hW : 1 ≤ W ∧ W ≤ 1024) (hH : 1 ≤ H ∧ H ≤ 1024) (x y : Nat) (hx : x < W) (hy : y < H) (w : World) (h3 : T3 w g (.int .i64 W) (.int .i64 H) (.slice (some ⟨d, 0, none⟩) (W * H) c)) (hd : FTab encB w d (W * H) t) :
    Calls Try.prog 25 #[.pointer (some ⟨g, 0, none⟩), .int .i64 x, .int .i64 y, .int .i64 1] w (Quiet (.tuple #[.int .i64 (winS t W H x y : Nat), .int .i64 (winN W H x y : Nat)]) w) := by
  have c0 := h3.c0
  have c1 := h3.c1
  have c2 := h3.c2
  obtain ⟨n, hn⟩ : ∃ n, n = W * H := ⟨_, rfl⟩
  have hnb : n ≤ 1024 * 1024 := by rw [hn]; exact Nat.mul_le_mul hW.2 hH.2
  rw [← hn] at c2
  have HD := Lib.hid hd
  have HN := Lib.hid hn
  have HT := Lib.hid ht
  obtain ⟨xa, hxa⟩ : ∃ v, v = x - 1 := ⟨_, rfl⟩
  obtain ⟨ya, hya⟩ : ∃ v, v = y - 1 := ⟨_, rfl⟩
  obtain ⟨xh, hxh⟩ : ∃ v, v = hiV x W := ⟨_, rfl⟩
  obtain ⟨yh, hyh⟩ : ∃ v, v = hiV y H := ⟨_, rfl⟩
  obtain ⟨cx, hcx⟩ : ∃ v, v = cntV x W := ⟨_, rfl⟩
  obtain ⟨cy, hcy⟩ : ∃ v, v = cntV y H := ⟨_, rfl⟩
  have kx := cnt_bd hx
  have ky := cnt_bd hy
  rw [← hxa, ← hxh, ← hcx] at kx
  rw [← hya, ← hyh, ← hcy] at ky
  obtain ⟨u1, hu1⟩ : ∃ v : Int, v = (x : Int) - 1 := ⟨_, rfl⟩
  obtain ⟨u2, hu2⟩ : ∃ v : Int, v = (x : Int) + 1 := ⟨_, rfl⟩
  obtain ⟨u3, hu3⟩ : ∃ v : Int, v = (W : Int) - 1 := ⟨_, rfl⟩
  obtain ⟨v1, hv1⟩ : ∃ v : Int, v = (y : Int) - 1 := ⟨_, rfl⟩
  obtain ⟨v2, hv2⟩ : ∃ v : Int, v = (y : Int) + 1 := ⟨_, rfl⟩
  obtain ⟨v3, hv3⟩ : ∃ v : Int, v = (H : Int) - 1 := ⟨_, rfl⟩
  have x1 : IntKind.i64.wrap ((x : Int) - 1) = u1 := by rw [hu1]; exact IntWalk.i64_in _ (by omega)
  have x2 : IntKind.i64.wrap ((x : Int) + 1) = u2 := by rw [hu2]; exact IntWalk.i64_in _ (by omega)
  have x3 : IntKind.i64.wrap ((W : Int) - 1) = u3 := by rw [hu3]; exact IntWalk.i64_in _ (by omega)
  have y1 : IntKind.i64.wrap ((y : Int) - 1) = v1 := by rw [hv1]; exact IntWalk.i64_in _ (by omega)
  have y2 : IntKind.i64.wrap ((y : Int) + 1) = v2 := by rw [hv2]; exact IntWalk.i64_in _ (by omega)
  have y3 : IntKind.i64.wrap ((H : Int) - 1) = v3 := by rw [hv3]; exact IntWalk.i64_in _ (by omega)
  have m1 : (if 0 < u1 then u1 else 0) = (xa : Int) := by split <;> omega
  have m2 : (if u2 < u3 then u2 else u3) = (xh : Int) := by
    have h := hxh
    unfold hiV at h
    split <;> omega
  have m3 : (if 0 < v1 then v1 else 0) = (ya : Int) := by split <;> omega
  have m4 : (if v2 < v3 then v2 else v3) = (yh : Int) := by
    have h := hyh
    unfold hiV at h
    split <;> omega
  have HWS : Hid (winS t W H x y = sumR (fun j => sumR (fun i => t (j * W + i)) xa cx) ya cy ∧ winN W H x y = cy * cx) := by
    rw [hxa, hya, hcx, hcy]; exact ⟨rfl, rfl⟩
  clear hxa hya hxh hyh hcx hcy hu1 hu2 hu3 hv1 hv2 hv3
  clear h3 hn hd ht
  go_enter Try.func25, Try.ntmps25
  go_wp2_with fail
  go_loopw [10, 8, 9] (fun j s q wr => ∃ k : Nat, k ≤ cy ∧ j = .int .i64 ((ya + k : Nat) : Int) ∧ s = .int .i64 ((sumR (fun j => sumR (fun i => t (j * W + i)) xa cx) ya k : Nat) : Int) ∧ q = .int .i64 ((k * cx : Nat) : Int) ∧ Hid (∃ n, wr = w.drewN n)) (fun j _ _ _ => cy + ya - (intOf j).toNat)
  case atStart => exact ⟨0, by omega, by rw [Nat.add_zero], rfl, by rw [Nat.zero_mul]; rfl, 0, rfl⟩
  case round =>
    obtain ⟨k, hk, rfl, rfl, rfl, HR⟩ := hrel
    obtain ⟨wb, rfl⟩ : ∃ wb : World, wb = wr := ⟨_, rfl⟩
    obtain ⟨R, hR⟩ : ∃ R : Nat → Nat, R = fun j => sumR (fun i => t (j * W + i)) xa cx := ⟨_, rfl⟩
    have hRb : ∀ j, R j ≤ 3 * 255 := fun j => by
      have h := sumR_bd (f := fun i => t (j * W + i)) (a := xa) (M := 255) (fun i => by have := HT.out (j * W + i); omega) cx
      rw [hR]
      have h2 : cx * 255 ≤ 3 * 255 := Nat.mul_le_mul kx.2.1 (Nat.le_refl _)
      show sumR _ _ _ ≤ _
      omega
    have hSb := sumR_bd (a := ya) hRb k
    have hSb2 : k * (3 * 255) ≤ 3 * (3 * 255) := Nat.mul_le_mul (by omega) (Nat.le_refl _)
    have hQb : k * cx ≤ 3 * 3 := Nat.mul_le_mul (by omega) kx.2.1
    rw [← hR] at HWS ⊢
    obtain ⟨S, hS⟩ : ∃ S, S = sumR R ya k := ⟨_, rfl⟩
    obtain ⟨Q, hQ⟩ : ∃ Q, Q = k * cx := ⟨_, rfl⟩
    obtain ⟨J, hJ⟩ : ∃ J, J = ya + k := ⟨_, rfl⟩
    rw [← hS, ← hQ, ← hJ]
    have hS9 : S ≤ 3000 := by omega
    have hQ9 : Q ≤ 9 := by omega
    have HK : Hid (S = sumR R ya k ∧ Q = k * cx ∧ J = ya + k) := ⟨hS, hQ, hJ⟩
    have HRR : Hid (∀ j, R j = sumR (fun i => t (j * W + i)) xa cx) := fun j => by rw [hR]
    obtain ⟨n0, hn0⟩ := HR.out
    have d0 : wb.cell? ⟨g, 0, none⟩ = some (.int .i64 W) := by rw [hn0]; exact c0
    have d1 : wb.cell? ⟨g, 1, none⟩ = some (.int .i64 H) := by rw [hn0]; exact c1
    have d2 : wb.cell? ⟨g, 2, none⟩ = some (.slice (some ⟨d, 0, none⟩) n c) := by rw [hn0]; exact c2
    have HDB : Hid (FTab encB wb d (W * H) t) := by rw [hn0]; exact HD.out.drewN n0
    clear hR hRb hSb hSb2 hQb hS hQ hn0 hJ
    by_cases hlt : k < cy
    · have hJh : J ≤ yh ∧ J < H := by have := HK.out.2.2; omega
      obtain ⟨hJ1, hJ2⟩ := hJh
      have j1 : (J : Int) ≤ (yh : Int) := by omega
      go_wp2_with fail
      go_loopw [11, 8, 9] (fun i s q wr => ∃ k2 : Nat, k2 ≤ cx ∧ i = .int .i64 ((xa + k2 : Nat) : Int) ∧ s = .int .i64 ((S + sumR (fun i => t (J * W + i)) xa k2 : Nat) : Int) ∧ q = .int .i64 ((Q + k2 : Nat) : Int) ∧ Hid (∃ n, wr = wb.drewN n)) (fun i _ _ _ => cx + xa - (intOf i).toNat)
      case atStart => exact ⟨0, by omega, by rw [Nat.add_zero], rfl, by rw [Nat.add_zero], 0, rfl⟩
      case round =>
        obtain ⟨k2, hk2, rfl, rfl, rfl, HR2⟩ := hrel
        obtain ⟨wc, rfl⟩ : ∃ wb : World, wb = wr := ⟨_, rfl⟩
        obtain ⟨n1, hn1⟩ := HR2.out
        have f0 : wc.cell? ⟨g, 0, none⟩ = some (.int .i64 W) := by rw [hn1]; exact d0
        have f2 : wc.cell? ⟨g, 2, none⟩ = some (.slice (some ⟨d, 0, none⟩) n c) := by rw [hn1]; exact d2
        have f1 : wc.cell? ⟨g, 1, none⟩ = some (.int .i64 H) := by rw [hn1]; exact d1
        have hfd : FTab encB wc d (W * H) t := by rw [hn1]; exact HDB.out.drewN n1
        have hPb := sumR_bd (f := fun i => t (J * W + i)) (a := xa) (M := 255) (fun i => by have := HT.out (J * W + i); omega) k2
        have hPb2 : k2 * 255 ≤ 3 * 255 := Nat.mul_le_mul (by omega) (Nat.le_refl _)
        by_cases hlt2 : k2 < cx
        · obtain ⟨X, hX⟩ : ∃ X, X = xa + k2 := ⟨_, rfl⟩
          have hXW : X < W := by omega
          have hXh : X ≤ xh := by omega
          have i1 : (X : Int) ≤ (xh : Int) := by omega
          obtain ⟨S2, hS2⟩ : ∃ S2, S2 = S + sumR (fun i => t (J * W + i)) xa k2 := ⟨_, rfl⟩
          obtain ⟨Q2, hQ2⟩ : ∃ Q2, Q2 = Q + k2 := ⟨_, rfl⟩
          rw [← hX, ← hS2, ← hQ2]
          have hS29 : S2 ≤ 6000 := by omega
          have hQ29 : Q2 ≤ 20 := by omega
          obtain ⟨idx, hidx⟩ : ∃ v, v = J * W + X := ⟨_, rfl⟩
          have hin : idx < n := by rw [hidx, HN.out]; exact row_lt hJ2 hXW
          have hcd := hfd.at' idx (by rw [← HN.out]; exact hin)
          obtain ⟨b, hb⟩ : ∃ b, b = t idx := ⟨_, rfl⟩
          have hcd2 : wc.cell? ⟨d, idx, none⟩ = some (.int .u8 (b : Int)) := by rw [hb]; exact hcd
          have hb9 : b < 256 := by rw [hb]; exact HT.out idx
          obtain ⟨jW, hjW⟩ : ∃ v, v = J * W := ⟨_, rfl⟩
          have z1 : IntKind.i64.wrap ((J : Int) * (W : Int)) = (jW : Int) := by rw [hjW, ← Int.natCast_mul]; exact IntWalk.i64_in _ (by rw [← hjW]; omega)
          have z2 : IntKind.i64.wrap ((jW : Int) + (X : Int)) = (idx : Int) := by rw [hidx, ← hjW, Int.natCast_add]; exact IntWalk.i64_in _ (by omega)
          have z3 : IntKind.i64.wrap (b : Int) = (b : Int) := IntWalk.i64_in _ (by omega)
          obtain ⟨S3, hS3⟩ : ∃ v, v = S2 + b := ⟨_, rfl⟩
          have z4 : IntKind.i64.wrap ((S2 : Int) + (b : Int)) = (S3 : Int) := by rw [hS3, Int.natCast_add]; exact IntWalk.i64_in _ (by omega)
          obtain ⟨Q3, hQ3⟩ : ∃ v, v = Q2 + 1 := ⟨_, rfl⟩
          have z5 : IntKind.i64.wrap ((Q2 : Int) + 1) = (Q3 : Int) := by rw [hQ3, Int.natCast_add]; exact IntWalk.i64_in _ (by omega)
          obtain ⟨X3, hX3⟩ : ∃ v, v = X + 1 := ⟨_, rfl⟩
          have z6 : IntKind.i64.wrap ((X : Int) + 1) = (X3 : Int) := by rw [hX3, Int.natCast_add]; exact IntWalk.i64_in _ (by omega)
          have HNX : Hid (X3 = xa + (k2 + 1) ∧ S3 = S + sumR (fun i => t (J * W + i)) xa (k2 + 1) ∧ Q3 = Q + (k2 + 1)) := by
            refine ⟨by omega, ?_, by omega⟩
            rw [hS3, hS2, hb, hidx, hX]
            show _ = S + (sumR _ xa k2 + t (J * W + (xa + k2)))
            omega
          have HM : Hid (cx + xa - X3 < cx + xa - X) := by show _ < _; omega
          clear hX hS2 hQ2 hidx hb hjW hS3 hQ3 hX3 hcd hfd hn1 hPb hPb2
          go_upto_region 7 with fail
          go_quiet (fail)
          have HW2 : Hid (∃ n, wc.drewN nq = wb.drewN n) := by
            obtain ⟨n1, hn1⟩ := HR2.out
            exact ⟨n1 + nq, by rw [hn1, World.drewN_drewN]⟩
          clear HR2
          go_wp2_with fail
          go_roundw
          case rel => exact ⟨k2 + 1, by omega, by rw [HNX.out.1], by rw [HNX.out.2.1], by rw [HNX.out.2.2], HW2⟩
          case measure => simp [intOf]; exact HM.out
        · obtain rfl : cx = k2 := by omega
          have i1 : ¬ ((xa + cx : Nat) : Int) ≤ (xh : Int) := by omega
          obtain ⟨X, hX⟩ : ∃ X, X = xa + cx := ⟨_, rfl⟩
          rw [← hX] at i1 ⊢
          have i2 : decide ((X : Int) ≤ (xh : Int)) = false := decide_eq_false i1
          have i3 : decide (X ≤ xh) = false := decide_eq_false (by omega)
          obtain ⟨S2, hS2⟩ : ∃ S2, S2 = S + sumR (fun i => t (J * W + i)) xa cx := ⟨_, rfl⟩
          obtain ⟨Q2, hQ2⟩ : ∃ Q2, Q2 = Q + cx := ⟨_, rfl⟩
          rw [← hS2, ← hQ2]
          obtain ⟨J3, hJ3⟩ : ∃ v, v = J + 1 := ⟨_, rfl⟩
          have z6 : IntKind.i64.wrap ((J : Int) + 1) = (J3 : Int) := by rw [hJ3, Int.natCast_add]; exact IntWalk.i64_in _ (by omega)
          have HNX : Hid (J3 = ya + (k + 1) ∧ S2 = sumR R ya (k + 1) ∧ Q2 = (k + 1) * cx) := by
            obtain ⟨h1, h2, h3⟩ := HK.out
            refine ⟨by omega, ?_, by rw [hQ2, h2, Nat.succ_mul]⟩
            show _ = sumR R ya k + R (ya + k)
            rw [hS2, h1, HRR.out, ← h3]
          have HM : Hid (cy + ya - J3 < cy + ya - J) := by have := HK.out.2.2; show _ < _; omega
          have HW2 : Hid (∃ n, wc = w.drewN n) := by
            obtain ⟨n0, h0⟩ := HR.out
            exact ⟨n0 + n1, by rw [hn1, h0, World.drewN_drewN]⟩
          have HRE : Hid (R = fun j => sumR (fun i => t (j * W + i)) xa cx) := funext HRR.out
          clear hS2 hQ2 hJ3 hX hPb hPb2 hfd hn1 HR2 i1
          go_wp2_with fail
          go_roundw
          case rel => exact ⟨k + 1, by omega, by rw [HNX.out.1], by rw [HNX.out.2.1, HRE.out], by rw [HNX.out.2.2], HW2⟩
          case measure => simp [intOf]; exact HM.out
    · obtain rfl : cy = k := by omega
      have i1 : ¬ (J : Int) ≤ (yh : Int) := by have := HK.out.2.2; omega
      have i2 : decide ((J : Int) ≤ (yh : Int)) = false := decide_eq_false i1
      have i3 : decide (J ≤ yh) = false := decide_eq_false (by omega)
      have HF : Hid (S = winS t W H x y ∧ Q = winN W H x y) := ⟨by rw [HWS.out.1]; exact HK.out.1, by rw [HWS.out.2]; exact HK.out.2.1⟩
      clear i1
      go_wp2_with fail
      go_ret2
      obtain ⟨n0, hn0⟩ := HR.out
      exact ⟨by rw [← HF.out.1, ← HF.out.2]; rfl, n0, hn0⟩
end Go.Proofs.Ytcadgjhfdolejaa
