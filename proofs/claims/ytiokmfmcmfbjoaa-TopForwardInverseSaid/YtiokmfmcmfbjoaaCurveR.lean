/-
  The walk of curve.Raw. Own text.
-/
import Derived.Test.YtiokmfmcmfbjoaaCurveW
namespace Go.Proofs.Ytiokmfmcmfbjoaa
open Go.RowKit
set_option linter.unusedVariables false
/-- A quiet call behind a region that drew. -/
theorem quiet_drew {P : Program} {f : FuncId} {args : Array Value} {w : World} {n : Nat} {v : Value}
    (h : Calls P f args (w.drewN (1 + n)) fun e w' => e = .returned v ∧ w.drewN (1 + n) = w') : Calls P f args (w.drewN (1 + n)) fun e w'' => e = .returned v ∧ ∃ m, w'' = w.drewN (1 + m) :=
  h.mono fun _ _ ⟨he, hm⟩ => ⟨he, n, hm.symm⟩
def RetCurve (pts : List (Int × Int)) (x : Int) (w : World) (e : Ending) (w' : World) : Prop := e = .returned (.int .i64 (curveV pts x)) ∧ CurveAt pts x (curveV pts x) ∧ Below w.heap.size w w'
set_option maxRecDepth 100000 in
set_option maxHeartbeats 2000000 in
theorem craw_any (oa : Option Addr) (pts : List (Int × Int)) (cap : Nat) (x : Int) (w : World) (hx : Flat w 2 encInt2 oa pts) (hok : OkCurve pts) (h0 : 0 ≤ x) (h1 : x ≤ 65280) :
    Calls Try.prog 31 #[.agg #[.slice oa pts.length cap], .int .i64 x] w (RetCurve pts x w) := by
  have HX := Lib.hid hx
  obtain ⟨b, off, rfl, _, _⟩ := hx.pt (i := 0) (by have := hok.two; omega)
  have HB0 := Lib.hid (balloc (Below.refl _ w) (.cells #[.slice (some ⟨b, off, none⟩) pts.length cap] 47))
  obtain ⟨n, hn⟩ : ∃ n : Nat, pts.length = n := ⟨_, rfl⟩
  have hn2 := hok.two
  have hn3 := hok.most
  have HO := Lib.hid hok
  obtain ⟨n1, hn1⟩ : ∃ n1, n = n1 + 1 := ⟨n - 1, by omega⟩
  have hn4 : 1 ≤ n1 := by omega
  rw [hn] at hn2 hn3 HB0 ⊢
  have HN := Lib.hid hn
  have g1 : IntKind.i64.wrap ((n : Int) - 1) = (n1 : Int) := by rw [IntWalk.i64_in _ (by omega)]; omega
  have hn5 : n1 < n := by omega
  have HN1 := Lib.hid hn1
  have hcell : Hid (∀ W, Below w.heap.size w W → ∀ i, i < n → W.cell? ⟨b, off + i * 2, none⟩ = some (.int .i64 (px pts i)) ∧ W.cell? ⟨b, off + i * 2 + 1, none⟩ = some (.int .i64 (py pts i))) := fun W hW i hi => by
    obtain ⟨b', off', e, h1, h2⟩ := (HX.out.below hW).pt (i := i) (by rw [HN.out]; exact hi)
    cases e
    exact ⟨h1, h2⟩
  clear hx hok hn hn1
  go_enter Try.func31, Try.ntmps31
  go_wp2
  go_quiet (fail)
  go_wp2
  have k0 : ((w.alloc (.cells #[.slice (some ⟨b, off, none⟩) n cap] 47)).drewN nq).cell? ⟨w.heap.size, 0, none⟩ = some (.slice (some ⟨b, off, none⟩) n cap) := by
    show (w.alloc _).cell? _ = _
    rw [cell_of_row _ w.heap.size _ _ _ (0, 0) (heap_alloc_new w _)]; rfl
  have HB1 := Lib.hid (bdrewN HB0.out nq)
  generalize (w.alloc (.cells #[.slice (some ⟨b, off, none⟩) n cap] 47)).drewN nq = W1 at *
  have hst : Hid (OnPart pts 0 x → True) := fun _ => trivial
  have hlo : Hid (px pts 0 ≤ x ∧ (x < px pts n1 ∨ n1 + 1 = n)) := ⟨by rw [HO.out.first]; exact h0, .inr HN1.out.symm⟩
  go_loop [5, 6] (fun lo hi => ∃ i j : Nat, i < j ∧ j ≤ n1 ∧ lo = .int .i64 i ∧ hi = .int .i64 j ∧ Hid (px pts i ≤ x ∧ (x < px pts j ∨ j + 1 = n))) (fun lo hi => (intOf hi - intOf lo).toNat)
  case atStart => exact ⟨0, n1, by omega, Nat.le_refl _, rfl, rfl, hlo⟩
  case round =>
    clear hlo hst
    obtain ⟨i, j, hij, hj, rfl, rfl, HI⟩ := hrel
    by_cases hgo : 1 < j - i
    · obtain ⟨m, hm⟩ : ∃ m : Nat, m = (i + j) / 2 := ⟨_, rfl⟩
      have gm : ((i : Int) + (j : Int)) / 2 = (m : Int) := by omega
      have m1 : i < m := by omega
      have m2 : m < j := by omega
      obtain ⟨c1, c2⟩ := hcell.out W1 HB1.out m (by omega)
      have t1 : (1 : Int) < (j : Int) - (i : Int) := by omega
      have t2 : (m : Int) < (n : Int) := by omega
      have t3 : (0 : Int) ≤ (m : Int) := by omega
      replace hm := Lib.hid hm
      obtain ⟨xm, hxm⟩ : ∃ xm, xm = px pts m := ⟨_, rfl⟩
      rw [← hxm] at c1
      have HXM := Lib.hid hxm
      clear hxm c2
      by_cases hle : xm ≤ x
      · have HNX : Hid (px pts m ≤ x ∧ (x < px pts j ∨ j + 1 = n)) := ⟨by rw [← HXM.out]; exact hle, HI.out.2⟩
        go_wp2
        go_round
        case rel => exact ⟨m, j, by omega, by omega, by rw [gm], rfl, HNX⟩
        case measure => simp [intOf]; omega
      · have HNX : Hid (px pts i ≤ x ∧ (x < px pts m ∨ m + 1 = n)) := ⟨HI.out.1, .inl (by rw [← HXM.out]; omega)⟩
        go_wp2
        go_round
        case rel => exact ⟨i, m, by omega, by omega, rfl, by rw [gm], HNX⟩
        case measure => simp [intOf]; omega
    · obtain rfl : j = i + 1 := by omega
      obtain ⟨c1, c2⟩ := hcell.out W1 HB1.out i (by omega)
      obtain ⟨c3, c4⟩ := hcell.out W1 HB1.out (i + 1) (by omega)
      have hop : Hid (OnPart pts i x) := ⟨by rw [HN.out]; omega, HI.out.1, by rw [HN.out]; rcases HI.out.2 with h | h; exact .inl h; exact .inr (by omega)⟩
      have hup := HO.out.up i (by rw [HN.out]; omega)
      have r1 := HO.out.rng i (by rw [HN.out]; omega)
      have r2 := HO.out.rng (i + 1) (by rw [HN.out]; omega)
      have hE : Hid (curveV pts x = py pts i + nearV ((py pts (i + 1) - py pts i) * (x - px pts i)) (px pts (i + 1) - px pts i)) := curveV_eq HO.out ⟨i, hop.out, rfl⟩
      have hAt : Hid (CurveAt pts x (curveV pts x)) := by
        have : CurveAt pts x (partV pts i x) := ⟨i, hop.out, rfl⟩
        rw [curveV_eq HO.out this]
        exact this
      have hvb := hAt.out.bd HO.out h1
      have hlo2 := HI.out.1
      unfold StepUp at hup
      unfold PtOk at r1 r2
      rw [hE.out] at hvb
      obtain ⟨x0, hx0⟩ : ∃ x0, x0 = px pts i := ⟨_, rfl⟩
      obtain ⟨y0, hy0⟩ : ∃ y0, y0 = py pts i := ⟨_, rfl⟩
      obtain ⟨x1, hx1⟩ : ∃ x1, x1 = px pts (i + 1) := ⟨_, rfl⟩
      obtain ⟨y1, hy1⟩ : ∃ y1, y1 = py pts (i + 1) := ⟨_, rfl⟩
      rw [← hx0, ← hy0, ← hx1, ← hy1] at hup hE hvb
      rw [← hx0, ← hy0] at r1
      rw [← hx1, ← hy1] at r2
      rw [← hx0] at c1 hlo2
      rw [← hy0] at c2
      rw [← hx1] at c3
      rw [← hy1] at c4
      clear hx0 hy0 hx1 hy1 HI hop
      have hpb := mul_bd (y1 - y0) (x - x0) 65280 65280 (by omega) (by omega) (by omega) (by omega)
      have gp : IntKind.i64.wrap ((y1 - y0) * (x - x0)) = (y1 - y0) * (x - x0) := IntWalk.i64_in _ (by omega)
      have ga : IntKind.i64.wrap (y1 - y0) = y1 - y0 := IntWalk.i64_in _ (by omega)
      have gb : IntKind.i64.wrap (x - x0) = x - x0 := IntWalk.i64_in _ (by omega)
      have gc : IntKind.i64.wrap (x1 - x0) = x1 - x0 := IntWalk.i64_in _ (by omega)
      have gd : IntKind.i64.wrap (y0 + nearV ((y1 - y0) * (x - x0)) (x1 - x0)) = y0 + nearV ((y1 - y0) * (x - x0)) (x1 - x0) := IntWalk.i64_in _ (by omega)
      have HNR : Hid (∀ W, Calls Try.prog 25 #[.int .i64 ((y1 - y0) * (x - x0)), .int .i64 (x1 - x0)] W fun e w' => e = .returned (.int .i64 (nearV ((y1 - y0) * (x - x0)) (x1 - x0))) ∧ W = w') := fun W => nearest_any _ _ W (by omega) (by omega) (by omega) (by omega)
      have q1 : ((i + 1 : Nat) : Int) = (i : Int) + 1 := by omega
      have q2 : (i : Int) + 1 < (n : Int) := by omega
      have q3 : (i : Int) < (n : Int) := by omega
      have q4 : (0 : Int) ≤ (i : Int) + 1 := by omega
      have q5 : (0 : Int) ≤ (i : Int) := by omega
      have hbt := cell?_lt k0
      have hbb := cell?_lt c1
      simp only at hbt hbb
      rw [q1]
      go_wp2
      go_region
      all_goals
        go_wp2
        go_quiet ((go_at_call 25; exact quiet_drew (HNR.out _)))
        go_wp2
        go_ret
        refine ⟨by rw [hE.out]; rfl, hAt.out, bdrewN ?_ _⟩
        first
          | exact balloc (balloc HB1.out _) _
          | exact (balloc (balloc HB1.out _) _).drew
end Go.Proofs.Ytiokmfmcmfbjoaa
