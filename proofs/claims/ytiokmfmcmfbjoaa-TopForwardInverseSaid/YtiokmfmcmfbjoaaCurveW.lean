/-
  The walks of curve.Check and curve.Raw. Own text.
-/
import Derived.Test.YtiokmfmcmfbjoaaCurveV
import Derived.Test.YtiokmfmcmfbjoaaFTab
import Derived.RegionTactic
import Derived.BigRegion
import Derived.BigQuiet
import Derived.Handy
namespace Go.Proofs.Ytiokmfmcmfbjoaa
open Go.RowKit
set_option linter.unusedVariables false
/-- A check: zero just where all is well. -/
def RetChk (ok : Prop) (w : World) (e : Ending) (w' : World) : Prop := ∃ c : Int, e = .returned (.int .i64 c) ∧ (c = 0 ↔ ok) ∧ Below w.heap.size w w'
theorem RetChk.no {ok : Prop} {w w' : World} {c : Int} (hc : c ≠ 0) (hn : ¬ ok) (hb : Below w.heap.size w w') : RetChk ok w (.returned (.int .i64 c)) w' := ⟨c, rfl, ⟨fun h => absurd h hc, fun h => absurd h hn⟩, hb⟩
theorem RetChk.yes {ok : Prop} {w w' : World} (hy : ok) (hb : Below w.heap.size w w') : RetChk ok w (.returned (.int .i64 0)) w' := ⟨0, rfl, ⟨fun _ => hy, fun _ => rfl⟩, hb⟩
theorem Flat.pt {w : World} {oa : Option Addr} {pts : List (Int × Int)} (h : Flat w 2 encInt2 oa pts) {i : Nat} (hi : i < pts.length) :
    ∃ b off, oa = some ⟨b, off, none⟩ ∧ w.cell? ⟨b, off + i * 2, none⟩ = some (.int .i64 (px pts i)) ∧ w.cell? ⟨b, off + i * 2 + 1, none⟩ = some (.int .i64 (py pts i)) := by
  obtain ⟨b, off, e, h1, h2⟩ := h.int2 hi
  exact ⟨b, off, e, by rw [px_eq hi]; exact h1, by rw [py_eq hi]; exact h2⟩
set_option maxRecDepth 100000 in
set_option maxHeartbeats 2000000 in
theorem ccheck_any (oa : Option Addr) (pts : List (Int × Int)) (cap : Nat) (w : World) (hm : pts.length ≤ maxLen) (hx : Flat w 2 encInt2 oa pts) :
    Calls Try.prog 12 #[.agg #[.slice oa pts.length cap]] w (RetChk (OkCurve pts) w) := by
  have hm9 : pts.length ≤ 9223372036854775807 := by unfold maxLen at hm; omega
  have hb0 := balloc (Below.refl _ w) (.cells #[.slice oa pts.length cap] 47)
  obtain ⟨n, hn⟩ : ∃ n : Nat, pts.length = n := ⟨_, rfl⟩
  by_cases h33 : 33 < pts.length
  · have hno : ¬ OkCurve pts := fun h => by have := h.most; omega
    rw [hn] at h33 hm9 hb0 ⊢
    go_enter Try.func12, Try.ntmps12
    go_wp2
    go_ret
    exact RetChk.no (by omega) hno hb0
  · by_cases h2 : pts.length < 2
    · have hno : ¬ OkCurve pts := fun h => by have := h.two; omega
      rw [hn] at h33 h2 hm9 hb0 ⊢
      go_enter Try.func12, Try.ntmps12
      go_wp2
      go_ret
      exact RetChk.no (by omega) hno hb0
    · have HX := Lib.hid hx
      have k0 : (w.alloc (.cells #[.slice oa pts.length cap] 47)).cell? ⟨w.heap.size, 0, none⟩ = some (.slice oa pts.length cap) := by rw [cell_of_row _ w.heap.size _ _ _ (0, 0) (heap_alloc_new w _)]; rfl
      have HK := Lib.hid k0
      have HB0 := Lib.hid hb0
      rw [hn] at h33 h2 hm9 HK HB0 ⊢
      have HN := Lib.hid hn
      clear hx k0 hb0 hn hm
      go_enter Try.func12, Try.ntmps12
      go_wp2
      generalize hW : w.alloc (.cells #[.slice oa n cap] 47) = W1 at *
      clear hW
      go_loopw [18] (fun i wr => ∃ k : Nat, k ≤ n ∧ i = .int .i64 k ∧ Hid (∀ j, j < k → PtOk pts j) ∧ Hid (∀ j, j + 1 < k → StepUp pts j) ∧ Below W1.heap.size W1 wr) (fun i _ => n - (intOf i).toNat)
      case atStart => exact ⟨0, by omega, rfl, Lib.hid (fun j h => by omega), Lib.hid (fun j h => by omega), Below.refl _ _⟩
      case round =>
        obtain ⟨k, hk, rfl, HP, HS, hb⟩ := hrel
        have hbw := Lib.hid (bthen HB0.out hb)
        have c0 : wr.cell? ⟨w.heap.size, 0, none⟩ = some (.slice oa n cap) := keepCell hb HK.out
        by_cases hlt : k < n
        · have hkp : k < pts.length := by rw [HN.out]; exact hlt
          obtain ⟨b, off, rfl, e1, e2⟩ := (HX.out.below hbw.out).pt hkp
          by_cases hp : PtOk pts k
          · have HP2 : Hid (∀ j, j < k + 1 → PtOk pts j) := fun j hj => by
              by_cases e : j = k
              · subst e; exact hp
              · exact HP.out j (by omega)
            unfold PtOk at hp
            obtain ⟨p1, p2, p3, p4⟩ := hp
            cases k with
            | zero =>
              have hbn := Lib.hid hb
              have HSN : Hid (∀ j, j + 1 < 0 + 1 → StepUp pts j) := fun j hj => by omega
              generalize px pts 0 = x at *
              generalize py pts 0 = y at *
              clear hb
              simp only [Nat.zero_mul, Nat.add_zero] at e1 e2
              have q0 : (((0 : Nat) : Int)) = 0 := rfl
              rw [q0]
              go_wp2
              go_quiet (fail)
              go_wp2
              go_roundw
              case rel => exact ⟨1, by omega, by go_num, HP2, HSN, bdrewN (balloc hbn.out _) _⟩
              case measure => simp [intOf]; omega
            | succ q =>
              have hqp : q < pts.length := by omega
              obtain ⟨b', off', e, e3, e4⟩ := (HX.out.below hbw.out).pt hqp
              cases e
              have hbt := cell?_lt c0
              have hbb := cell?_lt e3
              simp only at hbt hbb
              have q1 : ((q + 1 : Nat) : Int) = (q : Int) + 1 := by omega
              have q2 : (0 : Int) < (q : Int) + 1 := by omega
              have q3 : (0 : Int) ≤ (q : Int) := by omega
              have q4 : (q : Int) < (n : Int) := by omega
              have q6 : IntKind.i64.wrap (q : Int) = (q : Int) := IntWalk.i64_in _ (by omega)
              have hbn := Lib.hid hb
              obtain ⟨x, hx⟩ : ∃ x, x = px pts (q + 1) := ⟨_, rfl⟩
              obtain ⟨y, hy⟩ : ∃ y, y = py pts (q + 1) := ⟨_, rfl⟩
              obtain ⟨x0, hx0⟩ : ∃ x, x = px pts q := ⟨_, rfl⟩
              obtain ⟨y0, hy0⟩ : ∃ y, y = py pts q := ⟨_, rfl⟩
              rw [← hx] at e1 p1 p2
              rw [← hy] at e2 p3 p4
              rw [← hx0] at e3
              rw [← hy0] at e4
              have HXY := Lib.hid (And.intro hx (And.intro hy (And.intro hx0 hy0)))
              clear hx hy hx0 hy0 hb
              rw [q1]
              by_cases hs1 : x ≤ x0
              · have hno : Hid (¬ OkCurve pts) := fun h => by
                  obtain ⟨a1, a2, a3, a4⟩ := HXY.out
                  have := (h.up q (by omega)).1
                  omega
                go_wp2
                go_quiet (fail)
                go_wp2
                go_ret
                exact RetChk.no (by omega) hno.out (bdrewN (balloc hbw.out _) _)
              · by_cases hs2 : y < y0
                · have hno : Hid (¬ OkCurve pts) := fun h => by
                    obtain ⟨a1, a2, a3, a4⟩ := HXY.out
                    have := (h.up q (by omega)).2
                    omega
                  go_wp2
                  go_quiet (fail)
                  go_wp2
                  go_ret
                  exact RetChk.no (by omega) hno.out (bdrewN (balloc hbw.out _) _)
                · have HSN : Hid (∀ j, j + 1 < q + 1 + 1 → StepUp pts j) := fun j hj => by
                    by_cases e : j = q
                    · subst e
                      obtain ⟨a1, a2, a3, a4⟩ := HXY.out
                      unfold StepUp
                      omega
                    · exact HS.out j (by omega)
                  go_wp2
                  go_quiet (fail)
                  go_wp2
                  go_roundw
                  case rel => exact ⟨q + 1 + 1, by omega, by go_num, HP2, HSN, bdrewN (balloc hbn.out _) _⟩
                  case measure => simp [intOf]; omega
          · have hno : Hid (¬ OkCurve pts) := fun h => hp (h.rng k hkp)
            unfold PtOk at hp
            generalize px pts k = x at *
            generalize py pts k = y at *
            go_wp2
            all_goals
              go_ret
              exact RetChk.no (by omega) hno.out (balloc hbw.out _)
        · obtain rfl : k = n := by omega
          have h0p : 0 < pts.length := by have := HN.out; omega
          have hlp : k - 1 < pts.length := by have := HN.out; omega
          obtain ⟨b, off, rfl, e1, _⟩ := (HX.out.below hbw.out).pt h0p
          obtain ⟨b', off', e, e3, _⟩ := (HX.out.below hbw.out).pt hlp
          cases e
          obtain ⟨q, hq⟩ : ∃ q, q = k - 1 := ⟨_, rfl⟩
          have hgl : IntKind.i64.wrap ((k : Int) - 1) = (q : Int) := by rw [IntWalk.i64_in _ (by omega)]; omega
          have q3 : (0 : Int) ≤ (q : Int) := by omega
          have q4 : (q : Int) < (k : Int) := by omega
          have q5 : (k : Int) - 1 = (q : Int) := by omega
          rw [← hq] at e3
          obtain ⟨x, hx⟩ : ∃ x, x = px pts 0 := ⟨_, rfl⟩
          obtain ⟨x1, hx1⟩ : ∃ x, x = px pts q := ⟨_, rfl⟩
          rw [← hx] at e1
          rw [← hx1] at e3
          have HXY := Lib.hid (And.intro hx (And.intro hx1 hq))
          clear hx hx1 hq hb
          simp only [Nat.zero_mul, Nat.add_zero] at e1
          have hiff : Hid (OkCurve pts ↔ x = 0 ∧ x1 = 65280) := by
            obtain ⟨a1, a2, a3⟩ := HXY.out
            constructor
            · intro h
              have h1 := h.first
              have h2 := h.last
              rw [HN.out, ← a3] at h2
              exact ⟨by omega, by omega⟩
            · rintro ⟨h1, h2⟩
              refine ⟨by rw [HN.out]; omega, by rw [HN.out]; omega, fun j hj => HP.out j (by rw [HN.out] at hj; exact hj), fun j hj => HS.out j (by rw [HN.out] at hj; exact hj), by omega, ?_⟩
              rw [HN.out, ← a3]
              omega
          by_cases hx0 : x = 0
          · by_cases hx9 : x1 = 65280
            · have hyes := Lib.hid (hiff.out.2 ⟨hx0, hx9⟩)
              subst hx0 hx9
              clear hiff
              go_wp2
              go_ret
              exact RetChk.yes hyes.out hbw.out
            · have hno : Hid (¬ OkCurve pts) := fun h => hx9 (hiff.out.1 h).2
              have t1 : (x1 != 65280) = true := by simpa using hx9
              subst hx0
              clear hiff hx9
              go_wp2
              go_ret
              exact RetChk.no (by omega) hno.out hbw.out
          · have hno : Hid (¬ OkCurve pts) := fun h => hx0 (hiff.out.1 h).1
            have t1 : (x != 0) = true := by simpa using hx0
            clear hiff hx0
            go_wp2
            go_ret
            exact RetChk.no (by omega) hno.out hbw.out
end Go.Proofs.Ytiokmfmcmfbjoaa
