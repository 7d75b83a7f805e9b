/-
  Walks for the laws of printworkskeep4 on paper. Own text.
-/
import Derived.Test.YtdgmdohmjdfgdaaNeed
import Derived.Test.YtdgmdohmjdfgdaaRegion
import Derived.Test.YtdgmdohmjdfgdaaNest
import Derived.Test.YtdgmdohmjdfgdaaSteps
namespace Go.Proofs.Ytdgmdohmjdfgdaa
open Go.RowKit
set_option linter.unusedVariables false
def stepV (s : Int × Int) : Int × Int := (wi s.1 0 1000, wi s.2 0 999)
def stepsV (xs : List (Int × Int)) : List (Int × Int) := (xs.take 8).map stepV
theorem elemStep : ElemType Try.prog 36 (.agg #[.int .i64 0, .int .i64 0]) 2 16 := ElemType.mk (by kernel_rfl) rfl (by decide)
/-- Returns a new slice of steps. -/
def RetSteps (ys : List (Int × Int)) (w : World) (e : Ending) (w' : World) : Prop :=
  ∃ oa cap, e = .returned (.slice oa ys.length cap) ∧ ys.length ≤ maxLen ∧ Flat w' 2 encInt2 oa ys ∧ Below w.heap.size w w' ∧ (oa = none → cap = 0)
set_option maxHeartbeats 2000000 in
theorem steps_any (oa : Option Addr) (xs : List (Int × Int)) (cap : Nat) (w : World) (hm : xs.length ≤ maxLen) (hx : Flat w 2 encInt2 oa xs) (hb64 : ∀ x ∈ xs, i64ok x.1 ∧ i64ok x.2) :
    Calls Try.prog 20 #[.slice oa xs.length cap] w (RetSteps (stepsV xs) w) := by
  have hm : xs.length ≤ 9223372036854775807 := by unfold maxLen at hm; omega
  have HB := Lib.hid hb64; clear hb64
  go_enter Try.func20, Try.ntmps20
  go_wp2_with fail
  go_loopw [3, 4] (fun out i wr => ∃ k : Nat, k ≤ xs.length ∧ k ≤ 8 ∧ i = .int .i64 k ∧ Own wr w.heap.size 36 2 encInt2 out ((xs.take k).map stepV) ∧ Below w.heap.size w wr) (fun _ i _ => xs.length - (intOf i).toNat)
  case atStart => exact ⟨0, by omega, by omega, rfl, Own.nil _ _ _ _ _, Below.refl _ _⟩
  case round =>
    obtain ⟨k, hk, hk8, rfl, hown, hb⟩ := hrel
    by_cases hlt : k < xs.length ∧ k < 8
    · obtain ⟨hlt, hlt8⟩ := hlt
      have hown0 := hown
      obtain ⟨b, off, rfl, hc1, hc2⟩ := (hx.below hb).int2 hlt
      have E2 : Hid ((xs.take (k + 1)).map stepV = (xs.take k).map stepV ++ [stepV xs[k]]) := by
        rw [List.take_succ_eq_append_getElem hlt, List.map_append]; rfl
      have hlen : ((xs.take k).map stepV).length ≤ 8 := by rw [List.length_map, List.length_take]; omega
      have hbB : b < w.heap.size := by
        obtain ⟨b', off', e', c1, _⟩ := hx.int2 hlt
        simp only [Option.some.injEq, Addr.mk.injEq] at e'
        obtain ⟨rfl, rfl, _⟩ := e'
        exact cell?_lt c1
      have hne : some b ≠ u3.ownBlock := by
        intro e
        have := hown.lt b e.symm
        omega
      have hgk0 : (0 : Int) ≤ (k : Int) := by omega
      have hgk1 : (k : Int) < (xs.length : Int) := by omega
      go_wp2_with fail
      go_region_held3 (fun w' => w'.cell? ⟨b, off + k * 2, none⟩ = some (.int .i64 xs[k].1) ∧ w'.cell? ⟨b, off + k * 2 + 1, none⟩ = some (.int .i64 xs[k].2))
        (first | go_keep | (exact ⟨(hg1.cell (by go_simp) hne), (hg1.cell (by go_simp) hne)⟩))
        (first | (refine step_app1 (by rfl) (.tmp 15) (.tmp 29) 28 (by rfl) elemStep Try.underlying28 w.heap.size u3 _ encInt2 (by rfl) (hown.alloc (.cells #[.int .i64 (wi xs[k].1 0 1000), .int .i64 (wi xs[k].2 0 999)] 36)) (stepV xs[k]) ⟨wr.heap.size, 0, none⟩ 1 (by rfl) (by rfl) (World.news_of_block (cs := #[.int .i64 (wi xs[k].1 0 1000), .int .i64 (wi xs[k].2 0 999)]) (t := 36) (fr := (0, 0)) (heap_alloc_new wr _)) (by simp [encInt2, Value.oneCell']) (by omega) (by unfold maxLen; omega) (by have := hb.size; simp; omega) ?_; intro v' w1 hown1 hg1) | (go_simp; go_at_call 10; refine (within_any _ _ _ _ (by omega) (by omega) (by omega)).mono ?_; rintro e w' ⟨rfl, rfl⟩))
      have hb2 := (hown.alloc (.cells #[.int .i64 (wi xs[k].1 0 1000), .int .i64 (wi xs[k].2 0 999)] 36)).drew.grown (balloc hb _).drew (Nat.le_refl _) hg1
      rw [← E2.out] at hown1
      clear hg1 hown hown0
      go_wp2
      go_roundw
      case rel => exact ⟨k + 1, by omega, by omega, by go_num, hown1, hb2⟩
      case measure => simp [intOf]; omega
    · have E : Hid (xs.take k = xs.take 8) := by
        rcases Nat.lt_or_ge k 8 with h8 | h8
        · show xs.take k = xs.take 8
          rw [List.take_of_length_le (by omega), List.take_of_length_le (by omega)]
        · have : k = 8 := by omega
          subst this
          exact rfl
      rw [E.out] at hown
      obtain ⟨oa', cap', rfl, hn0, hm', hf'⟩ := hown.isSlice (fun _ => rfl)
      have HF := Lib.hid (show RetSteps (stepsV xs) w _ wr from ⟨oa', cap', rfl, hm', hf', hb, hn0⟩)
      clear hn0
      clear hf' hown
      by_cases hlt2 : k < xs.length
      all_goals
        go_wp2
        go_ret
        exact HF.out
end Go.Proofs.Ytdgmdohmjdfgdaa
