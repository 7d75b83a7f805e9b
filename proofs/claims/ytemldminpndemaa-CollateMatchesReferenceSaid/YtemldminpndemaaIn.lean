/-
  Walks of printworkslaw4.in and printworkskeep4.within. Own text.
-/
import Derived.Test.YtemldminpndemaaRows
import Derived.WalkKit
import Derived.WalkSpells
import Derived.WalkLawsBesides
import Derived.Lib.Hide
import Derived.Test.YtemldminpndemaaNum
namespace Go.Proofs.Ytemldminpndemaa
open Go.RowKit
set_option linter.unusedVariables false
set_option maxHeartbeats 400000 in
theorem within_any (x lo hi : Int) (w : World) (h0 : -1000000000000000000 ≤ lo) (h1 : lo ≤ hi) (h2 : hi ≤ 1000000000000000000) :
    Calls Try.prog 19 #[.int .i64 x, .int .i64 lo, .int .i64 hi] w fun e w' => e = .returned (.int .i64 (wi x lo hi)) ∧ w = w' := by
  have hb := tmod_bd x (hi - lo + 1) (by omega)
  have hr := Int.emod_nonneg (x.tmod (hi - lo + 1)) (b := (hi - lo + 1)) (by omega)
  have hr2 := Int.emod_lt_of_pos (x.tmod (hi - lo + 1)) (b := (hi - lo + 1)) (by omega)
  go_enter Try.func19, Try.ntmps19
  go_wp2
  go_ret
  exact ⟨rfl, rfl⟩
set_option maxHeartbeats 400000 in
theorem in_any (x lo hi : Int) (w : World) :
    Calls Try.prog 12 #[.int .i64 x, .int .i64 lo, .int .i64 hi] w fun e w' => e = .returned (.bool (inB x lo hi)) ∧ w = w' := by
  by_cases h : lo ≤ x
  · by_cases h2 : x ≤ hi
    · have e1 := inB_yes h h2
      have E1 := Lib.hid e1; clear e1
      go_enter Try.func12, Try.ntmps12
      go_wp2
      go_ret
      exact ⟨by rw [E1.out]; rfl, rfl⟩
    · have e1 : inB x lo hi = false := inB_no (by omega)
      have E1 := Lib.hid e1; clear e1
      go_enter Try.func12, Try.ntmps12
      go_wp2
      go_ret
      exact ⟨by rw [E1.out]; rfl, rfl⟩
  · have e1 : inB x lo hi = false := inB_no (by omega)
    have E1 := Lib.hid e1; clear e1
    go_enter Try.func12, Try.ntmps12
    go_wp2
    go_ret
    exact ⟨by rw [E1.out]; rfl, rfl⟩
end Go.Proofs.Ytemldminpndemaa
