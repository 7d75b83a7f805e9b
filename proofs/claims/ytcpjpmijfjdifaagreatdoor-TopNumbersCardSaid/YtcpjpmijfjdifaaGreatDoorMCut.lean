/-
  The walk of mCut. Own text.
-/
import Derived.Test.YtcpjpmijfjdifaaGreatDoorRows
import Derived.WalkKit
import Derived.WalkSpells
import Derived.WalkLawsBesides
import Derived.Lib.Hide
import Derived.IntWalk
import Derived.Test.YtcpjpmijfjdifaaGreatDoorNum
namespace Go.Proofs.YtcpjpmijfjdifaaGreatDoor
open Go.RowKit
set_option linter.unusedVariables false
/-- A number brought into the range. -/
def mcV (x lo hi : Int) : Int := lo + x % 18446744073709551616 % (hi - lo + 1)
theorem mcV_bd {x lo hi : Int} (h : lo ≤ hi) : lo ≤ mcV x lo hi ∧ mcV x lo hi ≤ hi := by
  unfold mcV
  have h1 := Int.emod_nonneg (x % 18446744073709551616) (show hi - lo + 1 ≠ 0 by omega)
  have h2 := Int.emod_lt_of_pos (x % 18446744073709551616) (show 0 < hi - lo + 1 by omega)
  omega
set_option maxHeartbeats 1000000 in
theorem mcut_any (x lo hi : Int) (w : World) (h0 : 0 ≤ lo) (h1 : lo ≤ hi) (h2 : hi ≤ 5000) :
    Calls Tryz.prog 6 #[.int .i64 x, .int .i64 lo, .int .i64 hi] w fun e w' => e = .returned (.int .i64 (mcV x lo hi)) ∧ w = w' := by
  have hu : IntKind.u64.wrap x = x % 18446744073709551616 := rfl
  have ht : (IntKind.u64.wrap x).tmod (hi - lo + 1) = x % 18446744073709551616 % (hi - lo + 1) := by rw [hu]; exact Int.tmod_eq_emod_of_nonneg (Int.emod_nonneg _ (by omega))
  have a1 := Int.emod_nonneg (x % 18446744073709551616) (show hi - lo + 1 ≠ 0 by omega)
  have a2 := Int.emod_lt_of_pos (x % 18446744073709551616) (show 0 < hi - lo + 1 by omega)
  have hw : wrap64 (lo + wrap64 ((IntKind.u64.wrap x).tmod (hi - lo + 1))) = mcV x lo hi := by
    rw [ht, IntWalk.wrap64_in (_ % _ % _) (by omega), IntWalk.wrap64_in _ (by omega)]; rfl
  have E := Lib.hid hw
  clear hw ht hu a1 a2
  go_enter Tryz.func6, Tryz.ntmps6
  go_wp2
  go_ret
  exact ⟨by rw [← E.out]; rfl, rfl⟩
end Go.Proofs.YtcpjpmijfjdifaaGreatDoor
