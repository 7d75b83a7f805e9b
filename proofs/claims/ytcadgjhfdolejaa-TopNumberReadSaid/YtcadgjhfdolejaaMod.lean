/-
  The walk of sMod. Own text.
-/
import Derived.Test.YtcadgjhfdolejaaLBits
namespace Go.Proofs.Ytcadgjhfdolejaa
open Go.RowKit
set_option linter.unusedVariables false
theorem smod_t (x n : Int) (hn : 0 < n) : (x.tmod n + n).tmod n = x % n ∧ -n < x.tmod n ∧ x.tmod n < n := by
  have h2 := tmod_bd x n hn
  refine ⟨?_, h2.1, h2.2⟩
  rw [Int.tmod_eq_emod_of_nonneg (by omega), Int.add_emod_right]
  have h1 := Int.tmod_eq_emod (a := x) (b := n)
  rw [h1]
  split
  · rw [show ((0 : Nat) : Int) = 0 from rfl, Int.sub_zero, Int.emod_emod]
  · rw [show ((n.natAbs : Nat) : Int) = n by omega, Int.sub_emod, Int.emod_emod, Int.emod_self, Int.sub_zero, Int.emod_emod]
set_option maxHeartbeats 1000000 in
theorem smod_any (x n : Int) (hn : 1 ≤ n) (hn9 : n ≤ 1000000) (hx : i64ok x) (w : World) : Calls Try.prog 5 #[.int .i64 x, .int .i64 n] w (fun e w' => e = .returned (.int .i64 (x % n)) ∧ w' = w) := by
  obtain ⟨h1, h2, h3⟩ := smod_t x n (by omega)
  obtain ⟨hx1, hx2⟩ := hx
  have n0 : ¬ n = 0 := by omega
  have n0' : (n == 0) = false := by rw [beq_eq_false_iff_ne]; exact n0
  have hb := Int.emod_nonneg x n0
  have hb2 := Int.emod_lt_of_pos x (show 0 < n by omega)
  obtain ⟨m, hm⟩ : ∃ m, m = x % n := ⟨_, rfl⟩
  rw [← hm] at h1 hb hb2 ⊢
  have hw : IntKind.i64.wrap (x.tmod n) = x.tmod n := IntWalk.i64_in _ (by omega)
  have hw2 : IntKind.i64.wrap (x.tmod n + n) = x.tmod n + n := IntWalk.i64_in _ (by omega)
  clear hm
  go_enter Try.func5, Try.ntmps5
  go_wp2
  go_ret
  exact ⟨rfl, rfl⟩
end Go.Proofs.Ytcadgjhfdolejaa
