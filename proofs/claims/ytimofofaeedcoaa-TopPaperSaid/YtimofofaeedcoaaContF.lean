/-
  slices.ContainsFunc at the law's test. Own text.
-/
import Derived.Test.YtimofofaeedcoaaInts
import Derived.Test.YtimofofaeedcoaaMore
import Derived.WalkKit
import Derived.WalkSpells
import Derived.WalkLawsBesides
namespace Go.Proofs.Ytimofofaeedcoaa
open Go.RowKit
set_option linter.unusedVariables false
theorem neg_any (x : Int) (w : World) (h : 0 ≤ x) : Calls Try.prog 11 #[.int .i64 x] w fun e w' => e = .returned (.bool false) ∧ w = w' := by
  have h0 : ¬ x < 0 := by omega
  go_enter Try.func11, Try.ntmps11
  go_wp2
  go_ret
  exact ⟨rfl, rfl⟩
set_option maxHeartbeats 400000 in
theorem index_none (oa : Option Addr) (xs : List Int) (cap : Nat) (w : World) (hm : xs.length ≤ maxLen) (hx : Flat w 1 encInt oa xs) (hn : ∀ x ∈ xs, 0 ≤ x) :
    Calls Try.prog 22 #[.slice oa xs.length cap, .func (.func 11) #[] #[]] w fun e w' => e = .returned (.int .i64 (-1)) ∧ w = w' := by
  have hm9 : xs.length ≤ 9223372036854775807 := by unfold maxLen at hm; omega
  have HN := Lib.hid hn; clear hn
  go_enter Try.func22, Try.ntmps22
  go_wp2
  go_loop [8] (fun i => ∃ k : Nat, k ≤ xs.length ∧ i = .int .i64 k) (fun i => xs.length - (intOf i).toNat)
  case atStart => exact ⟨0, by omega, rfl⟩
  case round =>
    obtain ⟨k, hk, rfl⟩ := hrel
    by_cases hlt : k < xs.length
    · obtain ⟨b, off, rfl, hc⟩ := hx.int hlt
      have h0 := HN.out _ (List.getElem_mem hlt)
      go_wp2_with (go_at_call 11; refine (neg_any _ _ h0).mono ?_; rintro e w' ⟨rfl, rfl⟩)
      go_round
      case rel => exact ⟨k + 1, by omega, by go_num⟩
      case measure => simp [intOf]; omega
    · go_wp2
      go_ret
      exact ⟨rfl, rfl⟩
theorem contains_none (oa : Option Addr) (xs : List Int) (cap : Nat) (w : World) (hm : xs.length ≤ maxLen) (hx : Flat w 1 encInt oa xs) (hn : ∀ x ∈ xs, 0 ≤ x) :
    Calls Try.prog 10 #[.slice oa xs.length cap, .func (.func 11) #[] #[]] w fun e w' => e = .returned (.bool false) ∧ w = w' := by
  go_enter Try.func10, Try.ntmps10
  go_wp2_with (go_at_call 22; refine (index_none _ _ _ _ hm hx hn).mono ?_; rintro e w' ⟨rfl, rfl⟩)
  go_ret
  exact ⟨rfl, rfl⟩
end Go.Proofs.Ytimofofaeedcoaa
