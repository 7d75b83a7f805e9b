/-
  The walk of the reference's pile.node: the cases that end early. Own text.
-/
import Derived.Test.YthalimgejohffaaWalkA2
import Derived.Test.YthalimgejohffaaIn
namespace Go.Proofs.Ythalimgejohffaa
open Go.RowKit
set_option linter.unusedVariables false
/-- As 'Early', of the reference: the depth counts from 0. -/
theorem Early.cases {k a i : Int} {nk : Nat} {d : Int} {nodes : Nat} {r : Int} (h : Early k a i nk (d + 1) nodes r) (hg : nodes ≤ 4096) :
    (((nodes : Int) == 4096) = true ∧ r = 2) ∨ (((nodes : Int) == 4096) = false ∧ nodes < 4096 ∧ ((80 ≤ d ∧ r = 15) ∨ (d < 80 ∧ ((inB k 0 3 = false ∧ r = 14) ∨ (inB k 0 3 = true ∧ ((k = 0 ∧ (a != 0) = true ∧ r = 4) ∨ (k = 0 ∧ a = 0 ∧ 0 < nk ∧ r = 4) ∨ (k = 0 ∧ a = 0 ∧ nk = 0 ∧ (i != 0) = true ∧ r = 4) ∨
    (k = 1 ∧ (a != 0) = true ∧ r = 4) ∨ (k = 1 ∧ a = 0 ∧ 0 < nk ∧ r = 4) ∨ (k = 2 ∧ ((nk : Int) != 2) = true ∧ r = 4) ∨ (k = 2 ∧ nk = 2 ∧ (i != 0) = true ∧ r = 4) ∨ (k = 3 ∧ ((nk : Int) != 2) = true ∧ r = 4) ∨ (k = 3 ∧ nk = 2 ∧ (i != 0) = true ∧ r = 4))))))) := by
  unfold Early at h
  rcases h with ⟨h1, h2⟩ | ⟨h1, h⟩
  · exact .inl ⟨by simp; omega, h2⟩
  refine .inr ⟨by simp; omega, h1, ?_⟩
  rcases h with ⟨h2, h3⟩ | ⟨h2, h⟩
  · exact .inl ⟨by omega, h3⟩
  refine .inr ⟨by omega, ?_⟩
  rcases h with ⟨h3, h4⟩ | ⟨h3, h4⟩ | h
  · exact .inl ⟨inB_no (by omega), h4⟩
  · exact .inl ⟨inB_no (by omega), h4⟩
  · refine .inr ⟨?_, h⟩
    rcases h with ⟨rfl, _⟩ | ⟨rfl, _⟩ | ⟨rfl, _⟩ | ⟨rfl, _⟩ | ⟨rfl, _⟩ | ⟨rfl, _⟩ | ⟨rfl, _⟩ | ⟨rfl, _⟩ | ⟨rfl, _⟩ <;> decide
set_option maxRecDepth 100000 in
set_option maxHeartbeats 4000000 in
theorem node_early (k a i : Int) (oa : Option Addr) (nk cap : Nat) (x y W H d : Int) (s : St) (r : Int) (kb : Nat) (iv rv : Value) (w : World) (hg : s.nodes ≤ 4096) (hw : WalkerAt w kb iv s rv) (hnk : nk ≤ maxLen) (hc : Early k a i nk (d + 1) s.nodes r) :
    Calls Try.prog 33 #[.pointer (some ⟨kb, 0, none⟩), .agg #[.int .i64 k, .int .i64 a, .int .i64 i, .slice oa nk cap], .int .i64 x, .int .i64 y, .int .i64 W, .int .i64 H, .int .i64 d] w (PostWalk (.err r) kb iv rv w) := by
  have hkb := hw.lt
  have hnk9 : nk ≤ 9223372036854775807 := by unfold maxLen at hnk; omega
  obtain ⟨c0, c1, c2, c3, fz, _⟩ := hw
  have f1 := fz 1
  clear fz
  rcases hc.cases hg with ⟨h1, rfl⟩ | ⟨h0, h1, ⟨h2, rfl⟩ | ⟨h2, ⟨h3, rfl⟩ | ⟨h4, ⟨rfl, h3, rfl⟩ | ⟨rfl, rfl, h3, rfl⟩ | ⟨rfl, rfl, rfl, h3, rfl⟩ | ⟨rfl, h3, rfl⟩ | ⟨rfl, rfl, h3, rfl⟩ | ⟨rfl, h3, rfl⟩ | ⟨rfl, rfl, h3, rfl⟩ | ⟨rfl, h3, rfl⟩ | ⟨rfl, rfl, h3, rfl⟩⟩⟩⟩
  all_goals
    clear hc
    go_enter Try.func33, Try.ntmps33
    go_wp2_with (go_at_call 23; refine (in_any _ _ _ _).mono ?_; rintro e w' ⟨rfl, rfl⟩)
    go_ret
    first
      | exact ⟨rfl, rv, ((Touch.refl kb rv w).set 1 _).alloc _⟩
      | exact ⟨rfl, rv, (Touch.refl kb rv w).alloc _⟩
end Go.Proofs.Ythalimgejohffaa
