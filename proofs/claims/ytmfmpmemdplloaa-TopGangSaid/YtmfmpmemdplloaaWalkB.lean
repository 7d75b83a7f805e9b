/-
  The walk of the walker, node by node: the cases that end early. Own text.
-/
import Derived.Test.YtmfmpmemdplloaaWalkA2
namespace Go.Proofs.Ytmfmpmemdplloaa
open Go.RowKit
set_option linter.unusedVariables false
set_option maxRecDepth 100000 in
set_option maxHeartbeats 4000000 in
theorem walk_early (k a i : Int) (oa : Option Addr) (nk cap : Nat) (x y W H d : Int) (s : St) (r : Int) (kb : Nat) (iv rv : Value) (w : World) (hg : s.nodes ≤ 4096) (hw : WalkerAt w kb iv s rv) (hnk : nk ≤ maxLen) (hc : Early k a i nk d s.nodes r) :
    Calls Try.prog 14 #[.pointer (some ⟨kb, 0, none⟩), .agg #[.int .i64 k, .int .i64 a, .int .i64 i, .slice oa nk cap], .int .i64 x, .int .i64 y, .int .i64 W, .int .i64 H, .int .i64 d] w (PostWalk (.err r) kb iv rv w) := by
  have hkb := hw.lt
  have hnk9 : nk ≤ 9223372036854775807 := by unfold maxLen at hnk; omega
  obtain ⟨c0, c1, c2, c3, fz, _⟩ := hw
  have f1 := fz 1
  clear fz
  rcases hc with ⟨h1, rfl⟩ | ⟨h1, ⟨h2, rfl⟩ | ⟨h2, ⟨h3, rfl⟩ | ⟨h3, rfl⟩ | ⟨rfl, h3, rfl⟩ | ⟨rfl, rfl, h3, rfl⟩ | ⟨rfl, rfl, rfl, h3, rfl⟩ | ⟨rfl, h3, rfl⟩ | ⟨rfl, rfl, h3, rfl⟩ | ⟨rfl, h3, rfl⟩ | ⟨rfl, rfl, h3, rfl⟩ | ⟨rfl, h3, rfl⟩ | ⟨rfl, rfl, h3, rfl⟩⟩⟩
  all_goals
    go_enter Try.func14, Try.ntmps14
    go_wp2
    go_ret
    exact ⟨rfl, rv, ((Touch.refl kb rv w).set 1 _).alloc _⟩
end Go.Proofs.Ytmfmpmemdplloaa
