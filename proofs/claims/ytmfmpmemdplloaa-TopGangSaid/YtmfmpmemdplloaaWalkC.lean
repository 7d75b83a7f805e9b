/-
  The walk of the walker, node by node: leaves. Own text.
-/
import Derived.Test.YtmfmpmemdplloaaWalkA2
namespace Go.Proofs.Ytmfmpmemdplloaa
open Go.RowKit
set_option linter.unusedVariables false
set_option maxRecDepth 100000 in
set_option maxHeartbeats 4000000 in
theorem walk_waste (oa : Option Addr) (cap : Nat) (x y W H d : Int) (s : St) (kb : Nat) (iv rv : Value) (w : World) (hg : s.Good) (hn : s.nodes < 4096) (hd : d ≤ 80) (hb : Box x y W H) (hw : WalkerAt w kb iv s rv) :
    Calls Try.prog 14 #[.pointer (some ⟨kb, 0, none⟩), .agg #[.int .i64 0, .int .i64 0, .int .i64 0, .slice oa 0 cap], .int .i64 x, .int .i64 y, .int .i64 W, .int .i64 H, .int .i64 d] w
      (PostWalk (.ok { s with nodes := s.nodes + 1, waste := s.waste + W * H }) kb iv rv w) := by
  have hkb := hw.lt
  obtain ⟨g1, g2, g3, _⟩ := hg
  have ha := hb.area
  have w1 : IntKind.i64.wrap (W * H) = W * H := IntWalk.i64_in _ (by omega)
  have w2 : IntKind.i64.wrap (s.waste + W * H) = s.waste + W * H := IntWalk.i64_in _ (by omega)
  have HW := Lib.hid (((hw.setNodes (n := s.nodes + 1) (z := (s.nodes : Int) + 1) (by omega)).setWaste (s.waste + W * H)))
  obtain ⟨c0, c1, c2, c3, fz, _⟩ := hw
  have f1 := fz 1
  have f3 := fz 3
  clear fz hb
  go_enter Try.func14, Try.ntmps14
  go_wp2
  go_ret
  exact ⟨rfl, rv, HW.out.alloc _, (((Touch.refl kb rv w).set 1 _).set 3 _).alloc _⟩
set_option maxRecDepth 100000 in
set_option maxHeartbeats 4000000 in
theorem walk_none (i : Int) (oa oi : Option Addr) (ni ci cap : Nat) (x y W H d : Int) (s : St) (kb : Nat) (rv : Value) (w : World) (hn : s.nodes < 4096) (hd : d ≤ 80) (hi : i < 0 ∨ (0 ≤ i ∧ (ni : Int) ≤ i)) (hw : WalkerAt w kb (.slice oi ni ci) s rv) :
    Calls Try.prog 14 #[.pointer (some ⟨kb, 0, none⟩), .agg #[.int .i64 1, .int .i64 0, .int .i64 i, .slice oa 0 cap], .int .i64 x, .int .i64 y, .int .i64 W, .int .i64 H, .int .i64 d] w
      (PostWalk (.err 8) kb (.slice oi ni ci) rv w) := by
  have hkb := hw.lt
  obtain ⟨c0, c1, c2, c3, fz, _⟩ := hw
  have f1 := fz 1
  clear fz
  rcases hi with hi | ⟨hi, hi2⟩
  all_goals
    go_enter Try.func14, Try.ntmps14
    go_wp2
    go_quiet (fail)
    go_wp2
    go_ret
    exact ⟨rfl, rv, (((Touch.refl kb rv w).set 1 _).alloc _).drewN _⟩
set_option maxRecDepth 100000 in
set_option maxHeartbeats 4000000 in
theorem walk_range (k a : Int) (oa : Option Addr) (cap : Nat) (x y W H d : Int) (s : St) (kb : Nat) (iv rv : Value) (w : World) (hn : s.nodes < 4096) (hd : d ≤ 80) (hk : (k = 2 ∧ (a < 1 ∨ (1 ≤ a ∧ W ≤ a))) ∨ (k = 3 ∧ (a < 1 ∨ (1 ≤ a ∧ H ≤ a)))) (hw : WalkerAt w kb iv s rv) :
    Calls Try.prog 14 #[.pointer (some ⟨kb, 0, none⟩), .agg #[.int .i64 k, .int .i64 a, .int .i64 0, .slice oa 2 cap], .int .i64 x, .int .i64 y, .int .i64 W, .int .i64 H, .int .i64 d] w
      (PostWalk (.err 3) kb iv rv w) := by
  have hkb := hw.lt
  obtain ⟨c0, c1, c2, c3, fz, _⟩ := hw
  have f1 := fz 1
  clear fz
  rcases hk with ⟨rfl, h1 | ⟨h1, h2⟩⟩ | ⟨rfl, h1 | ⟨h1, h2⟩⟩
  all_goals
    go_enter Try.func14, Try.ntmps14
    go_wp2
    go_quiet (fail)
    go_wp2
    go_quiet (fail)
    go_wp2
    go_ret
    exact ⟨rfl, rv, (((Touch.refl kb rv w).set 1 _).alloc _).drewN _⟩
end Go.Proofs.Ytmfmpmemdplloaa
