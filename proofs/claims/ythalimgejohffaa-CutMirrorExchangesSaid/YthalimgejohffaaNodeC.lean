/-
  The walk of the reference's pile.node: leaves, and cuts at a wrong place. Own text.
-/
import Derived.Test.YthalimgejohffaaWalkA2
import Derived.Test.YthalimgejohffaaIn
namespace Go.Proofs.Ythalimgejohffaa
open Go.RowKit
set_option linter.unusedVariables false
set_option maxRecDepth 100000 in
set_option maxHeartbeats 4000000 in
theorem node_waste (oa : Option Addr) (cap : Nat) (x y W H d : Int) (s : St) (kb : Nat) (iv rv : Value) (w : World) (hg : s.Good) (hn : s.nodes < 4096) (hd : d < 80) (hb : Box x y W H) (hw : WalkerAt w kb iv s rv) :
    Calls Try.prog 33 #[.pointer (some ⟨kb, 0, none⟩), .agg #[.int .i64 0, .int .i64 0, .int .i64 0, .slice oa 0 cap], .int .i64 x, .int .i64 y, .int .i64 W, .int .i64 H, .int .i64 d] w
      (PostWalk (.ok { s with nodes := s.nodes + 1, waste := s.waste + W * H }) kb iv rv w) := by
  have hkb := hw.lt
  obtain ⟨g1, g2, g3, _⟩ := hg
  have ha := hb.area
  have w1 : IntKind.i64.wrap (W * H) = W * H := IntWalk.i64_in _ (by omega)
  have w2 : IntKind.i64.wrap (s.waste + W * H) = s.waste + W * H := IntWalk.i64_in _ (by omega)
  have HW := Lib.hid (((hw.setNodes (n := s.nodes + 1) (z := (s.nodes : Int) + 1) (by omega)).setWaste (s.waste + W * H)))
  have hnn : ((s.nodes : Int) == 4096) = false := by simp; omega
  have hin : inB 0 0 3 = true := by decide
  obtain ⟨c0, c1, c2, c3, fz, _⟩ := hw
  have f1 := fz 1
  have f3 := fz 3
  clear fz hb
  go_enter Try.func33, Try.ntmps33
  go_wp2_with (go_at_call 23; refine (in_any _ _ _ _).mono ?_; rintro e w' ⟨rfl, rfl⟩)
  go_ret
  exact ⟨rfl, rv, HW.out.alloc _, (((Touch.refl kb rv w).set 1 _).set 3 _).alloc _⟩
set_option maxRecDepth 100000 in
set_option maxHeartbeats 4000000 in
theorem node_none (i : Int) (oa oi : Option Addr) (ni ci cap : Nat) (x y W H d : Int) (s : St) (kb : Nat) (rv : Value) (w : World) (hn : s.nodes < 4096) (hd : d < 80) (hi : i < 0 ∨ (0 ≤ i ∧ (ni : Int) ≤ i)) (hni : (ni : Int) ≤ 9223372036854775807) (hw : WalkerAt w kb (.slice oi ni ci) s rv) :
    Calls Try.prog 33 #[.pointer (some ⟨kb, 0, none⟩), .agg #[.int .i64 1, .int .i64 0, .int .i64 i, .slice oa 0 cap], .int .i64 x, .int .i64 y, .int .i64 W, .int .i64 H, .int .i64 d] w
      (PostWalk (.err 8) kb (.slice oi ni ci) rv w) := by
  have hkb := hw.lt
  have hnn : ((s.nodes : Int) == 4096) = false := by simp; omega
  have hin : inB 1 0 3 = true := by decide
  have hin2 : inB i 0 ((ni : Int) - 1) = false := inB_no (by omega)
  obtain ⟨c0, c1, c2, c3, fz, _⟩ := hw
  have f1 := fz 1
  clear fz hi
  go_enter Try.func33, Try.ntmps33
  go_wp2_with (go_at_call 23; refine (in_any _ _ _ _).mono ?_; rintro e w' ⟨rfl, rfl⟩)
  go_quiet ((go_at_call 23; exact quiet_eq (in_any _ _ _ _)))
  go_wp2
  go_ret
  exact ⟨rfl, rv, (((Touch.refl kb rv w).set 1 _).alloc _).drewN _⟩
set_option maxRecDepth 100000 in
set_option maxHeartbeats 4000000 in
theorem node_range (k a : Int) (oa : Option Addr) (cap : Nat) (x y W H d : Int) (s : St) (kb : Nat) (iv rv : Value) (w : World) (hn : s.nodes < 4096) (hd : d < 80) (hbx : Box x y W H) (hk : (k = 2 ∧ (a < 1 ∨ (1 ≤ a ∧ W ≤ a))) ∨ (k = 3 ∧ (a < 1 ∨ (1 ≤ a ∧ H ≤ a)))) (hw : WalkerAt w kb iv s rv) :
    Calls Try.prog 33 #[.pointer (some ⟨kb, 0, none⟩), .agg #[.int .i64 k, .int .i64 a, .int .i64 0, .slice oa 2 cap], .int .i64 x, .int .i64 y, .int .i64 W, .int .i64 H, .int .i64 d] w
      (PostWalk (.err 3) kb iv rv w) := by
  have hkb := hw.lt
  obtain ⟨x1, x2, x3, x4, x5, x6⟩ := hbx
  have hnn : ((s.nodes : Int) == 4096) = false := by simp; omega
  obtain ⟨c0, c1, c2, c3, fz, _⟩ := hw
  have f1 := fz 1
  clear fz
  have hk2 : (k = 2 ∧ inB k 0 3 = true ∧ inB a 1 (W - 1) = false) ∨ (k = 3 ∧ inB k 0 3 = true ∧ inB a 1 (H - 1) = false) := by
    rcases hk with ⟨rfl, h⟩ | ⟨rfl, h⟩
    · exact .inl ⟨rfl, by decide, inB_no (by omega)⟩
    · exact .inr ⟨rfl, by decide, inB_no (by omega)⟩
  clear hk
  rcases hk2 with ⟨rfl, h1, h2⟩ | ⟨rfl, h1, h2⟩
  all_goals
    go_enter Try.func33, Try.ntmps33
    go_wp2_with (go_at_call 23; refine (in_any _ _ _ _).mono ?_; rintro e w' ⟨rfl, rfl⟩)
    go_ret
    exact ⟨rfl, rv, ((Touch.refl kb rv w).set 1 _).alloc _⟩
end Go.Proofs.Ythalimgejohffaa
