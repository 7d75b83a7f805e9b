/-
  slices.Reverse on two kids. Own text.
-/
import Derived.Test.YthalimgejohffaaTreeMk
import Derived.RegionTactic
import Derived.BigRegion
import Derived.Handy
namespace Go.Proofs.Ythalimgejohffaa
open Go.RowKit
set_option linter.unusedVariables false
set_option maxRecDepth 100000 in
set_option maxHeartbeats 4000000 in
theorem reverse_any (g : Nat) (k0 a0 i0 : Int) (o0 : Option Addr) (n0 p0 : Nat) (k1 a1 i1 : Int) (o1 : Option Addr) (n1 p1 : Nat) (w : World) (h : Two w g k0 a0 i0 o0 n0 p0 k1 a1 i1 o1 n1 p1) :
    Calls Try.prog 41 #[.slice (some ⟨g, 0, none⟩) 2 2] w fun e w' => e = .returned (.tuple #[]) ∧ Below g w w' ∧ w'.heap.size = w.heap.size ∧ Two w' g k1 a1 i1 o1 n1 p1 k0 a0 i0 o0 n0 p0 := by
  obtain ⟨c0, c1, c2, c3, c4, c5, c6, c7, fz⟩ := h
  have f0 := fz 0; have f1 := fz 1; have f2 := fz 2; have f3 := fz 3; have f4 := fz 4; have f5 := fz 5; have f6 := fz 6; have f7 := fz 7
  have FZ := Lib.hid fz; clear fz
  go_enter Try.func41, Try.ntmps41
  go_wp2
  go_rounds 3
  go_region
  all_goals
    go_wp2
    rw [rounds_succ]
    go_wp2
    go_returns
    refine ⟨rfl, by go_grown, by simp, ⟨?_, ?_, ?_, ?_, ?_, ?_, ?_, ?_, fun i => ?_⟩⟩
    all_goals try have fzi := FZ.out i
    all_goals go_simp
end Go.Proofs.Ythalimgejohffaa
