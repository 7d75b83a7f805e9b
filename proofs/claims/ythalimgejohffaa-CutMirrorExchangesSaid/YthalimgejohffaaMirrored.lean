/-
  law4.mirrored: its walk. Own text.
-/
import Derived.Test.YthalimgejohffaaMirror
import Derived.Test.YthalimgejohffaaRegion
import Derived.Handy
import Derived.Deep.DeepCutAuto
namespace Go.Proofs.Ythalimgejohffaa
open Go.RowKit
set_option linter.unusedVariables false
/-- A tree's four cells at block b. -/
structure One (w : World) (b : Nat) (k a i : Int) (o : Option Addr) (n p : Nat) : Prop where
  c0 : w.cell? ⟨b, 0, none⟩ = some (.int .i64 k)
  c1 : w.cell? ⟨b, 1, none⟩ = some (.int .i64 a)
  c2 : w.cell? ⟨b, 2, none⟩ = some (.int .i64 i)
  c3 : w.cell? ⟨b, 3, none⟩ = some (.slice o n p)
  fz : ∀ j, w.frozen? ⟨b, j, none⟩ = false
/-- Two trees in two variables of the call's own. -/
def TwoTrees (T0 T1 : Tree) (w2 : World) (s14 s15 : Value) (wx : World) : Prop :=
  ∃ b14 b15 k3 a3 i3 l3 o3 p3 k4 a4 i4 l4 o4 p4 lo3 hi3 lo4 hi4, T0 = .mk k3 a3 i3 l3 ∧ T1 = .mk k4 a4 i4 l4 ∧ s14 = .pointer (some ⟨b14, 0, none⟩) ∧ s15 = .pointer (some ⟨b15, 0, none⟩) ∧ Below w2.heap.size w2 wx ∧
    One wx b14 k3 a3 i3 o3 l3.length p3 ∧ One wx b15 k4 a4 i4 o4 l4.length p4 ∧ TreeB lo3 hi3 wx (.mk k3 a3 i3 l3) [.int .i64 k3, .int .i64 a3, .int .i64 i3, .slice o3 l3.length p3] ∧ TreeB lo4 hi4 wx (.mk k4 a4 i4 l4) [.int .i64 k4, .int .i64 a4, .int .i64 i4, .slice o4 l4.length p4] ∧
    (w2.heap.size ≤ b14 ∧ w2.heap.size ≤ b15 ∧ b14 ≠ b15 ∧ b14 < wx.heap.size ∧ b15 < wx.heap.size ∧ w2.heap.size ≤ lo3 ∧ w2.heap.size ≤ lo4 ∧ hi3 ≤ wx.heap.size ∧ hi4 ≤ wx.heap.size ∧ (b14 < lo3 ∨ hi3 ≤ b14) ∧ (b15 < lo3 ∨ hi3 ≤ b15) ∧ (b14 < lo4 ∨ hi4 ≤ b14) ∧ (b15 < lo4 ∨ hi4 ≤ b15))
set_option maxRecDepth 100000 in
set_option maxHeartbeats 4000000 in
theorem mirrored_leaf (k a i : Int) (oa : Option Addr) (ca : Nat) (W H : Int) (s : Bool) (w : World) (hk : k = 0 ∨ k = 1)
    (hi : -9223372036854775808 ≤ k ∧ k ≤ 9223372036854775807 ∧ -9223372036854775808 ≤ a ∧ a ≤ 9223372036854775807 ∧ -9223372036854775808 ≤ i ∧ i ≤ 9223372036854775807) :
    Calls Try.prog 18 #[.agg #[.int .i64 k, .int .i64 a, .int .i64 i, .slice oa 0 ca], .int .i64 W, .int .i64 H, .bool s] w (RetTree (.mk k a i []) w) := by
  have h2 : (k != 2) = true := by simp; omega
  have h3 : (k != 3) = true := by simp; omega
  clear hk
  go_enter Try.func18, Try.ntmps18
  go_wp2
  try simp only [Exit.inBlock, Exit.then]
  have hres : Try.f18.results = #[.cell 8 25] := rfl
  refine bodyPost_ret (v := .agg #[.int .i64 k, .int .i64 a, .int .i64 i, .slice none 0 0]) (by simp only [results, hres]; go_simp) rfl ?_
  refine ⟨?_, k, a, i, [], none, 0, rfl, rfl, TreeB.leaf _ _ _ k a i 0 hi⟩
  go_grown
end Go.Proofs.Ythalimgejohffaa
