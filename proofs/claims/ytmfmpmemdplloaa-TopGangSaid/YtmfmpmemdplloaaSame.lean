/-
  law4.sameTree on two readings of one tree. Own text.
-/
import Derived.Test.YtmfmpmemdplloaaMir
import Derived.Test.YtmfmpmemdplloaaWalkA2
namespace Go.Proofs.Ytmfmpmemdplloaa
open Go.RowKit
set_option linter.unusedVariables false
theorem TreeAt.cells {w : World} {k a i : Int} {kids : List Tree} {cs : List Value} (h : TreeAt w (.mk k a i kids) cs) :
    ∃ oa cap, cs = [.int .i64 k, .int .i64 a, .int .i64 i, .slice oa kids.length cap] := by
  cases h; exact ⟨_, _, rfl⟩
/-- The two kids of a cut: their cells. -/
theorem TreeAt.cut {w : World} {k a i k0 a0 i0 k1 a1 i1 : Int} {l0 l1 : List Tree} {oa : Option Addr} {n cap : Nat} (h : TreeAt w (.mk k a i [.mk k0 a0 i0 l0, .mk k1 a1 i1 l1]) [.int .i64 k, .int .i64 a, .int .i64 i, .slice oa n cap]) :
    ∃ tb toff o0 p0 o1 p1, oa = some ⟨tb, toff, none⟩ ∧ n = 2 ∧ w.cell? ⟨tb, toff, none⟩ = some (.int .i64 k0) ∧ w.cell? ⟨tb, toff + 1, none⟩ = some (.int .i64 a0) ∧ w.cell? ⟨tb, toff + 2, none⟩ = some (.int .i64 i0) ∧ w.cell? ⟨tb, toff + 3, none⟩ = some (.slice o0 l0.length p0) ∧
      w.cell? ⟨tb, toff + 4, none⟩ = some (.int .i64 k1) ∧ w.cell? ⟨tb, toff + 4 + 1, none⟩ = some (.int .i64 a1) ∧ w.cell? ⟨tb, toff + 4 + 2, none⟩ = some (.int .i64 i1) ∧ w.cell? ⟨tb, toff + 4 + 3, none⟩ = some (.slice o1 l1.length p1) ∧
      TreeAt w (.mk k0 a0 i0 l0) [.int .i64 k0, .int .i64 a0, .int .i64 i0, .slice o0 l0.length p0] ∧ TreeAt w (.mk k1 a1 i1 l1) [.int .i64 k1, .int .i64 a1, .int .i64 i1, .slice o1 l1.length p1] := by
  cases h with
  | mk _ _ _ _ _ _ css hm hi hc hr =>
    obtain ⟨b, off, e0, q0⟩ := hc 0 (by simp)
    obtain ⟨b1, off1, e1, q1⟩ := hc 1 (by simp)
    subst e0
    simp only [Option.some.injEq, Addr.mk.injEq, and_true] at e1
    obtain ⟨rfl, rfl⟩ := e1
    have hr0 : TreeAt w (.mk k0 a0 i0 l0) (css 0) := hr 0 (by simp)
    have hr1 : TreeAt w (.mk k1 a1 i1 l1) (css 1) := hr 1 (by simp)
    obtain ⟨o0, p0, s0⟩ := hr0.cells
    obtain ⟨o1, p1, s1⟩ := hr1.cells
    rw [s0] at hr0 q0
    rw [s1] at hr1 q1
    have u0 := q0 0 _ rfl
    have u1 := q0 1 _ rfl
    have u2 := q0 2 _ rfl
    have u3 := q0 3 _ rfl
    have v0 := q1 0 _ rfl
    have v1 := q1 1 _ rfl
    have v2 := q1 2 _ rfl
    have v3 := q1 3 _ rfl
    simp only [Nat.zero_mul, Nat.zero_add, Nat.add_zero, Nat.one_mul] at u0 u1 u2 u3 v0 v1 v2 v3
    simp only [← Nat.add_assoc] at v1 v2 v3
    exact ⟨b, off, o0, p0, o1, p1, rfl, rfl, u0, u1, u2, u3, v0, v1, v2, v3, hr0, hr1⟩
def SamePost (w : World) (e : Ending) (w' : World) : Prop := e = .returned (.bool true) ∧ Below w.heap.size w w'
end Go.Proofs.Ytmfmpmemdplloaa
