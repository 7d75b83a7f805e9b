/-
  law4.sameTree on two readings of one tree. Own text.
-/
import Derived.Test.YthalimgejohffaaMir
import Derived.Test.YthalimgejohffaaWalkA2
namespace Go.Proofs.Ythalimgejohffaa
open Go.RowKit
set_option linter.unusedVariables false
theorem TreeAt.cells {w : World} {k a i : Int} {kids : List Tree} {cs : List Value} (h : TreeAt w (.mk k a i kids) cs) :
    ∃ oa cap, cs = [.int .i64 k, .int .i64 a, .int .i64 i, .slice oa kids.length cap] := by
  cases h; exact ⟨_, _, rfl⟩
/-- The two kids of a cut: their cells. -/
theorem TreeAt.cut {w : World} {k a i k0 a0 i0 k1 a1 i1 : Int} {l0 l1 : List Tree} {oa : Option Addr} {n cap : Nat} (h : TreeAt w (.mk k a i [.mk k0 a0 i0 l0, .mk k1 a1 i1 l1]) [.int .i64 k, .int .i64 a, .int .i64 i, .slice oa n cap]) :
    ∃ tb toff o0 p0 o1 p1, oa = some ⟨tb, toff, none⟩ ∧ n = 2 ∧ w.cell? ⟨tb, toff, none⟩ = some (.int .i64 k0) ∧ w.cell? ⟨tb, toff + 1, none⟩ = some (.int .i64 a0) ∧ w.cell? ⟨tb, toff + 2, none⟩ = some (.int .i64 i0) ∧ w.cell? ⟨tb, toff + 3, none⟩ = some (.slice o0 l0.length p0) ∧
      w.cell? ⟨tb, toff + 4, none⟩ = some (.int .i64 k1) ∧ w.cell? ⟨tb, toff + 4 + 1, none⟩ = some (.int .i64 a1) ∧ w.cell? ⟨tb, toff + 4 + 2, none⟩ = some (.int .i64 i1) ∧ w.cell? ⟨tb, toff + 4 + 3, none⟩ = some (.slice o1 l1.length p1) ∧
      TreeAt w (.mk k0 a0 i0 l0) [.int .i64 k0, .int .i64 a0, .int .i64 i0, .slice o0 l0.length p0] ∧ TreeAt w (.mk k1 a1 i1 l1) [.int .i64 k1, .int .i64 a1, .int .i64 i1, .slice o1 l1.length p1] := by
  cases h with
  | mk _ _ _ _ _ _ css hm hi hc hr =>
    obtain ⟨b, off, e0, q0⟩ := hc 0 (by simp)
    obtain ⟨b1, off1, e1, q1⟩ := hc 1 (by simp)
    subst e0
    simp only [Option.some.injEq, Addr.mk.injEq, and_true] at e1
    obtain ⟨rfl, rfl⟩ := e1
    have hr0 : TreeAt w (.mk k0 a0 i0 l0) (css 0) := hr 0 (by simp)
    have hr1 : TreeAt w (.mk k1 a1 i1 l1) (css 1) := hr 1 (by simp)
    obtain ⟨o0, p0, s0⟩ := hr0.cells
    obtain ⟨o1, p1, s1⟩ := hr1.cells
    rw [s0] at hr0 q0
    rw [s1] at hr1 q1
    have u0 := q0 0 _ rfl
    have u1 := q0 1 _ rfl
    have u2 := q0 2 _ rfl
    have u3 := q0 3 _ rfl
    have v0 := q1 0 _ rfl
    have v1 := q1 1 _ rfl
    have v2 := q1 2 _ rfl
    have v3 := q1 3 _ rfl
    simp only [Nat.zero_mul, Nat.zero_add, Nat.add_zero, Nat.one_mul] at u0 u1 u2 u3 v0 v1 v2 v3
    simp only [← Nat.add_assoc] at v1 v2 v3
    exact ⟨b, off, o0, p0, o1, p1, rfl, rfl, u0, u1, u2, u3, v0, v1, v2, v3, hr0, hr1⟩
def SamePost (w : World) (e : Ending) (w' : World) : Prop := e = .returned (.bool true) ∧ Below w.heap.size w w'
set_option maxRecDepth 100000 in
set_option maxHeartbeats 4000000 in
theorem same_leaf (k a i : Int) (oa : Option Addr) (ca : Nat) (ob : Option Addr) (cb : Nat) (w : World) :
    Calls Try.prog 17 #[.agg #[.int .i64 k, .int .i64 a, .int .i64 i, .slice oa 0 ca], .agg #[.int .i64 k, .int .i64 a, .int .i64 i, .slice ob 0 cb]] w (SamePost w) := by
  go_enter Try.func17, Try.ntmps17
  go_wp2
  go_loop [37] (fun i => i = .int .i64 0) (fun _ => 0)
  case atStart => rfl
  case round =>
    subst hrel
    go_wp2
    go_ret
    exact ⟨rfl, balloc (balloc (Below.refl _ w) _) _⟩
set_option maxRecDepth 100000 in
set_option maxHeartbeats 8000000 in
theorem same_cut (k a i k0 a0 i0 k1 a1 i1 : Int) (n0 n1 : Nat) (tb toff ca ub uoff cb p0 p1 q0 q1 : Nat) (o0 o1 r0 r1 : Option Addr) (w : World)
    (c0 : w.cell? ⟨tb, toff, none⟩ = some (.int .i64 k0)) (c1 : w.cell? ⟨tb, toff + 1, none⟩ = some (.int .i64 a0)) (c2 : w.cell? ⟨tb, toff + 2, none⟩ = some (.int .i64 i0)) (c3 : w.cell? ⟨tb, toff + 3, none⟩ = some (.slice o0 n0 p0))
    (c4 : w.cell? ⟨tb, toff + 4, none⟩ = some (.int .i64 k1)) (c5 : w.cell? ⟨tb, toff + 4 + 1, none⟩ = some (.int .i64 a1)) (c6 : w.cell? ⟨tb, toff + 4 + 2, none⟩ = some (.int .i64 i1)) (c7 : w.cell? ⟨tb, toff + 4 + 3, none⟩ = some (.slice o1 n1 p1))
    (d0 : w.cell? ⟨ub, uoff, none⟩ = some (.int .i64 k0)) (d1 : w.cell? ⟨ub, uoff + 1, none⟩ = some (.int .i64 a0)) (d2 : w.cell? ⟨ub, uoff + 2, none⟩ = some (.int .i64 i0)) (d3 : w.cell? ⟨ub, uoff + 3, none⟩ = some (.slice r0 n0 q0))
    (d4 : w.cell? ⟨ub, uoff + 4, none⟩ = some (.int .i64 k1)) (d5 : w.cell? ⟨ub, uoff + 4 + 1, none⟩ = some (.int .i64 a1)) (d6 : w.cell? ⟨ub, uoff + 4 + 2, none⟩ = some (.int .i64 i1)) (d7 : w.cell? ⟨ub, uoff + 4 + 3, none⟩ = some (.slice r1 n1 q1))
    (ih0 : ∀ w', Below w.heap.size w w' → Calls Try.prog 17 #[.agg #[.int .i64 k0, .int .i64 a0, .int .i64 i0, .slice o0 n0 p0], .agg #[.int .i64 k0, .int .i64 a0, .int .i64 i0, .slice r0 n0 q0]] w' (SamePost w'))
    (ih1 : ∀ w', Below w.heap.size w w' → Calls Try.prog 17 #[.agg #[.int .i64 k1, .int .i64 a1, .int .i64 i1, .slice o1 n1 p1], .agg #[.int .i64 k1, .int .i64 a1, .int .i64 i1, .slice r1 n1 q1]] w' (SamePost w')) :
    Calls Try.prog 17 #[.agg #[.int .i64 k, .int .i64 a, .int .i64 i, .slice (some ⟨tb, toff, none⟩) 2 ca], .agg #[.int .i64 k, .int .i64 a, .int .i64 i, .slice (some ⟨ub, uoff, none⟩) 2 cb]] w (SamePost w) := by
  have I0 := Lib.hid ih0
  have I1 := Lib.hid ih1
  have HC : Hid (∀ w', Below w.heap.size w w' → (w'.cell? ⟨tb, toff, none⟩ = some (.int .i64 k0) ∧ w'.cell? ⟨tb, toff + 1, none⟩ = some (.int .i64 a0) ∧ w'.cell? ⟨tb, toff + 2, none⟩ = some (.int .i64 i0) ∧ w'.cell? ⟨tb, toff + 3, none⟩ = some (.slice o0 n0 p0) ∧
      w'.cell? ⟨ub, uoff, none⟩ = some (.int .i64 k0) ∧ w'.cell? ⟨ub, uoff + 1, none⟩ = some (.int .i64 a0) ∧ w'.cell? ⟨ub, uoff + 2, none⟩ = some (.int .i64 i0) ∧ w'.cell? ⟨ub, uoff + 3, none⟩ = some (.slice r0 n0 q0))) :=
    fun w' hb => ⟨keepCell hb c0, keepCell hb c1, keepCell hb c2, keepCell hb c3, keepCell hb d0, keepCell hb d1, keepCell hb d2, keepCell hb d3⟩
  have HD : Hid (∀ w', Below w.heap.size w w' → (w'.cell? ⟨tb, toff + 4, none⟩ = some (.int .i64 k1) ∧ w'.cell? ⟨tb, toff + 4 + 1, none⟩ = some (.int .i64 a1) ∧ w'.cell? ⟨tb, toff + 4 + 2, none⟩ = some (.int .i64 i1) ∧ w'.cell? ⟨tb, toff + 4 + 3, none⟩ = some (.slice o1 n1 p1) ∧
      w'.cell? ⟨ub, uoff + 4, none⟩ = some (.int .i64 k1) ∧ w'.cell? ⟨ub, uoff + 4 + 1, none⟩ = some (.int .i64 a1) ∧ w'.cell? ⟨ub, uoff + 4 + 2, none⟩ = some (.int .i64 i1) ∧ w'.cell? ⟨ub, uoff + 4 + 3, none⟩ = some (.slice r1 n1 q1))) :=
    fun w' hb => ⟨keepCell hb c4, keepCell hb c5, keepCell hb c6, keepCell hb c7, keepCell hb d4, keepCell hb d5, keepCell hb d6, keepCell hb d7⟩
  have hB0 : Hid (Below w.heap.size w ((w.alloc (.cells #[.int .i64 k, .int .i64 a, .int .i64 i, .slice (some ⟨tb, toff, none⟩) 2 ca] 25)).alloc (.cells #[.int .i64 k, .int .i64 a, .int .i64 i, .slice (some ⟨ub, uoff, none⟩) 2 cb] 25))) := balloc (balloc (Below.refl _ w) _) _
  clear c0 c1 c2 c3 c4 c5 c6 c7 d0 d1 d2 d3 d4 d5 d6 d7 ih0 ih1
  go_enter Try.func17, Try.ntmps17
  go_wp2
  go_loopw [37] (fun i wr => (i = .int .i64 0 ∨ i = .int .i64 1 ∨ i = .int .i64 2) ∧ Below w.heap.size w wr ∧ wr.cell? ⟨w.heap.size, 3, none⟩ = some (.slice (some ⟨tb, toff, none⟩) 2 ca) ∧ wr.cell? ⟨w.heap.size + 1, 3, none⟩ = some (.slice (some ⟨ub, uoff, none⟩) 2 cb)) (fun i _ => (2 - intOf i).toNat)
  case atStart => exact ⟨.inl rfl, hB0.out, by go_simp, by go_simp⟩
  case round =>
    obtain ⟨hi, hb, m0, m1⟩ := hrel
    clear hB0
    rcases hi with rfl | rfl | rfl
    · obtain ⟨c0, c1, c2, c3, d0, d1, d2, d3⟩ := HC.out wr hb
      go_wp2
      go_still_tail 10, (by kernel_rfl)
      change wpList _ _ _ _ _ wr.drew
      clear c0 c1 c2 c3 d0 d1 d2 d3
      have hb2 := hb.drew
      have k0 : wr.drew.cell? ⟨w.heap.size, 3, none⟩ = some (.slice (some ⟨tb, toff, none⟩) 2 ca) := m0
      have k1 : wr.drew.cell? ⟨w.heap.size + 1, 3, none⟩ = some (.slice (some ⟨ub, uoff, none⟩) 2 cb) := m1
      clear m0 m1 hb
      generalize wr.drew = w5 at *
      go_wp2_with (go_at_call 17; refine (I0.out _ hb2).mono ?_; rintro e w6 ⟨rfl, hb6⟩; have h0 := keepCell hb6 k0; have h1 := keepCell hb6 k1; have hb7 := hb2.trans (hb6.mono hb2.size); clear hb2 hb6 k0 k1)
      go_roundw
      case rel => exact ⟨.inr (.inl rfl), hb7, h0, h1⟩
      case measure => simp [intOf]
    · obtain ⟨c0, c1, c2, c3, d0, d1, d2, d3⟩ := HD.out wr hb
      go_wp2
      go_still_tail 10, (by kernel_rfl)
      change wpList _ _ _ _ _ wr.drew
      clear c0 c1 c2 c3 d0 d1 d2 d3
      have hb2 := hb.drew
      have k0 : wr.drew.cell? ⟨w.heap.size, 3, none⟩ = some (.slice (some ⟨tb, toff, none⟩) 2 ca) := m0
      have k1 : wr.drew.cell? ⟨w.heap.size + 1, 3, none⟩ = some (.slice (some ⟨ub, uoff, none⟩) 2 cb) := m1
      clear m0 m1 hb
      generalize wr.drew = w5 at *
      go_wp2_with (go_at_call 17; refine (I1.out _ hb2).mono ?_; rintro e w6 ⟨rfl, hb6⟩; have h0 := keepCell hb6 k0; have h1 := keepCell hb6 k1; have hb7 := hb2.trans (hb6.mono hb2.size); clear hb2 hb6 k0 k1)
      go_roundw
      case rel => exact ⟨.inr (.inr rfl), hb7, h0, h1⟩
      case measure => simp [intOf]
    · go_wp2
      go_ret
      exact ⟨rfl, hb⟩
theorem same_any : ∀ (n : Nat) (k a i : Int) (kids : List Tree) (oa : Option Addr) (ca : Nat) (ob : Option Addr) (cb : Nat) (w : World), okT n (.mk k a i kids) → TreeAt w (.mk k a i kids) [.int .i64 k, .int .i64 a, .int .i64 i, .slice oa kids.length ca] → TreeAt w (.mk k a i kids) [.int .i64 k, .int .i64 a, .int .i64 i, .slice ob kids.length cb] →
    Calls Try.prog 17 #[.agg #[.int .i64 k, .int .i64 a, .int .i64 i, .slice oa kids.length ca], .agg #[.int .i64 k, .int .i64 a, .int .i64 i, .slice ob kids.length cb]] w (SamePost w) := by
  intro n
  induction n with
  | zero => intro k a i kids oa ca ob cb w h; cases h
  | succ n ih =>
    intro k a i kids oa ca ob cb w h hA hB
    rcases h with ⟨rfl, _⟩ | ⟨⟨k0, a0, i0, l0⟩, ⟨k1, a1, i1, l1⟩, rfl, _, _, _, _, h0, h1⟩
    · exact same_leaf k a i oa ca ob cb w
    · obtain ⟨tb, toff, o0, p0, o1, p1, rfl, _, c0, c1, c2, c3, c4, c5, c6, c7, A0, A1⟩ := hA.cut
      obtain ⟨ub, uoff, r0, q0, r1, q1, rfl, _, d0, d1, d2, d3, d4, d5, d6, d7, B0, B1⟩ := hB.cut
      exact same_cut k a i k0 a0 i0 k1 a1 i1 _ _ tb toff ca ub uoff cb p0 p1 q0 q1 o0 o1 r0 r1 w c0 c1 c2 c3 c4 c5 c6 c7 d0 d1 d2 d3 d4 d5 d6 d7
        (fun w' hb => ih k0 a0 i0 l0 o0 p0 r0 q0 w' h0 (A0.under hb) (B0.under hb)) (fun w' hb => ih k1 a1 i1 l1 o1 p1 r1 q1 w' h1 (A1.under hb) (B1.under hb))
end Go.Proofs.Ythalimgejohffaa
