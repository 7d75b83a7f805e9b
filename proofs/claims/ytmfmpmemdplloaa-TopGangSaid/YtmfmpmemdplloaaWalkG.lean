/-
  The walk of the walker: a cut into two parts. Own text.
-/
import Derived.Test.YtmfmpmemdplloaaWalkA2
namespace Go.Proofs.Ytmfmpmemdplloaa
open Go.RowKit
set_option linter.unusedVariables false
set_option maxRecDepth 100000 in
set_option maxHeartbeats 8000000 in
theorem walk_ends (a : Int) (tb toff cap : Nat) (k0 a0 i0 : Int) (o0 : Option Addr) (n0 p0 : Nat) (k1 a1 i1 : Int) (o1 : Option Addr) (n1 p1 : Nat) (x y W H d : Int) (s : St) (r0 : Res) (r1 : St → Res) (kb : Nat) (iv rv : Value) (w0 w : World) (hb0 : Below w0.heap.size w0 w) (hkb0 : w0.heap.size ≤ kb)
    (hn : s.nodes < 4096) (hd0 : 0 ≤ d) (hd : d ≤ 80) (hbx : Box x y W H) (ha : 1 ≤ a ∧ a < H) (hr0 : ∀ c, r0 = .err c → c ≠ 0) (hw : WalkerAt w kb iv s rv)
    (kd0 : w0.cell? ⟨tb, toff, none⟩ = some (.int .i64 k0)) (kd1 : w0.cell? ⟨tb, toff + 1, none⟩ = some (.int .i64 a0)) (kd2 : w0.cell? ⟨tb, toff + 2, none⟩ = some (.int .i64 i0)) (kd3 : w0.cell? ⟨tb, toff + 3, none⟩ = some (.slice o0 n0 p0))
    (kd4 : w0.cell? ⟨tb, toff + 4, none⟩ = some (.int .i64 k1)) (kd5 : w0.cell? ⟨tb, toff + 4 + 1, none⟩ = some (.int .i64 a1)) (kd6 : w0.cell? ⟨tb, toff + 4 + 2, none⟩ = some (.int .i64 i1)) (kd7 : w0.cell? ⟨tb, toff + 4 + 3, none⟩ = some (.slice o1 n1 p1))
    (ih0 : ∀ w', WalkerAt w' kb iv { s with nodes := s.nodes + 1 } rv → Below w0.heap.size w0 w' → Calls Try.prog 14 #[.pointer (some ⟨kb, 0, none⟩), .agg #[.int .i64 k0, .int .i64 a0, .int .i64 i0, .slice o0 n0 p0], .int .i64 x, .int .i64 y, .int .i64 W, .int .i64 a, .int .i64 (d + 1)] w' (PostWalk r0 kb iv rv w'))
    (ih1 : ∀ s2 rv2 w', r0 = .ok s2 → WalkerAt w' kb iv s2 rv2 → Below w0.heap.size w0 w' → Calls Try.prog 14 #[.pointer (some ⟨kb, 0, none⟩), .agg #[.int .i64 k1, .int .i64 a1, .int .i64 i1, .slice o1 n1 p1], .int .i64 x, .int .i64 (y + a), .int .i64 W, .int .i64 (H - a), .int .i64 (d + 1)] w' (PostWalk (r1 s2) kb iv rv2 w')) :
    Calls Try.prog 14 #[.pointer (some ⟨kb, 0, none⟩), .agg #[.int .i64 3, .int .i64 a, .int .i64 0, .slice (some ⟨tb, toff, none⟩) 2 cap], .int .i64 x, .int .i64 y, .int .i64 W, .int .i64 H, .int .i64 d] w (PostWalk (r0.bind r1) kb iv rv w) := by
  have hkb := hw.lt
  have htb : tb < w0.heap.size := cell?_lt kd0
  have htk : tb ≠ kb := by omega
  have htl : tb < w.heap.size := by omega
  have hwn := hw.setNodes (n := s.nodes + 1) (z := (s.nodes : Int) + 1) (by omega)
  have hown0 := hw.own
  have hkne : some tb ≠ rv.ownBlock := by
    intro e
    have := hown0.lt tb e.symm
    omega
  have hbne : some w.heap.size ≠ rv.ownBlock := by
    intro e
    have := hown0.lt _ e.symm
    omega
  have hbk : w.heap.size ≠ kb := by omega
  obtain ⟨x1, x2, x3, x4, x5, x6⟩ := hbx
  obtain ⟨c0, c1, c2, c3, fz, _⟩ := hw
  have f1 := fz 1
  clear fz
  have hB : Hid (∀ n, let w' := (((w.setCell ⟨kb, 1, none⟩ (.int .i64 ((s.nodes : Int) + 1))).alloc (.cells #[.int .i64 3, .int .i64 a, .int .i64 0, .slice (some ⟨tb, toff, none⟩) 2 cap] 27)).drewN n)
      w'.cell? ⟨w.heap.size, 1, none⟩ = some (.int .i64 a) ∧ w'.cell? ⟨w.heap.size, 3, none⟩ = some (.slice (some ⟨tb, toff, none⟩) 2 cap) ∧ w'.cell? ⟨tb, toff, none⟩ = some (.int .i64 k0) ∧ w'.cell? ⟨tb, toff + 1, none⟩ = some (.int .i64 a0) ∧ w'.cell? ⟨tb, toff + 2, none⟩ = some (.int .i64 i0) ∧ w'.cell? ⟨tb, toff + 3, none⟩ = some (.slice o0 n0 p0) ∧ w'.cell? ⟨w.heap.size, 0, none⟩ = some (.int .i64 3) ∧ WalkerAt w' kb iv { s with nodes := s.nodes + 1 } rv ∧ Touch kb rv rv w w') := by
    intro n w'
    obtain ⟨q0, q1, q2, q3, q4, q5⟩ := hwn.alloc (.cells #[.int .i64 3, .int .i64 a, .int .i64 0, .slice (some ⟨tb, toff, none⟩) 2 cap] 27)
    have t := ((((Touch.refl kb rv w).set 1 (.int .i64 ((s.nodes : Int) + 1))).alloc (.cells #[.int .i64 3, .int .i64 a, .int .i64 0, .slice (some ⟨tb, toff, none⟩) 2 cap] 27)).drewN n)
    refine ⟨?_, ?_, t.cell htk hkne (keepCell hb0 kd0), t.cell htk hkne (keepCell hb0 kd1), t.cell htk hkne (keepCell hb0 kd2), t.cell htk hkne (keepCell hb0 kd3), ?_, ⟨q0, q1, q2, q3, q4, q5⟩, t⟩
    all_goals
      unfold w'
      go_simp
  go_enter Try.func14, Try.ntmps14
  go_wp2
  go_quiet (fail)
  generalize nq = nz
  go_wp2
  go_quiet (fail)
  go_wp2
  have hB2 := hB.out (nz + nq)
  generalize hq : World.drewN _ (nz + nq) = w2 at *
  obtain ⟨e1, e2, e3, e4, e5, e6, e0, hW2, hT2⟩ := hB2
  have hBw : Hid (Below w0.heap.size w0 w2) := hb0.trans (hT2.below (fun g hg => by have := hown0.lt g hg; omega) (by omega) |>.mono hkb0)
  have hW2 := Lib.hid hW2
  have hT2 := Lib.hid hT2
  clear c0 c1 c2 c3 f1 hq hwn hB
  have d1 : w2.drew.cell? ⟨w.heap.size, 1, none⟩ = some (.int .i64 a) := e1
  have d2 : w2.drew.cell? ⟨w.heap.size, 3, none⟩ = some (.slice (some ⟨tb, toff, none⟩) 2 cap) := e2
  have d3 : w2.drew.cell? ⟨tb, toff, none⟩ = some (.int .i64 k0) := e3
  have d4 : w2.drew.cell? ⟨tb, toff + 1, none⟩ = some (.int .i64 a0) := e4
  have d5 : w2.drew.cell? ⟨tb, toff + 2, none⟩ = some (.int .i64 i0) := e5
  have d6 : w2.drew.cell? ⟨tb, toff + 3, none⟩ = some (.slice o0 n0 p0) := e6
  simp only [World.drew] at d1 d2 d3 d4 d5 d6
  go_still_tail 12, (by kernel_rfl)
  change wpList _ _ _ _ _ w2.drew
  clear d1 d2 d3 d4 d5 d6
  have hT5 := hT2.out.drew
  have hW5 := hW2.out.drew
  have hB5 := hBw.out.drew
  have e1' : w2.drew.cell? ⟨w.heap.size, 1, none⟩ = some (.int .i64 a) := e1
  have e2' : w2.drew.cell? ⟨w.heap.size, 3, none⟩ = some (.slice (some ⟨tb, toff, none⟩) 2 cap) := e2
  have e0' : w2.drew.cell? ⟨w.heap.size, 0, none⟩ = some (.int .i64 3) := e0
  clear e0 e1 e2 e3 e4 e5 e6 hT2 hW2 hBw
  generalize w2.drew = w5 at *
  cases hr : r0 with
  | err c =>
    have hc1 := hr0 c hr
    have hc : ((Res.err c).code != 0) = true := by show (c != 0) = true; simpa using hc1
    rw [hr] at ih0
    go_wp2_with (go_at_call 14; refine (ih0 _ hW5 hB5).mono ?_; intro e w6 hpost; obtain ⟨rv2, hT6, rfl, hwa⟩ := hpost.touch; clear hpost)
    go_ret
    rw [hr]
    exact PostWalk.make (hT5.trans hT6) rfl (fun s' e => by cases e)
  | ok s2 =>
    have hc : ((Res.ok s2).code != 0) = false := rfl
    rw [hr] at ih0
    go_wp2_with (go_at_call 14; refine (ih0 _ hW5 hB5).mono ?_; intro e w6 hpost; obtain ⟨rv2, hT6, rfl, hwa⟩ := hpost.touch; clear hpost)
    have hT7 := hT5.trans hT6
    have m1 := hT6.cell hbk hbne e1'
    have m2 := hT6.cell hbk hbne e2'
    have m0 := hT6.cell hbk hbne e0'
    have hB7 : Below w0.heap.size w0 w6 := hb0.trans (hT7.below (fun g hg => by have := hown0.lt g hg; omega) (by omega) |>.mono hkb0)
    clear ih0 e0' e1' e2' hW5
    have hW7 := hwa s2 rfl
    have f1 := keepCell hB7 kd4
    have f2 := keepCell hB7 kd5
    have f3 := keepCell hB7 kd6
    have f4 := keepCell hB7 kd7
    have HT := Lib.hid hT7
    have hrv2 : Hid (∀ g, rv2.ownBlock = some g → kb + 1 ≤ g) := fun g hg => (hW7.own.lt g hg).1
    clear hT7 hT6 hT5 hwa hB5
    have d1 : w6.drew.cell? ⟨w.heap.size, 1, none⟩ = some (.int .i64 a) := m1
    have d2 : w6.drew.cell? ⟨w.heap.size, 3, none⟩ = some (.slice (some ⟨tb, toff, none⟩) 2 cap) := m2
    have d3 : w6.drew.cell? ⟨tb, toff + 4, none⟩ = some (.int .i64 k1) := f1
    have d4 : w6.drew.cell? ⟨tb, toff + 4 + 1, none⟩ = some (.int .i64 a1) := f2
    have d5 : w6.drew.cell? ⟨tb, toff + 4 + 2, none⟩ = some (.int .i64 i1) := f3
    have d6 : w6.drew.cell? ⟨tb, toff + 4 + 3, none⟩ = some (.slice o1 n1 p1) := f4
    simp only [World.drew] at d1 d2 d3 d4 d5 d6
    go_still_tail 17, (by kernel_rfl)
    change wpList _ _ _ _ _ w6.drew
    clear d1 d2 d3 d4 d5 d6
    have hW8 := hW7.drew
    have hB8 := hB7.drew
    have HT8 := Lib.hid HT.out.drew
    clear m0 m1 m2 f1 f2 f3 f4 hW7 hB7 HT
    generalize w6.drew = w8 at *
    go_wp2_with (go_at_call 14; refine (ih1 _ _ _ hr hW8 hB8).mono ?_; intro e w9 hpost; obtain ⟨rv3, hT9, rfl, hwb⟩ := hpost.touch; clear hpost)
    go_ret
    rw [hr]
    exact PostWalk.make (HT8.out.trans hT9) rfl hwb
end Go.Proofs.Ytmfmpmemdplloaa
