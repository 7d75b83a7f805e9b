/-
  The walk of the walker: a piece. Own text.
-/
import Derived.Test.YtmfmpmemdplloaaWalkA2
namespace Go.Proofs.Ytmfmpmemdplloaa
open Go.RowKit
set_option linter.unusedVariables false
set_option maxRecDepth 100000 in
set_option maxHeartbeats 4000000 in
theorem walk_fit (p : Nat) (items : List Item) (hp : p < items.length) (oa oi : Option Addr) (ci cap : Nat) (x y W H d : Int) (s : St) (kb : Nat) (rv : Value) (w0 w : World) (hx : Flat w0 4 encItem oi items) (hb0 : Below w0.heap.size w0 w) (hkb0 : w0.heap.size ≤ kb) (hn : s.nodes < 4096) (hd : d ≤ 80)
    (hf : fitsB items[p] W H = false) (hw : WalkerAt w kb (.slice oi items.length ci) s rv) :
    Calls Try.prog 14 #[.pointer (some ⟨kb, 0, none⟩), .agg #[.int .i64 1, .int .i64 0, .int .i64 p, .slice oa 0 cap], .int .i64 x, .int .i64 y, .int .i64 W, .int .i64 H, .int .i64 d] w
      (PostWalk (.err 19) kb (.slice oi items.length ci) rv w) := by
  have hkb := hw.lt
  obtain ⟨b, off, rfl, i0, i1, i2, i3⟩ := (hx.below hb0).item hp
  have hbw : b < w0.heap.size := by
    obtain ⟨b', off', e, j0, _⟩ := hx.item hp
    simp only [Option.some.injEq, Addr.mk.injEq, and_true] at e
    obtain ⟨rfl, rfl⟩ := e
    exact cell?_lt j0
  have hbk : b ≠ kb := by omega
  have hbl : b < w.heap.size := by omega
  obtain ⟨c0, c1, c2, c3, fz, _⟩ := hw
  have f1 := fz 1
  clear fz
  have HF := Lib.hid hf; clear hf
  have hB : Hid (∀ n, let w' := (((w.setCell ⟨kb, 1, none⟩ (.int .i64 ((s.nodes : Int) + 1))).alloc (.cells #[.int .i64 1, .int .i64 0, .int .i64 p, .slice oa 0 cap] 27)).drewN n)
      w'.cell? ⟨w.heap.size, 0, none⟩ = some (.int .i64 1) ∧ w'.cell? ⟨w.heap.size, 2, none⟩ = some (.int .i64 p) ∧ w'.cell? ⟨kb, 0, none⟩ = some (.slice (some ⟨b, off, none⟩) items.length ci) ∧
      w'.cell? ⟨b, off + p * 4, none⟩ = some (.int .i64 items[p].w) ∧ w'.cell? ⟨b, off + p * 4 + 1, none⟩ = some (.int .i64 items[p].h) ∧ w'.cell? ⟨b, off + p * 4 + 2, none⟩ = some (.int .i64 items[p].value) ∧ w'.cell? ⟨b, off + p * 4 + 3, none⟩ = some (.bool items[p].turn)) := by
    intro n w'
    refine ⟨?_, ?_, ?_, ?_, ?_, ?_, ?_⟩
    all_goals
      unfold w'
      go_simp
  go_enter Try.func14, Try.ntmps14
  go_wp2
  go_quiet (fail)
  have hB2 := hB.out nq
  have hT := Lib.hid ((((Touch.refl kb rv w).set 1 (.int .i64 ((s.nodes : Int) + 1))).alloc (.cells #[.int .i64 1, .int .i64 0, .int .i64 p, .slice oa 0 cap] 27)).drewN nq)
  generalize hq : World.drewN _ nq = w2 at *
  obtain ⟨e0, e1, e2, e3, e4, e5, e6⟩ := hB2
  clear c0 c1 c2 c3 f1 i0 i1 i2 i3
  clear hq
  go_wp2
  go_region_held3 (fun w' => w'.cell? ⟨w.heap.size, 0, none⟩ = some (.int .i64 1) ∧ w'.cell? ⟨w.heap.size, 2, none⟩ = some (.int .i64 p) ∧ w'.cell? ⟨kb, 0, none⟩ = some (.slice (some ⟨b, off, none⟩) items.length ci) ∧
      w'.cell? ⟨b, off + p * 4, none⟩ = some (.int .i64 items[p].w) ∧ w'.cell? ⟨b, off + p * 4 + 1, none⟩ = some (.int .i64 items[p].h) ∧ w'.cell? ⟨b, off + p * 4 + 2, none⟩ = some (.int .i64 items[p].value) ∧ w'.cell? ⟨b, off + p * 4 + 3, none⟩ = some (.bool items[p].turn))
    (first | go_keep | exact ⟨keepCell hb2 e0, keepCell hb2 e1, keepCell hb2 e2, keepCell hb2 e3, keepCell hb2 e4, keepCell hb2 e5, keepCell hb2 e6⟩)
    (first | fail | (go_simp; go_at_call 20; refine (fits_any items[p] _ _ _).mono ?_; rintro e w3 ⟨rfl, hb2⟩; rw [HF.out]))
  go_wp2
  go_ret
  exact ⟨rfl, rv, hT.out.drew.under hb2⟩
end Go.Proofs.Ytmfmpmemdplloaa
