/-
  The walk of cut.Pieces. Own text.
-/
import Derived.Test.YtmfmpmemdplloaaWalkH
namespace Go.Proofs.Ytmfmpmemdplloaa
open Go.RowKit
set_option linter.unusedVariables false
def piecesV (W H : Int) (items : List Item) (t : Tree) : Res := if beginV W H items ≠ 0 then .err (beginV W H items) else walkV items 80 t 0 0 W H ⟨0, [], 0⟩
/-- What Pieces returns. -/
def RetPieces (r : Res) (w : World) (e : Ending) (w' : World) : Prop :=
  Below w.heap.size w w' ∧ match r with
    | .err c => e = .returned (.tuple #[.slice none 0 0, .int .i64 0, .int .i64 c])
    | .ok s => ∃ oa cap, e = .returned (.tuple #[.slice oa s.rects.length cap, .int .i64 s.waste, .int .i64 0]) ∧ s.rects.length ≤ maxLen ∧ Flat w' 5 encRect oa s.rects ∧ s.rects.length ≤ cap ∧ cap ≤ maxLen
theorem beginV_zero {W H : Int} {items : List Item} (h : beginV W H items = 0) : Box 0 0 W H := by
  unfold beginV at h
  split at h
  · unfold Box; omega
  · omega
theorem own_cap {α : Type} {w : World} {base : Nat} {e : TypeId} {k : Nat} {enc : α → List Value} {oa : Option Addr} {n cap : Nat} {xs : List α} (h : Own w base e k enc (.slice oa n cap) xs) : xs.length ≤ cap ∧ cap ≤ maxLen := by
  rcases h.2 with ⟨h1, h2⟩ | ⟨g, cap', cur, h1, h2, h3, h4, h5, r⟩
  · cases h1; exact ⟨by omega, by decide⟩
  · cases h1; exact ⟨by omega, by omega⟩
theorem good0 : (⟨0, [], 0⟩ : St).Good := ⟨by decide, by decide, by decide, by decide⟩
theorem new_walker (w : World) (oi : Option Addr) (ni ci : Nat) : WalkerAt (w.alloc (.cells #[.slice oi ni ci, .int .i64 0, .slice none 0 0, .int .i64 0] 57)) w.heap.size (.slice oi ni ci) ⟨0, [], 0⟩ (.slice none 0 0) := by
  refine ⟨?_, ?_, ?_, ?_, fun i => ?_, Own.nil _ _ _ _ _⟩
  all_goals go_simp
theorem pieces_below {w w1 w9 : World} {o o1 : Obj} {rv : Value} (h1 : Below (w.alloc o).heap.size (w.alloc o) w1) (h9 : Touch w1.heap.size (.slice none 0 0) rv (w1.alloc o1) w9) : Below w.heap.size w w9 := by
  have a1 := balloc_lt w o h1
  have a2 : Below w1.heap.size w1 w9 := ((Below.refl w1.heap.size w1).alloc (Nat.le_refl _) o1).trans (h9.below (fun g hg => by cases hg) (by simp))
  exact bthen a1 a2
set_option maxRecDepth 100000 in
set_option maxHeartbeats 4000000 in
theorem pieces_any (W H : Int) (oi : Option Addr) (items : List Item) (ci : Nat) (t : Tree) (k a i : Int) (oa : Option Addr) (nk cap : Nat) (w : World) (hm : items.length ≤ maxLen) (hx : Flat w 4 encItem oi items) (hT : TreeAt w t [.int .i64 k, .int .i64 a, .int .i64 i, .slice oa nk cap]) :
    Calls Try.prog 6 #[.int .i64 W, .int .i64 H, .slice oi items.length ci, .agg #[.int .i64 k, .int .i64 a, .int .i64 i, .slice oa nk cap]] w (RetPieces (piecesV W H items t) w) := by
  have hx1 := hx.below (balloc (Below.refl _ w) (.cells #[.int .i64 k, .int .i64 a, .int .i64 i, .slice oa nk cap] 27))
  by_cases hz : beginV W H items = 0
  · have hbx := beginV_zero hz
    have E : Hid (piecesV W H items t = walkV items 80 t 0 0 W H ⟨0, [], 0⟩) := by show piecesV W H items t = _; unfold piecesV; rw [if_neg (by rw [hz]; omega)]
    have HZ := Lib.hid hz; clear hz
    have hbx := Lib.hid hbx
    have b0 : (w.alloc (.cells #[.int .i64 k, .int .i64 a, .int .i64 i, .slice oa nk cap] 27)).cell? ⟨w.heap.size, 0, none⟩ = some (.int .i64 k) := by go_simp
    have b1 : (w.alloc (.cells #[.int .i64 k, .int .i64 a, .int .i64 i, .slice oa nk cap] 27)).cell? ⟨w.heap.size, 1, none⟩ = some (.int .i64 a) := by go_simp
    have b2 : (w.alloc (.cells #[.int .i64 k, .int .i64 a, .int .i64 i, .slice oa nk cap] 27)).cell? ⟨w.heap.size, 2, none⟩ = some (.int .i64 i) := by go_simp
    have b3 : (w.alloc (.cells #[.int .i64 k, .int .i64 a, .int .i64 i, .slice oa nk cap] 27)).cell? ⟨w.heap.size, 3, none⟩ = some (.slice oa nk cap) := by go_simp
    have hT1 : Hid (TreeAt (w.alloc (.cells #[.int .i64 k, .int .i64 a, .int .i64 i, .slice oa nk cap] 27)) t [.int .i64 k, .int .i64 a, .int .i64 i, .slice oa nk cap]) := hT.under (balloc (Below.refl _ w) _)
    clear hT hx
    cases hr : walkV items 80 t 0 0 W H ⟨0, [], 0⟩ with
    | err c =>
      have hc1 := walkV_err _ _ _ _ _ _ _ _ _ hr
      have hc : ((Res.err c).code != 0) = true := by show (c != 0) = true; simpa using hc1
      go_enter Try.func6, Try.ntmps6
      go_wp2_with (first
        | (go_at_call 10; refine (begin_any _ _ _ _ _ _ hm hx1).mono ?_; rintro e w1 ⟨rfl, hb1⟩; rw [HZ.out]; have m0 := keepCell hb1 b0; have m1 := keepCell hb1 b1; have m2 := keepCell hb1 b2; have m3 := keepCell hb1 b3; have hlt1 := cell?_lt m0; have hx2 := Lib.hid (hx1.below hb1); have hT2 := Lib.hid (hT1.out.under hb1))
        | (go_at_call 14; refine (walk_any items oi ci w1 hx2.out 80 t _ 0 0 W H 1 ⟨0, [], 0⟩ w1.heap.size (.slice none 0 0) _ (by omega) (by omega) hT2.out hbx.out good0 (Nat.le_refl _) ((Below.refl _ _).alloc (Nat.le_refl _) _) (new_walker w1 oi items.length ci)).mono ?_; intro e w9 hpost; rw [hr] at hpost; obtain ⟨rv2, hT9, rfl, hwa⟩ := hpost.touch; clear hpost))
      go_ret3
      rw [E.out, hr]
      exact ⟨pieces_below hb1 hT9, rfl⟩
    | ok s' =>
      have hc : ((Res.ok s').code != 0) = false := rfl
      go_enter Try.func6, Try.ntmps6
      go_wp2_with (first
        | (go_at_call 10; refine (begin_any _ _ _ _ _ _ hm hx1).mono ?_; rintro e w1 ⟨rfl, hb1⟩; rw [HZ.out]; have m0 := keepCell hb1 b0; have m1 := keepCell hb1 b1; have m2 := keepCell hb1 b2; have m3 := keepCell hb1 b3; have hlt1 := cell?_lt m0; have hx2 := Lib.hid (hx1.below hb1); have hT2 := Lib.hid (hT1.out.under hb1))
        | (go_at_call 14; refine (walk_any items oi ci w1 hx2.out 80 t _ 0 0 W H 1 ⟨0, [], 0⟩ w1.heap.size (.slice none 0 0) _ (by omega) (by omega) hT2.out hbx.out good0 (Nat.le_refl _) ((Below.refl _ _).alloc (Nat.le_refl _) _) (new_walker w1 oi items.length ci)).mono ?_; intro e w9 hpost; rw [hr] at hpost; obtain ⟨rv2, hT9, rfl, hwa⟩ := hpost.touch; clear hpost))
      have hW9 := hwa s' rfl
      obtain ⟨oa9, cap9, rfl, _, hm9, hf9⟩ := hW9.own.isSlice (fun _ => rfl)
      have hcap := own_cap hW9.own
      have c2 := hW9.c2
      have c3 := hW9.c3
      have HF := Lib.hid hf9
      have HB := Lib.hid (pieces_below hb1 hT9)
      clear hW9 hwa hf9 hT9
      go_quiet (fail)
      go_wp2
      go_ret3
      rw [E.out, hr]
      exact ⟨bdrewN HB.out _, oa9, cap9, rfl, hm9, HF.out, hcap⟩
  · have E : Hid (piecesV W H items t = .err (beginV W H items)) := by show piecesV W H items t = _; unfold piecesV; rw [if_pos hz]
    have hz1 : (beginV W H items != 0) = true := by simpa using hz
    clear hz
    go_enter Try.func6, Try.ntmps6
    go_wp2_with (go_at_call 10; refine (begin_any _ _ _ _ _ _ hm hx1).mono ?_; rintro e w1 ⟨rfl, hb1⟩)
    go_ret3
    rw [E.out]
    exact ⟨balloc_lt _ _ hb1, rfl⟩
end Go.Proofs.Ytmfmpmemdplloaa
