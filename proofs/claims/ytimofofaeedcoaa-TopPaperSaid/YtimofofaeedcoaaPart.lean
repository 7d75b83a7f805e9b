/-
  The walk of gang.Forms's inner function. Own text.
-/
import Derived.Test.YtimofofaeedcoaaFormsV
namespace Go.Proofs.Ytimofofaeedcoaa
open Go.RowKit
set_option linter.unusedVariables false
/-- Returns a new slice that reads as xs. -/
def RetSeg (xs : List Int) (w : World) (e : Ending) (w' : World) : Prop :=
  ∃ oa cap, e = .returned (.slice oa xs.length cap) ∧ (oa = none → cap = 0) ∧ Flat w' 1 encInt oa xs ∧ Below w.heap.size w w'
set_option maxHeartbeats 1000000 in
theorem part_any (bo bd go : Nat) (od : Option Addr) (ds : List Int) (cd i k : Nat) (W : World) (hm : ds.length ≤ 12) (hik : i < k) (hk : k ≤ ds.length) (h1 : W.cell? ⟨bo, 0, none⟩ = some (.slice (some ⟨go, 0, none⟩) ds.length ds.length)) (h2 : W.cell? ⟨bd, 0, none⟩ = some (.slice od ds.length cd))
    (hT : FTab (Value.int .i64) W go ds.length (fun i => (((ordV ds).getD i 0 : Nat) : Int))) (hx : Flat W 1 encInt od ds) :
    Calls Try.prog 17 #[.int .i64 i, .int .i64 k, .pointer (some ⟨bo, 0, none⟩), .pointer (some ⟨bd, 0, none⟩)] W (RetSeg (seg (vals ds) i k) W) := by
  have hb1 : bo < W.heap.size := cell?_lt h1
  have hb2 : bd < W.heap.size := cell?_lt h2
  have hb3 : go < W.heap.size := hT.lt (by omega)
  have H1 := Lib.hid h1; have H2 := Lib.hid h2; have HT := Lib.hid hT; have HX := Lib.hid hx
  clear hx hT h2
  have hlen : (seg (vals ds) i k).length = k - i := seg_len (by omega) (by rw [vals_len]; exact hk)
  have hlt1 : i < ds.length := by omega
  have hki : (k : Int) - (i : Int) = ((k - i : Nat) : Int) := by omega
  go_enter Try.func17, Try.ntmps17
  go_wp2
  go_loopw [7, 15] (fun l t wr => ∃ j : Nat, j ≤ k - i ∧ t = .int .i64 j ∧ Own wr W.heap.size 3 1 encInt l (seg (vals ds) i (i + j)) ∧ Below W.heap.size W wr) (fun _ t _ => k - i - (intOf t).toNat)
  case atStart =>
    refine ⟨0, by omega, rfl, ?_, Below.refl _ _⟩
    rw [show seg (vals ds) i (i + 0) = [] from List.eq_nil_of_length_eq_zero (by rw [seg_len (by omega) (by rw [vals_len]; omega)]; omega)]
    exact Own.nil _ _ _ _ _
  case round =>
    obtain ⟨j, hj, rfl, hown, hb⟩ := hrel
    by_cases hlt : j < k - i
    · have hij : i + j < ds.length := by omega
      obtain ⟨hq1, hq2⟩ := ordV_at ds hij
      have ho := (HT.out.below hb hb3).at' (i + j) hij
      have hE : Hid (seg (vals ds) i (i + (j + 1)) = seg (vals ds) i (i + j) ++ [ds[(ordV ds).getD (i + j) 0]'hq1]) := by
        show _ = _
        rw [← Nat.add_assoc, seg_succ (by omega) (by rw [vals_len]; exact hij), vals_get]
      clear hq2
      generalize hqq : (ordV ds).getD (i + j) 0 = q at *
      have hqq := Lib.hid hqq
      have k2 := keepCell hb H2.out
      obtain ⟨b, off, rfl, hc1⟩ := (HX.out.below hb).int hq1
      have hlen2 : (seg (vals ds) i (i + j)).length ≤ 12 := by rw [seg_len (by omega) (by rw [vals_len]; omega)]; omega
      go_wp2_with (at_builtin; go_must (refine wpList_app1 rfl (.tmp 19) (.tmp 24) 23 rfl elemInt Try.underlying23 W.heap.size _ _ encInt rfl (hown.alloc _) (ds[q]) ⟨wr.heap.size, 0, none⟩ 1 rfl rfl ?c1 ?c2 ?c3 ?c4 ?c5 ?_))
      case c1 => exact cell_one_new _ _ _
      case c2 => simp [encInt, Value.oneCell']
      case c3 => omega
      case c4 => unfold maxLen; omega
      case c5 => have := hb.size; simp; omega
      intro v' w7 hown3 hg3
      have hb5 := (hown.alloc _).grown (balloc hb _) (Nat.le_refl _) hg3
      rw [← hE.out] at hown3
      clear hg3 hown
      go_wp2
      go_roundw
      case rel => exact ⟨j + 1, by omega, by go_num, hown3, hb5⟩
      case measure => simp [intOf]; omega
    · obtain rfl : j = k - i := by omega
      rw [show i + (k - i) = k by omega] at hown
      obtain ⟨oa', cap', rfl, hn0, hm', hf'⟩ := hown.isSlice (fun _ => rfl)
      have HF := Lib.hid (show RetSeg (seg (vals ds) i k) W _ wr from ⟨oa', cap', rfl, hn0, hf', hb⟩)
      clear hf' hown hn0
      go_wp2
      go_ret
      exact HF.out
end Go.Proofs.Ytimofofaeedcoaa
