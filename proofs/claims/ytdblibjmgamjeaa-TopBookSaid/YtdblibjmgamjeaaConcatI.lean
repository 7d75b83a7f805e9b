/-
  slices.Grow at a nil slice, slices.Concat: element type Ints. Written by concat.py. Own text.
-/
import Derived.Test.YtdblibjmgamjeaaBind1
namespace Go.Proofs.Ytdblibjmgamjeaa
open Go.RowKit
set_option linter.unusedVariables false
/-- Returns a slice of its own, with nothing in it. -/
def RetOwnInts (w : World) (e : Ending) (w' : World) : Prop := ∃ v, e = .returned v ∧ Own w' w.heap.size 3 1 encInt v ([] : List Int) ∧ Below w.heap.size w w'
set_option maxRecDepth 100000 in
set_option maxHeartbeats 1000000 in
theorem growInts (n : Nat) (w : World) (hn : n * 8 ≤ 281474976710656) (h63 : n ≤ maxLen) :
    Calls Try.prog 54 #[.slice none 0 0, .int .i64 n] w (RetOwnInts w) := by
  have hn63 : (n : Int) ≤ 9223372036854775807 := by unfold maxLen at h63; omega
  cases Nat.eq_zero_or_pos n with
  | inl h =>
    subst h
    have HF := Lib.hid (show RetOwnInts w (.returned (.slice none 0 0)) w from ⟨_, rfl, Own.nil _ _ _ _ _, Below.refl _ _⟩)
    go_enter Try.func54, Try.ntmps54
    go_wp2
    go_ret
    exact HF.out
  | inr h =>
    obtain ⟨i0, hi, hz, hsz, hby, hzs, h0⟩ := elemI64
    have hr := Lib.run_append_nil_zeros (P := Try.prog) w 51 3 51 3 i0 _ .i64 .i64 Try.underlying51 Try.underlying3 hi hz n h (by omega) hn63 (by rw [hby]; exact hn)
    have hcap := grownCap_ge w n 0 3
    have hcap2 := grownCap_le_maxLen w n 0 3 h63
    generalize grownCap w n 0 3 = cc at *
    generalize hcur : (Builtin.zeroCells _ n ++ Builtin.zeroCells _ (cc - n)) = cur at hr
    have hcs : cur.size = cc * 1 := by
      rw [← hcur, Array.size_append, size_zeroCells, size_zeroCells, hzs, ← Nat.add_mul]
      congr 1
      omega
    clear hcur
    have HR := Lib.hid hr; clear hr
    have hcc9 : (cc : Int) ≤ 9223372036854775807 := by unfold maxLen at hcap2; omega
    have hown : Own (w.alloc (.cells cur 3)) w.heap.size 3 1 encInt (.slice (some ⟨w.heap.size, 0, none⟩) 0 cc) ([] : List Int) :=
      World.ownsRow_made w cur cc (Nat.le_refl _) hcap2 hcs
    have HF := Lib.hid (show RetOwnInts w (.returned (.slice (some ⟨w.heap.size, 0, none⟩) 0 cc)) (w.alloc (.cells cur 3)).drew from ⟨_, rfl, hown.drew, ((Below.refl _ _).alloc (Nat.le_refl _) _).drew⟩)
    clear hown hcs
    go_enter Try.func54, Try.ntmps54
    go_wp2_with (at_builtin; go_must (refine Lib.wpList_append_run _ rfl _ _ 51 3 rfl _ _ rfl rfl _ _ HR.out ?_))
    go_ret
    exact HF.out
/-- Returns a new slice that reads as xs. -/
def RetSliceInts (xs : List Int) (w : World) (e : Ending) (w' : World) : Prop := ∃ v, e = .returned v ∧ IsSlice w' 1 encInt v xs ∧ Below w.heap.size w w' ∧ ∀ g, v.ownBlock = some g → w.heap.size ≤ g
set_option maxRecDepth 100000 in
set_option maxHeartbeats 2000000 in
theorem concatInts (oa : Option Addr) (rows : List (List Int)) (cap : Nat) (w : World) (hm : rows.length ≤ 1000000) (hx : Rows1 w 1 encInt oa rows) (ht : total rows * 8 ≤ 140737488355328) :
    Calls Try.prog 35 #[.slice oa rows.length cap] w (RetSliceInts rows.flatten w) := by
  have ht63 : total rows ≤ maxLen := by unfold maxLen; omega
  have HT := Lib.hid ht63
  have ht9 : (total rows : Int) ≤ 9223372036854775807 := by omega
  go_enter Try.func35, Try.ntmps35
  go_wp2_with fail
  go_loop [3, 11] (fun n i => ∃ k : Nat, k ≤ rows.length ∧ i = .int .i64 k ∧ n = .int .i64 (total (rows.take k))) (fun _ i => rows.length - (intOf i).toNat)
  case atStart => exact ⟨0, by omega, rfl, rfl⟩
  case round =>
    obtain ⟨k, hk, rfl, rfl⟩ := hrel
    by_cases hlt : k < rows.length
    · obtain ⟨b, off, v, rfl, hc, oai, capi, rfl, _, _, _⟩ := hx k hlt
      have hs := total_take rows k hlt
      have hl := total_le rows (k + 1)
      have E : Hid (((total (rows.take (k + 1)) : Nat) : Int) = (total (rows.take k) : Int) + (rows[k].length : Int)) := by show _ = _; omega
      have hb1 : (0 : Int) ≤ (total (rows.take k) : Int) + (rows[k].length : Int) := by omega
      have hb2 : (total (rows.take k) : Int) + (rows[k].length : Int) ≤ 9223372036854775807 := by omega
      clear hs hl
      go_wp2
      go_round
      case rel => exact ⟨k + 1, by omega, by go_num, by rw [E.out]⟩
      case measure => simp [intOf]; omega
    · have E := Lib.hid (show rows.take k = rows from List.take_of_length_le (by omega))
      rw [E.out]
      go_wp2_with fail
      refine (growInts _ _ (by omega) ht63).mono ?_
      rintro e w1 ⟨v0, rfl, hown0, hb0⟩
      go_wp2_with fail
      go_loopw [6, 27] (fun out i wr => ∃ k : Nat, k ≤ rows.length ∧ i = .int .i64 k ∧ Own wr w.heap.size 3 1 encInt out (rows.take k).flatten ∧ Below w.heap.size w wr) (fun _ i _ => rows.length - (intOf i).toNat)
      case atStart => exact ⟨0, by omega, rfl, hown0, hb0⟩
      case round =>
        obtain ⟨k2, hk2, rfl, hown, hb⟩ := hrel
        by_cases hlt2 : k2 < rows.length
        · obtain ⟨b, off, v, rfl, hc, hsl⟩ := (hx.below hb) k2 hlt2
          have HS := Lib.hid hsl
          obtain ⟨oai, capi, rfl, _, _, _⟩ := hsl
          have hs := total_take rows k2 hlt2
          have hl := total_le rows (k2 + 1)
          have htk := total_flatten (rows.take k2)
          have HE2 := Lib.hid (flatten_take rows k2 hlt2)
          have hlen1 : (rows.take k2).flatten.length + rows[k2].length ≤ total rows := by omega
          clear hs hl htk
          go_wp2_with (at_builtin; go_must (refine wpList_appRow rfl (.tmp 31) (.tmp 32) 51 rfl elemI64 Try.underlying51 w.heap.size _ _ encInt rfl hown rows[k2] _ rfl HS.out (fun _ => rfl) ?c1 ?c2 ?c3 ?c4 ?_))
          case c1 => intro y; simp [encInt, Value.oneCell']
          case c2 => exact Nat.le_trans (Nat.mul_le_mul_right _ hlen1) ht
          case c3 => exact Nat.le_trans hlen1 HT.out
          case c4 => exact hb.size
          intro v' w3 hown3 hg3
          have hb5 := hown.grown hb (Nat.le_refl _) hg3
          rw [← HE2.out] at hown3
          clear hg3 hown
          go_wp2
          go_roundw
          case rel => exact ⟨k2 + 1, by omega, by go_num, hown3, hb5⟩
          case measure => simp [intOf]; omega
        · have E2 := Lib.hid (show rows.take k2 = rows from List.take_of_length_le (by omega))
          rw [E2.out] at hown
          have HF := Lib.hid (show RetSliceInts rows.flatten w (.returned _) wr from ⟨_, rfl, hown.isSlice (fun _ => rfl), hb, fun g hg => (hown.blk hg).1⟩)
          clear hown
          go_wp2
          go_ret
          exact HF.out
end Go.Proofs.Ytdblibjmgamjeaa
