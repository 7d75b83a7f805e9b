/-
  keep4.kinds, keep4.in. Own text.
-/
import Derived.Test.YthalimgejohffaaCut
import Derived.Test.YthalimgejohffaaRegion
namespace Go.Proofs.Ythalimgejohffaa
open Go.RowKit
set_option linter.unusedVariables false
def kindV (p : Item) : Item := ⟨wi p.w 1 12, wi p.h 1 12, wi p.value 0 1000, p.turn⟩
def kindsV (l : List Item) : List Item := (l.take 6).map kindV
theorem elemItem : ElemType Try.prog 51 (.agg #[.int .i64 0, .int .i64 0, .int .i64 0, .bool false]) 4 32 := ElemType.mk (by kernel_rfl) rfl (by decide)
/-- Returns a new slice of kinds. -/
def RetItems (ys : List Item) (w : World) (e : Ending) (w' : World) : Prop :=
  ∃ oa cap, e = .returned (.slice oa ys.length cap) ∧ ys.length ≤ maxLen ∧ Flat w' 4 encItem oa ys ∧ Below w.heap.size w w' ∧ (oa = none → cap = 0)
set_option maxHeartbeats 2000000 in
theorem kinds_any (oa : Option Addr) (xs : List Item) (cap : Nat) (w : World) (hm : xs.length ≤ maxLen) (hx : Flat w 4 encItem oa xs) :
    Calls Try.prog 20 #[.slice oa xs.length cap] w (RetItems (kindsV xs) w) := by
  have hm : xs.length ≤ 9223372036854775807 := by unfold maxLen at hm; omega
  go_enter Try.func20, Try.ntmps20
  go_wp2_with fail
  go_loopw [3, 4] (fun out i wr => ∃ k : Nat, k ≤ xs.length ∧ k ≤ 6 ∧ i = .int .i64 k ∧ Own wr w.heap.size 51 4 encItem out ((xs.take k).map kindV) ∧ Below w.heap.size w wr) (fun _ i _ => xs.length - (intOf i).toNat)
  case atStart => exact ⟨0, by omega, by omega, rfl, Own.nil _ _ _ _ _, Below.refl _ _⟩
  case round =>
    obtain ⟨k, hk, hk8, rfl, hown, hb⟩ := hrel
    by_cases hlt : k < xs.length ∧ k < 6
    · obtain ⟨hlt, hlt8⟩ := hlt
      have hown0 := hown
      obtain ⟨b, off, rfl, hc1, hc2, hc3, hc4⟩ := (hx.below hb).item hlt
      have E2 : Hid ((xs.take (k + 1)).map kindV = (xs.take k).map kindV ++ [kindV xs[k]]) := by
        rw [List.take_succ_eq_append_getElem hlt, List.map_append]; rfl
      have hlen : ((xs.take k).map kindV).length ≤ 6 := by rw [List.length_map, List.length_take]; omega
      have hbB : b < w.heap.size := by
        obtain ⟨b', off', e', c1, _⟩ := hx.item hlt
        simp only [Option.some.injEq, Addr.mk.injEq] at e'
        obtain ⟨rfl, rfl, _⟩ := e'
        exact cell?_lt c1
      have hne : some b ≠ u3.ownBlock := by
        intro e
        have := hown.lt b e.symm
        omega
      have hgk0 : (0 : Int) ≤ (k : Int) := by omega
      have hgk1 : (k : Int) < (xs.length : Int) := by omega
      go_wp2_with fail
      go_region_held3 (fun w' => w'.cell? ⟨b, off + k * 4, none⟩ = some (.int .i64 xs[k].w) ∧ w'.cell? ⟨b, off + k * 4 + 1, none⟩ = some (.int .i64 xs[k].h) ∧ w'.cell? ⟨b, off + k * 4 + 2, none⟩ = some (.int .i64 xs[k].value) ∧ w'.cell? ⟨b, off + k * 4 + 3, none⟩ = some (.bool xs[k].turn))
        (first | go_keep | (exact ⟨(hg1.cell (by go_simp) hne), (hg1.cell (by go_simp) hne), (hg1.cell (by go_simp) hne), (hg1.cell (by go_simp) hne)⟩))
        (first | (refine step_app1 (by rfl) (.tmp 15) (.tmp 40) 22 (by rfl) elemItem Try.underlying22 w.heap.size u3 _ encItem (by rfl) (hown.alloc (.cells #[.int .i64 (wi xs[k].w 1 12), .int .i64 (wi xs[k].h 1 12), .int .i64 (wi xs[k].value 0 1000), .bool xs[k].turn] 51)) (kindV xs[k]) ⟨wr.heap.size, 0, none⟩ 1 (by rfl) (by rfl) (World.news_of_block (cs := #[.int .i64 (wi xs[k].w 1 12), .int .i64 (wi xs[k].h 1 12), .int .i64 (wi xs[k].value 0 1000), .bool xs[k].turn]) (t := 51) (fr := (0, 0)) (heap_alloc_new wr _)) (by simp [encItem, Value.oneCell']) (by omega) (by unfold maxLen; omega) (by have := hb.size; simp; omega) ?_; intro v' w1 hown1 hg1) | (go_simp; go_at_call 19; refine (within_any _ _ _ _ (by omega) (by omega) (by omega)).mono ?_; rintro e w' ⟨rfl, rfl⟩))
      have hb2 := (hown.alloc (.cells #[.int .i64 (wi xs[k].w 1 12), .int .i64 (wi xs[k].h 1 12), .int .i64 (wi xs[k].value 0 1000), .bool xs[k].turn] 51)).drew.grown (balloc hb _).drew (Nat.le_refl _) hg1
      rw [← E2.out] at hown1
      clear hg1 hown hown0
      go_wp2
      go_roundw
      case rel => exact ⟨k + 1, by omega, by omega, by go_num, hown1, hb2⟩
      case measure => simp [intOf]; omega
    · have E : Hid (xs.take k = xs.take 6) := by
        rcases Nat.lt_or_ge k 6 with h8 | h8
        · show xs.take k = xs.take 6
          rw [List.take_of_length_le (by omega), List.take_of_length_le (by omega)]
        · have : k = 6 := by omega
          subst this
          exact rfl
      rw [E.out] at hown
      obtain ⟨oa', cap', rfl, hn0, hm', hf'⟩ := hown.isSlice (fun _ => rfl)
      have HF := Lib.hid (show RetItems (kindsV xs) w _ wr from ⟨oa', cap', rfl, hm', hf', hb, hn0⟩)
      clear hn0
      clear hf' hown
      by_cases hlt2 : k < xs.length
      all_goals
        go_wp2
        go_ret
        exact HF.out
theorem kindsV_ok (l : List Item) : itemsErr (kindsV l) = 0 := by
  have h8 : ¬ 8 < (kindsV l).length := by unfold kindsV; rw [List.length_map, List.length_take]; omega
  refine itemsErr_ok h8 (k := (kindsV l).length) (fun j hj _ => ?_) (Nat.le_refl _)
  obtain ⟨p, _, e⟩ := List.mem_map.1 (List.getElem_mem hj)
  rw [← e]
  unfold pieceOk kindV
  apply decide_eq_true
  have h1 := wi_bd p.w 1 12 (by omega)
  have h2 := wi_bd p.h 1 12 (by omega)
  have h3 := wi_bd p.value 0 1000 (by omega)
  simp only
  omega
set_option maxHeartbeats 400000 in
theorem in_keep (x lo hi : Int) (w : World) :
    Calls Try.prog 22 #[.int .i64 x, .int .i64 lo, .int .i64 hi] w fun e w' => e = .returned (.bool (inB x lo hi)) ∧ w = w' := by
  by_cases h : lo ≤ x
  · by_cases h2 : x ≤ hi
    · have E1 := Lib.hid (inB_yes h h2)
      go_enter Try.func22, Try.ntmps22
      go_wp2
      go_ret
      exact ⟨by rw [E1.out]; rfl, rfl⟩
    · have e1 : inB x lo hi = false := inB_no (by omega)
      have E1 := Lib.hid e1; clear e1
      go_enter Try.func22, Try.ntmps22
      go_wp2
      go_ret
      exact ⟨by rw [E1.out]; rfl, rfl⟩
  · have e1 : inB x lo hi = false := inB_no (by omega)
    have E1 := Lib.hid e1; clear e1
    go_enter Try.func22, Try.ntmps22
    go_wp2
    go_ret
    exact ⟨by rw [E1.out]; rfl, rfl⟩
end Go.Proofs.Ythalimgejohffaa
