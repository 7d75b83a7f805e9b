/-
  slices.Equal and slices.Contains on pieces. Own text.
-/
import Derived.Test.YthalimgejohffaaDisj
import Derived.Handy
namespace Go.Proofs.Ythalimgejohffaa
open Go.RowKit
set_option linter.unusedVariables false
set_option maxHeartbeats 2000000 in
theorem equalRects_any (oa ob : Option Addr) (xs : List Rect) (ca cb : Nat) (w : World) (hm : xs.length ≤ maxLen) (ha : Flat w 5 encRect oa xs) (hb : Flat w 5 encRect ob xs) :
    Calls Try.prog 25 #[.slice oa xs.length ca, .slice ob xs.length cb] w fun e w' => e = .returned (.bool true) ∧ Below w.heap.size w w' := by
  have hm9 : xs.length ≤ 9223372036854775807 := by unfold maxLen at hm; omega
  go_enter Try.func25, Try.ntmps25
  go_wp2
  go_loopw [13] (fun i wr => ∃ q : Nat, q ≤ xs.length ∧ i = .int .i64 q ∧ Below w.heap.size w wr) (fun i _ => xs.length - (intOf i).toNat)
  case atStart => exact ⟨0, by omega, rfl, Below.refl _ _⟩
  case round =>
    obtain ⟨q, hq, rfl, hbr⟩ := hrel
    by_cases hlt : q < xs.length
    · obtain ⟨b, off, rfl, c0, c1, c2, c3, c4⟩ := (ha.below hbr).rect hlt
      obtain ⟨b', off', rfl, e0, e1, e2, e3, e4⟩ := (hb.below hbr).rect hlt
      go_wp2
      go_quiet (fail)
      go_wp2
      go_roundw
      case rel => exact ⟨q + 1, by omega, by go_num, bdrewN hbr _⟩
      case measure => simp [intOf]; omega
    · go_wp2
      go_ret
      exact ⟨rfl, hbr⟩
theorem rect_ne {r s : Rect} (h : ¬ r = s) : (r.item == s.item) = false ∨ ((r.item == s.item) = true ∧ (r.x == s.x) = false) ∨ ((r.item == s.item) = true ∧ (r.x == s.x) = true ∧ (r.y == s.y) = false) ∨
    ((r.item == s.item) = true ∧ (r.x == s.x) = true ∧ (r.y == s.y) = true ∧ (r.w == s.w) = false) ∨ ((r.item == s.item) = true ∧ (r.x == s.x) = true ∧ (r.y == s.y) = true ∧ (r.w == s.w) = true ∧ (r.h == s.h) = false) := by
  obtain ⟨a, b, c, d, e⟩ := r
  obtain ⟨a', b', c', d', e'⟩ := s
  simp only [beq_eq_false_iff_ne, beq_iff_eq, ne_eq]
  simp only [Rect.mk.injEq] at h
  by_cases h1 : a = a' <;> by_cases h2 : b = b' <;> by_cases h3 : c = c' <;> by_cases h4 : d = d' <;> by_cases h5 : e = e' <;> simp_all
def Found (w : World) (e : Ending) (w' : World) : Prop := (∃ q : Nat, (q : Int) ≤ 9223372036854775807 ∧ e = .returned (.int .i64 q)) ∧ Below w.heap.size w w'
set_option maxHeartbeats 4000000 in
theorem indexRects_any (oa : Option Addr) (xs : List Rect) (r : Rect) (ca : Nat) (w : World) (hm : xs.length ≤ maxLen) (ha : Flat w 5 encRect oa xs) (hr : r ∈ xs) :
    Calls Try.prog 38 #[.slice oa xs.length ca, .agg #[.int .i64 r.item, .int .i64 r.x, .int .i64 r.y, .int .i64 r.w, .int .i64 r.h]] w (Found w) := by
  have hm9 : xs.length ≤ 9223372036854775807 := by unfold maxLen at hm; omega
  have HR := Lib.hid hr; clear hr
  have hb0 : Hid (Below w.heap.size w (w.alloc (.cells #[.int .i64 r.item, .int .i64 r.x, .int .i64 r.y, .int .i64 r.w, .int .i64 r.h] 32))) := balloc (Below.refl _ w) _
  go_enter Try.func38, Try.ntmps38
  go_wp2
  go_loopw [8] (fun i wr => ∃ q : Nat, q ≤ xs.length ∧ i = .int .i64 q ∧ Below w.heap.size w wr ∧ (∀ j (h : j < xs.length), j < q → ¬ r = xs[j]) ∧ wr.cell? ⟨w.heap.size, 0, none⟩ = some (.int .i64 r.item) ∧ wr.cell? ⟨w.heap.size, 1, none⟩ = some (.int .i64 r.x) ∧ wr.cell? ⟨w.heap.size, 2, none⟩ = some (.int .i64 r.y) ∧ wr.cell? ⟨w.heap.size, 3, none⟩ = some (.int .i64 r.w) ∧ wr.cell? ⟨w.heap.size, 4, none⟩ = some (.int .i64 r.h)) (fun i _ => xs.length - (intOf i).toNat)
  case atStart => exact ⟨0, by omega, rfl, hb0.out, fun j _ hj => by omega, by go_simp, by go_simp, by go_simp, by go_simp, by go_simp⟩
  case round =>
    obtain ⟨q, hq, rfl, hbr, hno, d0, d1, d2, d3, d4⟩ := hrel
    have HNO := Lib.hid hno; clear hno hb0
    by_cases hlt : q < xs.length
    · obtain ⟨b, off, rfl, c0, c1, c2, c3, c4⟩ := (ha.below hbr).rect hlt
      by_cases hxr : r = xs[q]
      · rw [← hxr] at c0 c1 c2 c3 c4
        clear hxr
        go_wp2
        go_quiet (fail)
        go_wp2
        go_ret
        exact ⟨⟨q, by omega, rfl⟩, bdrewN hbr _⟩
      · have HX := Lib.hid hxr
        rcases rect_ne hxr with h0 | ⟨h0, h1⟩ | ⟨h0, h1, h2⟩ | ⟨h0, h1, h2, h3⟩ | ⟨h0, h1, h2, h3, h4⟩
        all_goals
          clear hxr
          go_wp2
          go_quiet (fail)
          go_wp2
          go_roundw
          case rel =>
            refine ⟨q + 1, by omega, by go_num, bdrewN hbr _, fun j hj hjq => ?_, d0, d1, d2, d3, d4⟩
            by_cases e : j = q
            · subst e; exact HX.out
            · exact HNO.out j hj (by omega)
          case measure => simp [intOf]; omega
    · exfalso
      obtain ⟨j, hj, e⟩ := List.mem_iff_getElem.1 HR.out
      exact HNO.out j hj (by omega) e.symm
set_option maxHeartbeats 1000000 in
theorem containsRects_any (oa : Option Addr) (xs : List Rect) (r : Rect) (ca : Nat) (w : World) (hm : xs.length ≤ maxLen) (ha : Flat w 5 encRect oa xs) (hr : r ∈ xs) :
    Calls Try.prog 26 #[.slice oa xs.length ca, .agg #[.int .i64 r.item, .int .i64 r.x, .int .i64 r.y, .int .i64 r.w, .int .i64 r.h]] w fun e w' => e = .returned (.bool true) ∧ Below w.heap.size w w' := by
  have HR := Lib.hid hr; clear hr
  have ha1 := Lib.hid (ha.below (balloc (Below.refl _ w) (.cells #[.int .i64 r.item, .int .i64 r.x, .int .i64 r.y, .int .i64 r.w, .int .i64 r.h] 32)))
  go_enter Try.func26, Try.ntmps26
  go_wp2_with fail
  refine (indexRects_any _ _ _ _ _ hm ha1.out HR.out).mono ?_
  rintro e w1 ⟨⟨q, hq, rfl⟩, hb⟩
  have h0 : (0 : Int) ≤ (q : Int) := by omega
  go_wp2
  go_ret
  exact ⟨rfl, balloc_lt _ _ hb⟩
end Go.Proofs.Ythalimgejohffaa
