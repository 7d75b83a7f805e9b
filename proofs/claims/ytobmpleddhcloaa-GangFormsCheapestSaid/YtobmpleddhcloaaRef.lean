/-
  Walks of the reference's small functions. Own text.
-/
import Derived.Test.YtobmpleddhcloaaRows
import Derived.WalkKit
import Derived.WalkSpells
import Derived.WalkLawsBesides
import Derived.Test.YtobmpleddhcloaaNum
import Derived.Test.YtobmpleddhcloaaRead
namespace Go.Proofs.Ytobmpleddhcloaa
open Go.RowKit
set_option linter.unusedVariables false
set_option maxHeartbeats 400000 in
theorem Ceil_any (a b : Int) (w : World) (h0 : 0 ≤ a) (h1 : a ≤ 4000000000000000000) (h2 : 1 ≤ b) (h3 : b ≤ 4000000000000000000) :
    Calls Try.prog 15 #[.int .i64 a, .int .i64 b] w fun e w' => e = .returned (.int .i64 ((a + b - 1) / b)) ∧ w = w' := by
  have hb := ceil_bd h0 h2
  have E := Lib.hid (ceil_div (a := a) h2)
  by_cases h : a / b * b < a
  all_goals
    have E2 := Lib.hid h
    go_enter Try.func15, Try.ntmps15
    go_wp2
    go_ret
    exact ⟨by rw [E.out]; first | (rw [if_pos E2.out]; rfl) | (rw [if_neg (Int.not_lt.mpr E2.out)]; rfl), rfl⟩
set_option maxHeartbeats 400000 in
theorem sameInts_any (oa ob : Option Addr) (xs ys : List Int) (ca cb : Nat) (w : World) (hm : xs.length ≤ maxLen) (hm2 : ys.length ≤ maxLen) (hx : Flat w 1 encInt oa xs) (hy : Flat w 1 encInt ob ys) :
    Calls Try.prog 25 #[.slice oa xs.length ca, .slice ob ys.length cb] w fun e w' => e = .returned (.bool (sameB xs ys)) ∧ Below w.heap.size w w' := by
  have hm : xs.length ≤ 9223372036854775807 := by unfold maxLen at hm; omega
  have hm2 : ys.length ≤ 9223372036854775807 := by unfold maxLen at hm2; omega
  by_cases hl : xs.length = ys.length
  · have HL := Lib.hid hl
    have hl1 : xs.length ≤ ys.length := by omega
    have hl2 : ys.length ≤ xs.length := by omega
    have hn : ((xs.length : Int) != (ys.length : Int)) = false := by simp [hl]
    clear hl
    go_enter Try.func25, Try.ntmps25
    go_wp2
    go_loopw [13] (fun i wr => ∃ k : Nat, k ≤ xs.length ∧ i = .int .i64 k ∧ SameTo xs ys k ∧ Below w.heap.size w wr) (fun i _ => xs.length - (intOf i).toNat)
    case atStart => exact ⟨0, by omega, rfl, SameTo.zero _ _, Below.refl _ _⟩
    case round =>
      obtain ⟨k, hk, rfl, hs, hb⟩ := hrel
      by_cases hlt : k < xs.length
      · have hlt2 : k < ys.length := by omega
        obtain ⟨b, off, rfl, hc1⟩ := (hx.below hb).int hlt
        obtain ⟨b', off', rfl, hc2⟩ := (hy.below hb).int hlt2
        by_cases he : xs[k] = ys[k]
        · have hs' := hs.succ hlt hlt2 he
          have he2 : (xs[k] != ys[k]) = false := by simp [he]
          clear he
          go_wp2
          go_quiet (fail)
          go_wp2
          go_roundw
          case rel => exact ⟨k + 1, by omega, by go_num, hs', bdrewN hb _⟩
          case measure => simp [intOf]; omega
        · have he2 : (xs[k] != ys[k]) = true := by simp [he]
          have E := Lib.hid (sameB_at hlt hlt2 he)
          clear he
          go_wp2
          go_quiet (fail)
          go_wp2
          go_ret
          exact ⟨by rw [E.out]; rfl, bdrewN hb _⟩
      · have E := Lib.hid (hs.all HL.out (by omega))
        go_wp2
        go_ret
        exact ⟨by rw [E.out]; rfl, hb⟩
  · have E := Lib.hid (sameB_len hl)
    have hn : ((xs.length : Int) != (ys.length : Int)) = true := by simp; omega
    clear hl
    go_enter Try.func25, Try.ntmps25
    go_wp2
    go_ret
    exact ⟨by rw [E.out]; rfl, Below.refl _ _⟩
end Go.Proofs.Ytobmpleddhcloaa
