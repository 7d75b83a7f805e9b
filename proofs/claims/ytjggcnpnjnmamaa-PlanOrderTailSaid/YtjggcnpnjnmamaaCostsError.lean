/-
  The reference's CostsError: its walk. Own text.
-/
import Derived.Test.YtjggcnpnjnmamaaCheck
namespace Go.Proofs.Ytjggcnpnjnmamaa
open Go.RowKit
set_option linter.unusedVariables false
set_option maxHeartbeats 2000000 in
theorem costsError_any (oa : Option Addr) (rows : List (List Int)) (cap : Nat) (w : World) (hm : rows.length ≤ maxLen) (hx : Rows1 w 1 encInt oa rows) :
    Calls Try.prog 15 #[.slice oa rows.length cap] w fun e w' => e = .returned (.int .i64 (costsErr rows)) ∧ w = w' := by
  by_cases h0 : rows.length < 1 ∨ 12 < rows.length
  · have E : Hid (costsErr rows = 2) := by
      show costsErr rows = 2
      cases rows with
      | nil => rfl
      | cons r l =>
        simp only [costsErr]
        rw [if_pos (by simp only [List.length_cons] at h0 ⊢; omega)]
    have hm9 : rows.length ≤ 9223372036854775807 := by unfold maxLen at hm; omega
    rcases h0 with h0 | h0
    · have hz : ((rows.length : Int) == 0) = true := beq_iff_eq.2 (by omega)
      go_enter Try.func15, Try.ntmps15
      go_wp2
      go_ret
      exact ⟨by rw [E.out]; rfl, rfl⟩
    · have hz : ((rows.length : Int) == 0) = false := beq_eq_false_iff_ne.2 (by omega)
      go_enter Try.func15, Try.ntmps15
      go_wp2
      go_ret
      exact ⟨by rw [E.out]; rfl, rfl⟩
  · have h1 : 1 ≤ rows.length := by omega
    have h12 : rows.length ≤ 12 := by omega
    have hpos : 0 < rows.length := by omega
    obtain ⟨b, off, v0, rfl, c0, oa0, cap0, rfl, _, hm0, _⟩ := hx 0 hpos
    obtain ⟨n, hn⟩ : ∃ n, n = rows[0].length := ⟨_, rfl⟩
    have E := Lib.hid (costsErr_of h1 h12 hn)
    have hb0 : rows[0].length ≤ 9223372036854775807 := by unfold maxLen at hm0; omega
    rw [← hn] at c0 hb0
    simp only [Nat.add_zero] at c0
    replace hx := Lib.hid hx
    clear h0 hm0 hn hm
    have hz : ((rows.length : Int) == 0) = false := beq_eq_false_iff_ne.2 (by omega)
    go_enter Try.func15, Try.ntmps15
    go_wp2
    go_loop [17] (fun i => ∃ k : Nat, k ≤ rows.length ∧ i = .int .i64 k ∧ Hid (GoodTo n rows k)) (fun i => rows.length - (intOf i).toNat)
    case atStart => exact ⟨0, by omega, rfl, Lib.hid (GoodTo.zero _ _)⟩
    case round =>
      obtain ⟨k, hk, rfl, hall⟩ := hrel
      by_cases hlt : k < rows.length
      · obtain ⟨oak, capk, ck, hmk, hfk⟩ := hx.out.at hlt
        obtain ⟨m, hmm⟩ : ∃ m, m = rows[k].length := ⟨_, rfl⟩
        have hbk : rows[k].length ≤ 9223372036854775807 := by unfold maxLen at hmk; omega
        rw [← hmm] at ck hbk
        clear hmk
        have HF := Lib.hid hfk
        clear hfk
        by_cases hne : m = n
        · by_cases hgt : 12 < m
          · have hE : Hid (costsErr rows = 4) := by rw [E.out, hall.out.bad hlt (rowErr_four (by omega)) (by decide)]; exact if_neg (by decide)
            replace hmm := Lib.hid hmm
            subst hne
            go_wp2
            go_ret
            exact ⟨by rw [hE.out]; rfl, rfl⟩
          · have hgood : ¬ (rows[k].length ≠ n ∨ 12 < rows[k].length) := by omega
            replace hgood := Lib.hid hgood
            replace hmm := Lib.hid hmm
            subst hne
            go_wp2
            go_loop [35] (fun i => ∃ j : Nat, j ≤ m ∧ i = .int .i64 j ∧ Hid (AllTo costOk rows[k] j)) (fun i => m - (intOf i).toNat)
            case atStart => exact ⟨0, by omega, rfl, Lib.hid (AllTo.zero _ _)⟩
            case round =>
              obtain ⟨j, hj, rfl, hok⟩ := hrel
              by_cases hjl : j < m
              · have hjr : j < rows[k].length := by rw [← hmm.out]; exact hjl
                obtain ⟨bk, offk, e, cj⟩ := HF.out.int hjr
                subst e
                by_cases hc : costOk rows[k][j] = true
                · have hb := of_decide_eq_true hc
                  have hok' := Lib.hid (hok.out.succ hjr hc)
                  clear hc
                  generalize rows[k][j] = x at *
                  go_wp2
                  go_round
                  case rel => exact ⟨j + 1, by omega, by go_num, hok'⟩
                  case measure => simp [intOf]; omega
                · have hc : costOk rows[k][j] = false := by simpa using hc
                  have hb := of_decide_eq_false hc
                  have hE : Hid (costsErr rows = 3) := by rw [E.out, hall.out.bad hlt (rowErr_three hgood.out hjr hc) (by decide)]; exact if_neg (by decide)
                  clear hc
                  generalize rows[k][j] = x at *
                  by_cases hneg : x < 0
                  · clear hb
                    go_wp2
                    go_ret
                    exact ⟨by rw [hE.out]; rfl, rfl⟩
                  · have hbig : 1048576 < x := by omega
                    clear hb
                    go_wp2
                    go_ret
                    exact ⟨by rw [hE.out]; rfl, rfl⟩
              · obtain rfl : j = m := by omega
                have hnew := Lib.hid (hall.out.succ hlt (rowErr_ok hgood.out (by rw [← hmm.out]; exact hok.out)))
                go_wp2
                go_round
                case rel => exact ⟨k + 1, by omega, by go_num, hnew⟩
                case measure => simp [intOf]; omega
        · have hE : Hid (costsErr rows = 4) := by rw [E.out, hall.out.bad hlt (rowErr_four (by omega)) (by decide)]; exact if_neg (by decide)
          replace hmm := Lib.hid hmm
          have hb1 : ((m : Int) != (n : Int)) = true := by simp; omega
          clear hne
          by_cases hgt : 12 < m
          · go_wp2
            go_ret
            exact ⟨by rw [hE.out]; rfl, rfl⟩
          · go_wp2
            go_ret
            exact ⟨by rw [hE.out]; rfl, rfl⟩
      · obtain rfl : k = rows.length := by omega
        have hz := hall.out.all
        by_cases hfit : n < rows.length
        · have hE : Hid (costsErr rows = 19) := by rw [E.out, if_pos hz, if_pos hfit]; rfl
          clear hz
          go_wp2
          go_ret
          exact ⟨by rw [hE.out]; rfl, rfl⟩
        · have hE : Hid (costsErr rows = 0) := by rw [E.out, if_pos hz, if_neg hfit]; rfl
          clear hz
          go_wp2
          go_ret
          exact ⟨by rw [hE.out]; rfl, rfl⟩
end Go.Proofs.Ytjggcnpnjnmamaa
