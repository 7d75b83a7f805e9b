/-
  plan.CheckWash and the reference's WashError: their walks. Own text.
-/
import Derived.Test.YtjggcnpnjnmamaaCostsError
import Derived.Test.YtjggcnpnjnmamaaWashT
import Derived.Test.YtjggcnpnjnmamaaTable
import Derived.Test.YtjggcnpnjnmamaaMore
namespace Go.Proofs.Ytjggcnpnjnmamaa
open Go.RowKit
set_option linter.unusedVariables false
/-- The first error of wash-up costs. -/
def washErr (first : List Int) (W : List (List Int)) : Int := if first.length < 1 ∨ 12 < first.length then 2 else if W.length ≠ first.length then 4 else rowsErr first.length (first :: W)
theorem GoodTo.cons {n : Nat} {r : List Int} {rows : List (List Int)} {k : Nat} (h : GoodTo n rows k) (hr : rowErr n r = 0) : GoodTo n (r :: rows) (k + 1) := by
  intro q hq hlt
  cases q with
  | zero => exact hr
  | succ q => exact h q (by simpa using hq) (by omega)
set_option maxHeartbeats 4000000 in
theorem checkWash_any (oa ob : Option Addr) (first : List Int) (W : List (List Int)) (ca cb : Nat) (w : World) (hm : first.length ≤ maxLen) (hm2 : W.length ≤ maxLen) (hf : Flat w 1 encInt oa first) (hx : Rows1 w 1 encInt ob W) :
    Calls Try.prog 31 #[.slice oa first.length ca, .slice ob W.length cb] w fun e w' => e = .returned (.int .i64 (washErr first W)) ∧ w = w' := by
  obtain ⟨n, hn⟩ : ∃ n, n = first.length := ⟨_, rfl⟩
  obtain ⟨N, hN⟩ : ∃ N, N = W.length := ⟨_, rfl⟩
  have hn9 : n ≤ 9223372036854775807 := by unfold maxLen at hm; omega
  have hN9 : N ≤ 9223372036854775807 := by unfold maxLen at hm2; omega
  by_cases h0 : n < 1 ∨ 12 < n
  · have E : Hid (washErr first W = 2) := by show _ = _; unfold washErr; rw [if_pos (by omega)]
    rw [← hn, ← hN]
    clear hn hN hf hx hm hm2
    by_cases h1 : n < 1
    · go_enter Try.func31, Try.ntmps31
      go_wp2
      go_ret
      exact ⟨by rw [E.out]; rfl, rfl⟩
    · have h12 : 12 < n := by omega
      clear h0
      go_enter Try.func31, Try.ntmps31
      go_wp2
      go_ret
      exact ⟨by rw [E.out]; rfl, rfl⟩
  · have h1 : 1 ≤ n := by omega
    have h12 : n ≤ 12 := by omega
    clear h0
    by_cases hNn : N = n
    · subst hNn
      have E : Hid (washErr first W = rowsErr N (first :: W)) := by show _ = _; unfold washErr; rw [if_neg (by omega), if_neg (by omega), hn]
      rw [← hn, ← hN]
      have HN1 := Lib.hid hn
      have HN2 := Lib.hid hN
      replace hx := Lib.hid hx
      replace hf := Lib.hid hf
      clear hn hN hm hm2
      go_enter Try.func31, Try.ntmps31
      go_wp2
      go_loop [26] (fun i => ∃ j : Nat, j ≤ N ∧ i = .int .i64 j ∧ Hid (AllTo costOk first j)) (fun i => N - (intOf i).toNat)
      case atStart => exact ⟨0, by omega, rfl, Lib.hid (AllTo.zero _ _)⟩
      case round =>
        obtain ⟨j, hj, rfl, hok⟩ := hrel
        by_cases hjl : j < N
        · have hjr : j < first.length := by rw [← HN1.out]; exact hjl
          obtain ⟨bk, offk, e, cj⟩ := hf.out.int hjr
          subst e
          by_cases hc : costOk first[j] = true
          · have hb := of_decide_eq_true hc
            have hok' := Lib.hid (hok.out.succ hjr hc)
            clear hc
            generalize first[j] = x at *
            go_wp2
            go_round
            case rel => exact ⟨j + 1, by omega, by go_num, hok'⟩
            case measure => simp [intOf]; omega
          · have hc : costOk first[j] = false := by simpa using hc
            have hb := of_decide_eq_false hc
            have hE : Hid (washErr first W = 3) := by
              have hg : ¬ (first.length ≠ N ∨ 12 < first.length) := by rw [← HN1.out]; omega
              rw [E.out]
              exact (GoodTo.zero N (first :: W)).bad (k := 0) (by simp) (rowErr_three hg hjr hc) (by decide)
            clear hc
            generalize first[j] = x at *
            by_cases hneg : x < 0
            · clear hb
              go_wp2
              go_ret
              exact ⟨by rw [hE.out]; rfl, rfl⟩
            · have hbig : 1048576 < x := by omega
              clear hb
              go_wp2
              go_ret
              exact ⟨by rw [hE.out]; rfl, rfl⟩
        · obtain rfl : j = N := by omega
          have HF0 : Hid (rowErr j first = 0) := rowErr_ok (by rw [← HN1.out]; omega) (by rw [← HN1.out]; exact hok.out)
          clear hok
          go_wp2
          go_loop [39] (fun i => ∃ k : Nat, k ≤ j ∧ i = .int .i64 k ∧ Hid (GoodTo j W k)) (fun i => j - (intOf i).toNat)
          case atStart => exact ⟨0, by omega, rfl, Lib.hid (GoodTo.zero _ _)⟩
          case round =>
            obtain ⟨k, hk, rfl, hall⟩ := hrel
            by_cases hlt : k < j
            · have hkW : k < W.length := by rw [← HN2.out]; exact hlt
              obtain ⟨b, off, rfl⟩ := hx.out.some (by omega)
              obtain ⟨oak, capk, ck, hmk, hfk⟩ := hx.out.at hkW
              obtain ⟨m, hmm⟩ : ∃ m, m = W[k].length := ⟨_, rfl⟩
              have hbk : W[k].length ≤ 9223372036854775807 := by unfold maxLen at hmk; omega
              rw [← hmm] at ck hbk
              clear hmk
              have HF := Lib.hid hfk
              clear hfk
              have hkc : k + 1 < (first :: W).length := by simp; omega
              by_cases hne : m = j
              · have hgood : ¬ (W[k].length ≠ j ∨ 12 < W[k].length) := by omega
                replace hgood := Lib.hid hgood
                replace hmm := Lib.hid hmm
                subst hne
                go_wp2
                go_loop [50] (fun i => ∃ q : Nat, q ≤ m ∧ i = .int .i64 q ∧ Hid (AllTo costOk W[k] q)) (fun i => m - (intOf i).toNat)
                case atStart => exact ⟨0, by omega, rfl, Lib.hid (AllTo.zero _ _)⟩
                case round =>
                  obtain ⟨q, hq, rfl, hok⟩ := hrel
                  by_cases hql : q < m
                  · have hqr : q < W[k].length := by rw [← hmm.out]; exact hql
                    obtain ⟨bk, offk, e, cj⟩ := HF.out.int hqr
                    subst e
                    by_cases hc : costOk W[k][q] = true
                    · have hb := of_decide_eq_true hc
                      have hok' := Lib.hid (hok.out.succ hqr hc)
                      clear hc
                      generalize W[k][q] = x at *
                      go_wp2
                      go_round
                      case rel => exact ⟨q + 1, by omega, by go_num, hok'⟩
                      case measure => simp [intOf]; omega
                    · have hc : costOk W[k][q] = false := by simpa using hc
                      have hb := of_decide_eq_false hc
                      have hE : Hid (washErr first W = 3) := by
                        rw [E.out]
                        exact (hall.out.cons HF0.out).bad (k := k + 1) hkc (rowErr_three hgood.out hqr hc) (by decide)
                      clear hc
                      generalize W[k][q] = x at *
                      by_cases hneg : x < 0
                      · clear hb
                        go_wp2
                        go_ret
                        exact ⟨by rw [hE.out]; rfl, rfl⟩
                      · have hbig : 1048576 < x := by omega
                        clear hb
                        go_wp2
                        go_ret
                        exact ⟨by rw [hE.out]; rfl, rfl⟩
                  · obtain rfl : q = m := by omega
                    have hnew := Lib.hid (hall.out.succ hkW (rowErr_ok hgood.out (by rw [← hmm.out]; exact hok.out)))
                    go_wp2
                    go_round
                    case rel => exact ⟨k + 1, by omega, by go_num, hnew⟩
                    case measure => simp [intOf]; omega
              · have hE : Hid (washErr first W = 4) := by
                  rw [E.out]
                  exact (hall.out.cons HF0.out).bad (k := k + 1) hkc (rowErr_four (n := j) (r := W[k]) (by omega)) (by decide)
                replace hmm := Lib.hid hmm
                have hb1 : ((m : Int) != (j : Int)) = true := by simp; omega
                clear hne
                go_wp2
                go_ret
                exact ⟨by rw [hE.out]; rfl, rfl⟩
            · obtain rfl : k = j := by omega
              have hE : Hid (washErr first W = 0) := by
                rw [E.out]
                refine GoodTo.all ?_
                have h := hall.out.cons HF0.out
                have e : (first :: W).length = k + 1 := by simp [← HN2.out]
                rw [e]
                exact h
              go_wp2
              go_ret
              exact ⟨by rw [hE.out]; rfl, rfl⟩
    · have E : Hid (washErr first W = 4) := by show _ = _; unfold washErr; rw [if_neg (by omega), if_pos (by omega)]
      rw [← hn, ← hN]
      have hb1 : ((N : Int) != (n : Int)) = true := by simp; omega
      clear hn hN hf hx hm hm2 hNn
      go_enter Try.func31, Try.ntmps31
      go_wp2
      go_ret
      exact ⟨by rw [E.out]; rfl, rfl⟩
/-- A slice's header. -/
def encH (h : Option Addr × Nat × Nat) : List Value := [.slice h.1 h.2.1 h.2.2]
/-- The rows' headers. -/
theorem Rows1.heads {w : World} {oa : Option Addr} {rows : List (List Int)} (h : Rows1 w 1 encInt oa rows) : ∃ hs : List (Option Addr × Nat × Nat), hs.length = rows.length ∧ Flat w 1 encH oa hs ∧ ∀ i (h1 : i < hs.length) (h2 : i < rows.length), IsSlice w 1 encInt (.slice hs[i].1 hs[i].2.1 hs[i].2.2) rows[i] := by
  have h2 : ∀ i : Fin rows.length, ∃ x : Option Addr × Nat × Nat, (∃ b off, oa = Option.some ⟨b, off, none⟩ ∧ w.cell? ⟨b, off + i.1, none⟩ = Option.some (Value.slice x.1 x.2.1 x.2.2)) ∧ IsSlice w 1 encInt (.slice x.1 x.2.1 x.2.2) rows[i.1] := by
    intro i
    obtain ⟨b, off, v, e, hc, hs⟩ := h i.1 i.2
    obtain ⟨oa', cap', rfl, r1, r2, r3⟩ := hs
    exact ⟨(oa', rows[i.1].length, cap'), ⟨b, off, e, hc⟩, ⟨oa', cap', rfl, r1, r2, r3⟩⟩
  refine ⟨List.ofFn (fun i => Classical.choose (h2 i)), by simp, fun i hi j hj => ?_, fun i h1 h3 => ?_⟩
  · have hi' : i < rows.length := by simpa using hi
    obtain ⟨b, off, e, hc⟩ := (Classical.choose_spec (h2 ⟨i, hi'⟩)).1
    obtain rfl : j = 0 := by omega
    refine ⟨_, rfl, b, off, e, ?_⟩
    rw [List.getElem_ofFn]
    simpa using hc
  · rw [List.getElem_ofFn]
    exact (Classical.choose_spec (h2 ⟨i, h3⟩)).2
/-- Rows out of headers. -/
theorem Rows1.ofHeads {w : World} {oa : Option Addr} {rows : List (List Int)} {hs : List (Option Addr × Nat × Nat)} (hl : hs.length = rows.length) (hf : Flat w 1 encH oa hs) (hr : ∀ i (h1 : i < hs.length) (h2 : i < rows.length), IsSlice w 1 encInt (.slice hs[i].1 hs[i].2.1 hs[i].2.2) rows[i]) : Rows1 w 1 encInt oa rows := by
  intro i hi
  obtain ⟨v, hv, b, off, e, hc⟩ := hf i (by omega) 0 (by omega)
  simp only [encH, List.getElem?_cons_zero, Option.some.injEq] at hv
  subst hv
  refine ⟨b, off, _, e, ?_, hr i (by omega) hi⟩
  simpa using hc
set_option maxHeartbeats 4000000 in
theorem washError_any (oa ob : Option Addr) (first : List Int) (W : List (List Int)) (ca cb : Nat) (w : World) (hm : first.length ≤ maxLen) (hm2 : W.length ≤ maxLen) (h0c : oa = none → ca = 0) (hf : Flat w 1 encInt oa first) (hx : Rows1 w 1 encInt ob W) :
    Calls Try.prog 30 #[.slice oa first.length ca, .slice ob W.length cb] w fun e w' => e = .returned (.int .i64 (washErr first W)) ∧ Below w.heap.size w w' := by
  obtain ⟨n, hn⟩ : ∃ n, n = first.length := ⟨_, rfl⟩
  obtain ⟨N, hN⟩ : ∃ N, N = W.length := ⟨_, rfl⟩
  have hn9 : n ≤ 9223372036854775807 := by unfold maxLen at hm; omega
  have hN9 : N ≤ 9223372036854775807 := by unfold maxLen at hm2; omega
  by_cases h0 : n < 1 ∨ 12 < n
  · have E : Hid (washErr first W = 2) := by show _ = _; unfold washErr; rw [if_pos (by omega)]
    rw [← hn, ← hN]
    clear hn hN hf hx hm hm2
    by_cases h1 : n < 1
    · have hz : ((n : Int) == 0) = true := beq_iff_eq.2 (by omega)
      go_enter Try.func30, Try.ntmps30
      go_wp2
      go_ret
      exact ⟨by rw [E.out]; rfl, Below.refl _ _⟩
    · have h12 : 12 < n := by omega
      have hz : ((n : Int) == 0) = false := beq_eq_false_iff_ne.2 (by omega)
      clear h0
      go_enter Try.func30, Try.ntmps30
      go_wp2
      go_ret
      exact ⟨by rw [E.out]; rfl, Below.refl _ _⟩
  · have h1 : 1 ≤ n := by omega
    have h12 : n ≤ 12 := by omega
    have hz : ((n : Int) == 0) = false := beq_eq_false_iff_ne.2 (by omega)
    clear h0
    by_cases hNn : N = n
    · subst hNn
      have E : Hid (washErr first W = rowsErr N (first :: W)) := by show _ = _; unfold washErr; rw [if_neg (by omega), if_neg (by omega), hn]
      obtain ⟨b, off, rfl⟩ := hx.some (by omega)
      obtain ⟨hs, hsl, hsf, hsr⟩ := hx.heads
      rw [← hn, ← hN]
      have hlit : Own (w.alloc (.cells #[.slice oa N ca] 25)) w.heap.size 25 1 encH (.slice (some ⟨w.heap.size, 0, none⟩) 1 1) [(oa, N, ca)] := Own.lit w w.heap.size 1 encH [(oa, N, ca)] 25 (fun _ => rfl) (by unfold maxLen; simp) (Nat.le_refl _)
      have hrow : IsSlice (w.alloc (.cells #[.slice oa N ca] 25)) 1 encH (.slice (some ⟨b, off, none⟩) N cb) hs := ⟨_, cb, by rw [hsl, hN], (fun h => by cases h), by rw [hsl]; exact hm2, hsf.below (balloc (Below.refl _ w) _)⟩
      have HSL : Hid (hs.length = N) := by show _ = _; rw [hsl, hN]
      have HR0 : Hid (∀ i (h1 : i < ((oa, N, ca) :: hs).length) (h2 : i < (first :: W).length), IsSlice w 1 encInt (.slice ((oa, N, ca) :: hs)[i].1 ((oa, N, ca) :: hs)[i].2.1 ((oa, N, ca) :: hs)[i].2.2) (first :: W)[i]) := by
        intro i h1 h2
        cases i with
        | zero => exact ⟨oa, ca, by rw [hn]; rfl, h0c, hm, hf⟩
        | succ i => exact hsr i (by simpa using h1) (by simpa using h2)
      have HN2 := Lib.hid hN
      clear hn hN hf hx hm hm2 hsl hsf hsr h0c
      go_enter Try.func30, Try.ntmps30
      go_wp2_with (at_builtin; go_must (refine wpList_appRow rfl (.tmp 23) (.tmp 24) 22 rfl elemInts Try.underlying22 w.heap.size _ _ encH rfl hlit _ _ rfl hrow (fun _ => rfl) ?c1 ?c2 ?c3 ?c4 ?_))
      case c1 => intro y u hu; simp only [encH, List.mem_singleton] at hu; subst hu; rfl
      case c2 => have := HSL.out; simp only [List.length_cons, List.length_nil]; omega
      case c3 => have := HSL.out; simp only [List.length_cons, List.length_nil]; unfold maxLen; omega
      case c4 => rw [World.size_alloc]; omega
      intro v' w3 hown3 hg3
      have HB3 : Hid (Below w.heap.size w w3) := hlit.grown (balloc (Below.refl _ w) _) (Nat.le_refl _) hg3
      obtain ⟨n1, hn1⟩ : ∃ n1, n1 = N + 1 := ⟨_, rfl⟩
      obtain ⟨ov, cv, hv, _, hf3⟩ := hown3.flat (fun _ => rfl)
      have hv2 : v' = .slice ov n1 cv := by
        rw [hv, hn1]
        congr 1
        have := HSL.out
        simp
        omega
      clear hv
      subst hv2
      have HR : Hid (Rows1 w3 1 encInt ov (first :: W)) := Rows1.ofHeads (by have := HSL.out; have := HN2.out; simp; omega) hf3 (fun i h1 h2 => (HR0.out i h1 h2).below HB3.out)
      have HL : Hid ((first :: W).length = n1) := by have := HN2.out; show _ = _; simp; omega
      have hn13 : n1 ≤ 13 := by omega
      replace hn1 := Lib.hid hn1
      clear hlit hrow hown3 hg3 hf3 HR0
      go_wp2
      go_loop [27] (fun s27 => ∃ k : Nat, k ≤ n1 ∧ s27 = .int .i64 k ∧ Hid (GoodTo N (first :: W) k)) (fun s27 => n1 - (intOf s27).toNat)
      case atStart => exact ⟨0, by omega, rfl, Lib.hid (GoodTo.zero _ _)⟩
      case round =>
        obtain ⟨k, hk, rfl, hall⟩ := hrel
        by_cases hlt : k < n1
        · have hkW : k < (first :: W).length := by rw [HL.out]; exact hlt
          obtain ⟨b2, off2, rfl⟩ := HR.out.some (by omega)
          obtain ⟨oak, capk, ck, hmk, hfk⟩ := HR.out.at hkW
          obtain ⟨m, hmm⟩ : ∃ m, m = (first :: W)[k].length := ⟨_, rfl⟩
          have hbk : (first :: W)[k].length ≤ 9223372036854775807 := by unfold maxLen at hmk; omega
          rw [← hmm] at ck hbk
          clear hmk
          have HF := Lib.hid hfk
          clear hfk
          by_cases hne : m = N
          · have hgood : ¬ ((first :: W)[k].length ≠ N ∨ 12 < (first :: W)[k].length) := by omega
            replace hgood := Lib.hid hgood
            replace hmm := Lib.hid hmm
            subst hne
            go_wp2
            go_loop [37] (fun s37 => ∃ q : Nat, q ≤ m ∧ s37 = .int .i64 q ∧ Hid (AllTo costOk (first :: W)[k] q)) (fun s37 => m - (intOf s37).toNat)
            case atStart => exact ⟨0, by omega, rfl, Lib.hid (AllTo.zero _ _)⟩
            case round =>
              obtain ⟨q, hq, rfl, hok⟩ := hrel
              by_cases hql : q < m
              · have hqr : q < (first :: W)[k].length := by rw [← hmm.out]; exact hql
                obtain ⟨bk, offk, e, cj⟩ := HF.out.int hqr
                subst e
                by_cases hc : costOk (first :: W)[k][q] = true
                · have hb := of_decide_eq_true hc
                  have hok' := Lib.hid (hok.out.succ hqr hc)
                  clear hc
                  generalize (first :: W)[k][q] = x at *
                  go_wp2
                  go_round
                  case rel => exact ⟨q + 1, by omega, by go_num, hok'⟩
                  case measure => simp [intOf]; omega
                · have hc : costOk (first :: W)[k][q] = false := by simpa using hc
                  have hb := of_decide_eq_false hc
                  have hE : Hid (washErr first W = 3) := by
                    rw [E.out]
                    exact hall.out.bad (k := k) hkW (rowErr_three hgood.out hqr hc) (by decide)
                  clear hc
                  generalize (first :: W)[k][q] = x at *
                  by_cases hneg : x < 0
                  · clear hb
                    go_wp2
                    go_ret
                    exact ⟨by rw [hE.out]; rfl, HB3.out⟩
                  · have hbig : 1048576 < x := by omega
                    clear hb
                    go_wp2
                    go_ret
                    exact ⟨by rw [hE.out]; rfl, HB3.out⟩
              · obtain rfl : q = m := by omega
                have hnew := Lib.hid (hall.out.succ hkW (rowErr_ok hgood.out (by rw [← hmm.out]; exact hok.out)))
                go_wp2
                go_round
                case rel => exact ⟨k + 1, by omega, by go_num, hnew⟩
                case measure => simp [intOf]; omega
          · have hE : Hid (washErr first W = 4) := by
              rw [E.out]
              exact hall.out.bad (k := k) hkW (rowErr_four (n := N) (r := (first :: W)[k]) (by omega)) (by decide)
            replace hmm := Lib.hid hmm
            have hb1 : ((m : Int) != (N : Int)) = true := by simp; omega
            clear hne
            go_wp2
            go_ret
            exact ⟨by rw [hE.out]; rfl, HB3.out⟩
        · obtain rfl : k = n1 := by omega
          have hE : Hid (washErr first W = 0) := by
            rw [E.out]
            refine GoodTo.all ?_
            rw [HL.out]
            exact hall.out
          go_wp2
          go_ret
          exact ⟨by rw [hE.out]; rfl, HB3.out⟩
    · have E : Hid (washErr first W = 4) := by show _ = _; unfold washErr; rw [if_neg (by omega), if_pos (by omega)]
      rw [← hn, ← hN]
      have hb1 : ((N : Int) != (n : Int)) = true := by simp; omega
      clear hn hN hf hx hm hm2 hNn
      go_enter Try.func30, Try.ntmps30
      go_wp2
      go_ret
      exact ⟨by rw [E.out]; rfl, Below.refl _ _⟩
end Go.Proofs.Ytjggcnpnjnmamaa
