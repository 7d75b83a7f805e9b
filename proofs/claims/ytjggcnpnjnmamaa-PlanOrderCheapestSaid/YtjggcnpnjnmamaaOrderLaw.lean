/-
  PlanOrderCheapest: its walk. Own text (printed by gen_orderlaw.py).
-/
import Derived.Test.YtjggcnpnjnmamaaOrder
import Derived.Test.YtjggcnpnjnmamaaCheapLaw
namespace Go.Proofs.Ytjggcnpnjnmamaa
open Go.ChangeShapes Go.WideShapes Go.ChangeAt Go.RowKit
set_option linter.unusedVariables false
set_option maxRecDepth 100000 in
set_option maxHeartbeats 2000000 in
theorem order_bad (oa ob : Option Addr) (first : List Int) (W : List (List Int)) (n N ca cb : Nat) (w : World) (hn : n = first.length) (hN : N = W.length) (hm : n ≤ maxLen) (hm2 : N ≤ maxLen) (hf : Flat w 1 encInt oa first) (hx : Rows1 w 1 encInt ob W) (hc : washErr first W ≠ 0) :
    Calls Try.prog 29 #[.slice oa n ca, .slice ob N cb] w fun e w' => e = .returned (.tuple #[.slice none 0 0, .int .i64 0, .int .i64 (washErr first W)]) ∧ w = w' := by
  subst hn hN
  have HC := Lib.hid (checkWash_any oa ob first W ca cb w hm hm2 hf hx)
  obtain ⟨E, hE⟩ : ∃ E, E = washErr first W := ⟨_, rfl⟩
  rw [← hE] at HC hc ⊢
  have t1 : (E != 0) = true := bne_iff_ne.2 hc
  clear hE hc hf hx
  generalize first.length = n at *
  generalize W.length = N at *
  go_enter Try.func29, Try.ntmps29
  go_wp2_with (go_at_call 31; (with_reducible refine (HC.out).mono ?_); rintro e w1 ⟨rfl, rfl⟩)
  go_returns
  exact ⟨rfl, rfl⟩
/-- The headers that were taken so far read as the first rows. -/
def HeadTo (w : World) (R : List (List Int)) (k : Nat) (vs : List Value) : Prop := vs.length = k ∧ ∀ i (h1 : i < vs.length) (h2 : i < R.length), IsSlice w 1 encInt vs[i] R[i]
theorem HeadTo.below {w w' : World} {R : List (List Int)} {k : Nat} {vs : List Value} (h : HeadTo w R k vs) (hb : Below w.heap.size w w') : HeadTo w' R k vs := ⟨h.1, fun i h1 h2 => (h.2 i h1 h2).below hb⟩
theorem HeadTo.snoc {w : World} {R : List (List Int)} {k : Nat} {vs : List Value} {v : Value} (h : HeadTo w R k vs) (hk : k < R.length) (hv : IsSlice w 1 encInt v R[k]) : HeadTo w R (k + 1) (vs ++ [v]) := by
  refine ⟨by rw [List.length_append, h.1]; rfl, fun i h1 h2 => ?_⟩
  by_cases e : i < vs.length
  · rw [List.getElem_append_left e]; exact h.2 i e h2
  · have hl : i = vs.length := by rw [List.length_append] at h1; simp at h1; omega
    have : i = k := by rw [hl, h.1]
    subst this
    rw [List.getElem_append_right (by omega)]
    simpa [hl] using hv
/-- The rows that an owned row of headers holds. -/
theorem HeadTo.rows {w w0 : World} {base k : Nat} {R : List (List Int)} {vs : List Value} {v : Value} (h0 : HeadTo w0 R k vs) (hk : k = R.length) (hown : Own w base 25 1 encV v vs) (hb : Below w0.heap.size w0 w) : ∃ oa cap, v = .slice oa k cap ∧ k ≤ cap ∧ (0 < k → ∃ g, oa = some ⟨g, 0, none⟩) ∧ Rows1 w 1 encInt oa R := by
  have h := h0.below hb
  have hrows : ∀ oa cap, v = .slice oa k cap → Rows1 w 1 encInt oa R := by
    intro oa cap hv i hi
    obtain ⟨oa', cap', hv', _, _, hf⟩ := hown.isSlice (fun _ => rfl)
    rw [hv] at hv'
    cases hv'
    obtain ⟨x, hx, b, off, e, hc⟩ := hf i (by rw [h.1, hk]; exact hi) 0 (by omega)
    simp only [encV, List.getElem?_cons_zero, Option.some.injEq] at hx
    subst hx
    have hs := h.2 i (by rw [h.1, hk]; exact hi) hi
    simp only [Nat.mul_one, Nat.add_zero] at hc
    exact ⟨b, off, _, e, hc, hs⟩
  rcases hown.2 with ⟨hv, hn⟩ | ⟨g, cap, cur, hv, hbg, hg, hn, _⟩
  · rw [h.1] at hn
    refine ⟨none, 0, by rw [hv, hn], by omega, fun e => by omega, hrows none 0 (by rw [hv, hn])⟩
  · rw [h.1] at hn hv
    exact ⟨_, cap, hv, hn, fun _ => ⟨g, rfl⟩, hrows _ cap hv⟩
theorem Rows1.cut {w : World} {oa : Option Addr} {R R' : List (List Int)} (h : Rows1 w 1 encInt oa R) (hl : R'.length ≤ R.length) (he : ∀ i (h1 : i < R'.length) (h2 : i < R.length), R'[i] = R[i]) : Rows1 w 1 encInt oa R' := by
  intro i hi
  obtain ⟨b, off, v, e, hc, hs⟩ := h i (by omega)
  exact ⟨b, off, v, e, hc, by rw [he i hi (by omega)]; exact hs⟩
/-- The table, cut to seven rows; to six. -/
def cut7 (W : List (List Int)) : List (List Int) := (W.take 7).map (List.take 6)
def cut6 (W : List (List Int)) : List (List Int) := (W.take 6).map (List.take 6)
theorem cut7_length (W : List (List Int)) : (cut7 W).length = min 7 W.length := by simp [cut7]
theorem cut6_length (W : List (List Int)) : (cut6 W).length = min 6 W.length := by simp [cut6]
theorem cut7_get {W : List (List Int)} {i : Nat} (h : i < (cut7 W).length) (h2 : i < W.length) : (cut7 W)[i] = W[i].take 6 := by simp [cut7]
theorem cut6_cut7 {W : List (List Int)} {i : Nat} (h1 : i < (cut6 W).length) (h2 : i < (cut7 W).length) : (cut6 W)[i] = (cut7 W)[i] := by simp [cut6, cut7]
/-- What is done with the cut jobs. -/
structure CutW (w w5 : World) (oa ol : Option Addr) (F : List Int) (R : List (List Int)) : Prop where
  bel : Below w.heap.size w w5
  f : Flat w5 1 encInt oa F
  r : Rows1 w5 1 encInt ol R
theorem same_L (oa ob : Option Addr) (xs : List Int) (k ca cb : Nat) (w : World) (hl : xs.length = k) (hm : k ≤ 100) (hx : Flat w 1 encInt oa xs) (hy : Flat w 1 encInt ob xs) :
    Calls Try.prog 28 #[.slice oa k ca, .slice ob k cb] w fun e w' => e = .returned (.bool true) ∧ Below w.heap.size w w' := by
  subst hl
  have h := sameInts_any oa ob xs xs ca cb w (by unfold maxLen; omega) (by unfold maxLen; omega) hx hy
  rw [sameB_self] at h
  exact h
theorem washErrN (oa ob : Option Addr) (first : List Int) (W : List (List Int)) (n N ca cb : Nat) (w : World) (hn : n = first.length) (hN : N = W.length) (hm : n ≤ maxLen) (hm2 : N ≤ maxLen) (h0c : oa = none → ca = 0) (hf : Flat w 1 encInt oa first) (hx : Rows1 w 1 encInt ob W) :
    Calls Try.prog 30 #[.slice oa n ca, .slice ob N cb] w fun e w' => e = .returned (.int .i64 (washErr first W)) ∧ Below w.heap.size w w' := by
  subst hn hN
  exact washError_any oa ob first W ca cb w hm hm2 h0c hf hx
theorem checkWN (oa ob : Option Addr) (first : List Int) (W : List (List Int)) (n N ca cb : Nat) (w : World) (hn : n = first.length) (hN : N = W.length) (hm : n ≤ maxLen) (hm2 : N ≤ maxLen) (hf : Flat w 1 encInt oa first) (hx : Rows1 w 1 encInt ob W) :
    Calls Try.prog 31 #[.slice oa n ca, .slice ob N cb] w fun e w' => e = .returned (.int .i64 (washErr first W)) ∧ w = w' := by
  subst hn hN
  exact checkWash_any oa ob first W ca cb w hm hm2 hf hx
set_option maxRecDepth 100000 in
set_option maxHeartbeats 16000000 in
theorem orderLaw_bad (oa ob : Option Addr) (first : List Int) (W : List (List Int)) (ca cb : Nat) (w : World) (hm : first.length ≤ maxLen) (hca : first.length ≤ ca) (h0a : oa = none → ca = 0) (hf : Flat w 1 encInt oa first) (hm2 : W.length ≤ maxLen) (hx : RowsCap w ob W) (hc : washErr (first.take 6) (cut6 W) ≠ 0) :
    Calls Try.prog 9 #[.slice oa first.length ca, .slice ob W.length cb] w fun e w' => e = .returned (.bool true) ∧ Below w.heap.size w w' := by
  have HX := Lib.hid hx
  have hn9 : first.length ≤ 9223372036854775807 := by unfold maxLen at hm; omega
  obtain ⟨N, hN⟩ : ∃ N, N = W.length := ⟨_, rfl⟩
  have hN9 : N ≤ 9223372036854775807 := by rw [hN]; unfold maxLen at hm2; omega
  obtain ⟨F, hF⟩ : ∃ F, F = first.take 6 := ⟨_, rfl⟩
  obtain ⟨R, hR⟩ : ∃ R, R = cut6 W := ⟨_, rfl⟩
  have HFL : Hid (Flat w 1 encInt oa F) := by rw [hF]; exact hf.take 6
  have HFN0 : F.length = min 6 first.length := by rw [hF, List.length_take]
  have HR := Lib.hid hR
  have HNW := Lib.hid hN
  rw [← hF, ← hR] at hc
  obtain ⟨E, hE⟩ : ∃ E, E = washErr F R := ⟨_, rfl⟩
  have hE0 : E ≠ 0 := by rw [hE]; exact hc
  have HEE := Lib.hid hE
  have t1 : (E != 0) = true := bne_iff_ne.2 hE0
  have t2 : (E == E) = true := by simp
  have t3 : (E != E) = false := by simp
  rw [← hN]
  by_cases h6 : 6 < first.length
  · have HFN : Hid (F.length = 6) := by show _ = _; omega
    obtain ⟨ba, offa, rfl⟩ : ∃ ba offa, oa = some ⟨ba, offa, none⟩ := by
      obtain ⟨ba, offa, e, _⟩ := hf.int (i := 0) (by omega)
      exact ⟨ba, offa, e⟩
    have hc6 : 6 ≤ ca := by omega
    have hd6 : (6 : Int) < (first.length : Int) := by omega
    clear hF hR hN hc hf hx HFN0 hE
    generalize first.length = n0 at *
    go_enter Try.func9, Try.ntmps9
    go_wp2_with (go_at_call 12; (with_reducible refine (plansL_any _).mono ?_); rintro e w1 ⟨rfl, hb1⟩; have HB1 := Lib.hid hb1; clear hb1)
    go_loopw [5, 23] (fun s5 s23 wr => ∃ k : Nat, k ≤ N ∧ s23 = .int .i64 k ∧ Hid (Below w1.heap.size w1 wr ∧ ∃ vs, Own wr w1.heap.size 25 1 encV s5 vs ∧ HeadTo w1 (cut7 W) (min k 7) vs)) (fun _ s23 _ => N - (intOf s23).toNat)
    case atStart => exact ⟨0, by omega, rfl, Lib.hid ⟨Below.refl _ _, [], Own.nil _ _ _ _ _, rfl, fun i h1 _ => by simp at h1⟩⟩
    case round =>
      obtain ⟨k, hk, rfl, HW⟩ := hrel
      obtain ⟨vs, hown, hht⟩ := HW.out.2
      have HBr := Lib.hid HW.out.1
      clear HW
      by_cases hlt : k < N
      · by_cases hk7 : (k : Int) < 7
        · have HT := Lib.hid hht
          obtain ⟨b', off', oak, capk, e, ck0, lc, lm, ln, fk⟩ := HX.out k (by rw [← HNW.out]; exact hlt)
          subst e
          have ck := keepCell (bthen HB1.out HBr.out) ck0
          have fk1 := fk.below HB1.out
          have hkt : k < (cut7 W).length := by rw [cut7_length, ← HNW.out]; omega
          have hgW := cut7_get hkt (by rw [← HNW.out]; exact hlt)
          obtain ⟨r, hr⟩ : ∃ r, r = (W[k]'(by rw [← HNW.out]; exact hlt)).length := ⟨_, rfl⟩
          rw [← hr] at ck lc
          have hr9 : r ≤ 9223372036854775807 := by rw [hr]; unfold maxLen at lm; omega
          have hmk : min k 7 = k := by omega
          have hmk1 : min (k + 1) 7 = k + 1 := by omega
          rw [hmk] at HT hht
          have hvs : vs.length ≤ 7 := by rw [hht.1]; omega
          have HVS := Lib.hid hvs
          by_cases h6 : (6 : Int) < (r : Int)
          · obtain ⟨bk, offk, rfl⟩ : ∃ bk offk, oak = some ⟨bk, offk, none⟩ := by
              obtain ⟨bk, offk, e, _⟩ := fk.int (i := 0) (by omega)
              exact ⟨bk, offk, e⟩
            have HT2 : Hid (HeadTo w1 (cut7 W) (k + 1) (vs ++ [.slice (some ⟨bk, offk, none⟩) 6 capk])) := HT.out.snoc hkt ⟨_, _, by rw [hgW, List.length_take]; congr 1; omega, (fun h => by cases h), by rw [hgW, List.length_take]; omega, by rw [hgW]; exact fk1.take 6⟩
            have lc6 : 6 ≤ capk := by omega
            have hown2 := hown.alloc (.cells #[.slice (some ⟨bk, offk, none⟩) 6 capk] 25)
            clear hr fk fk1 ln ck0 lm hht hvs hkt hgW HT
            go_wp2_with (at_builtin; go_must (refine wpList_app1 rfl (.tmp 35) (.tmp 37) 22 rfl elemInts Try.underlying22 w1.heap.size _ _ encV rfl hown2 (.slice (some ⟨bk, offk, none⟩) 6 capk) ⟨wr.heap.size, 0, none⟩ 1 rfl rfl ?c1 ?c2 ?c3 ?c4 ?c5 ?_))
            case c1 => first | exact cell_one_new _ _ _ | exact fun _ _ h => h
            case c2 => simp [encV, Value.oneCell']
            case c3 => have := HVS.out; omega
            case c4 => have := HVS.out; unfold maxLen; omega
            case c5 => have := HBr.out.size; simp; omega
            intro v' w3 hown3 hg3
            have HW3 : Hid (Below w1.heap.size w1 w3 ∧ ∃ vs, Own w3 w1.heap.size 25 1 encV v' vs ∧ HeadTo w1 (cut7 W) (min (k + 1) 7) vs) := ⟨hown2.grown (balloc HBr.out _) (Nat.le_refl _) hg3, _, hown3, by rw [hmk1]; exact HT2.out⟩
            clear hown3 hg3 hown2 hown
            go_wp2
            go_roundw
            case rel => exact ⟨k + 1, by omega, by go_num, HW3⟩
            case measure => simp [intOf]; omega
          · have HT2 : Hid (HeadTo w1 (cut7 W) (k + 1) (vs ++ [.slice oak r capk])) := HT.out.snoc hkt ⟨_, _, by rw [hgW, List.length_take]; congr 1; omega, ln, by rw [hgW, List.length_take]; omega, by rw [hgW]; exact fk1.take 6⟩
            have hown2 := hown.alloc (.cells #[.slice oak r capk] 25)
            clear hr fk fk1 ln ck0 lm hht hvs hkt hgW HT
            go_wp2_with (at_builtin; go_must (refine wpList_app1 rfl (.tmp 35) (.tmp 37) 22 rfl elemInts Try.underlying22 w1.heap.size _ _ encV rfl hown2 (.slice oak r capk) ⟨wr.heap.size, 0, none⟩ 1 rfl rfl ?c1 ?c2 ?c3 ?c4 ?c5 ?_))
            case c1 => first | exact cell_one_new _ _ _ | exact fun _ _ h => h
            case c2 => simp [encV, Value.oneCell']
            case c3 => have := HVS.out; omega
            case c4 => have := HVS.out; unfold maxLen; omega
            case c5 => have := HBr.out.size; simp; omega
            intro v' w3 hown3 hg3
            have HW3 : Hid (Below w1.heap.size w1 w3 ∧ ∃ vs, Own w3 w1.heap.size 25 1 encV v' vs ∧ HeadTo w1 (cut7 W) (min (k + 1) 7) vs) := ⟨hown2.grown (balloc HBr.out _) (Nat.le_refl _) hg3, _, hown3, by rw [hmk1]; exact HT2.out⟩
            clear hown3 hg3 hown2 hown
            go_wp2
            go_roundw
            case rel => exact ⟨k + 1, by omega, by go_num, HW3⟩
            case measure => simp [intOf]; omega
        · have HW3 : Hid (Below w1.heap.size w1 wr ∧ ∃ vs, Own wr w1.heap.size 25 1 encV u5 vs ∧ HeadTo w1 (cut7 W) (min (k + 1) 7) vs) := ⟨HBr.out, vs, hown, by rw [show min (k + 1) 7 = min k 7 by omega]; exact hht⟩
          obtain ⟨b', off', oak, capk, e, ck0, lc, lm, ln, fk⟩ := HX.out k (by rw [← HNW.out]; exact hlt)
          subst e
          have ck := keepCell (bthen HB1.out HBr.out) ck0
          clear hown hht fk ln lm ck0
          go_wp2
          go_roundw
          case rel => exact ⟨k + 1, by omega, by go_num, HW3⟩
          case measure => simp [intOf]; omega
      · obtain rfl : N = k := by omega
        replace hht := hht.below HBr.out
        by_cases hN7 : 7 ≤ N
        · obtain ⟨ol, cl, rfl, hcl, hsome, hrw⟩ := HeadTo.rows hht (by rw [cut7_length, ← HNW.out]; omega) hown (Below.refl _ _)
          obtain ⟨g, rfl⟩ := hsome (by omega)
          rw [show min N 7 = 7 by omega] at hcl ⊢
          have HCW : Hid (CutW w wr (some ⟨ba, offa, none⟩) (some ⟨g, 0, none⟩) F R) := ⟨bthen HB1.out HBr.out, HFL.out.below (bthen HB1.out HBr.out), hrw.cut (by rw [HR.out, cut6_length, cut7_length]; omega) (fun i h1 h2 => by have e := HR.out; subst e; exact cut6_cut7 h1 h2)⟩
          have td1 : decide ((6 : Int) < 7) = true := decide_eq_true (by omega)
          have td2 : decide (6 < 7) = true := decide_eq_true (by omega)
          have td3 : (6 : Int) < 7 := by omega
          have hc6 : 6 ≤ cl := by omega
          have HRL : Hid (R.length = 6) := by show _ = _; rw [HR.out, cut6_length, ← HNW.out]; omega
          clear hht hown hrw hsome
          have HO := Lib.hid (fun oa' ob' w' (hf : Flat w' 1 encInt oa' F) (hx : Rows1 w' 1 encInt ob' R) => order_bad oa' ob' F R 6 6 ca cl w' HFN.out.symm HRL.out.symm (by unfold maxLen; omega) (by unfold maxLen; omega) hf hx (by rw [← HEE.out]; exact hE0))
          have HE := Lib.hid (fun ob' (w' : World) (hf : Flat w' 1 encInt (some ⟨ba, offa, none⟩) F) (hx : Rows1 w' 1 encInt ob' R) => washErrN (some ⟨ba, offa, none⟩) ob' F R 6 6 ca cl w' HFN.out.symm HRL.out.symm (by unfold maxLen; omega) (by unfold maxLen; omega) h0a hf hx)
          have HK := Lib.hid (fun oa' ob' w' (hf : Flat w' 1 encInt oa' F) (hx : Rows1 w' 1 encInt ob' R) => checkWN oa' ob' F R 6 6 ca cl w' HFN.out.symm HRL.out.symm (by unfold maxLen; omega) (by unfold maxLen; omega) hf hx)
          rw [← HEE.out] at HO HE HK
          clear h0a
          go_wp2_with (first | (go_at_call 29; (with_reducible refine (HO.out _ _ _ HCW.out.f HCW.out.r).mono ?_); rintro e w' ⟨rfl, rfl⟩) | (go_at_call 30; (with_reducible refine (HE.out _ _ HCW.out.f HCW.out.r).mono ?_); rintro e w6 ⟨rfl, hb6⟩; have HB6 := Lib.hid (bthen HCW.out.bel hb6); have HF6 := Lib.hid (HCW.out.f.below hb6); have HR6 := Lib.hid (HCW.out.r.below hb6); clear hb6) | (go_at_call 31; (with_reducible refine (HK.out _ _ _ HF6.out HR6.out).mono ?_); rintro e w' ⟨rfl, rfl⟩))
          go_ret
          exact ⟨rfl, HB6.out⟩
        · obtain ⟨ol, cl, rfl, hcl, hsome, hrw⟩ := HeadTo.rows hht (by rw [cut7_length, ← HNW.out]; omega) hown (Below.refl _ _)
          rw [show min N 7 = N by omega] at hcl ⊢
          have HCW : Hid (CutW w wr (some ⟨ba, offa, none⟩) ol F R) := ⟨bthen HB1.out HBr.out, HFL.out.below (bthen HB1.out HBr.out), hrw.cut (by rw [HR.out, cut6_length, cut7_length]; omega) (fun i h1 h2 => by have e := HR.out; subst e; exact cut6_cut7 h1 h2)⟩
          have td4 : decide ((6 : Int) < (N : Int)) = false := decide_eq_false (by omega)
          have td5 : decide (6 < N) = false := decide_eq_false (by omega)
          have HRL : Hid (R.length = N) := by show _ = _; rw [HR.out, cut6_length, ← HNW.out]; omega
          clear hht hown hrw hsome
          have HO := Lib.hid (fun oa' ob' w' (hf : Flat w' 1 encInt oa' F) (hx : Rows1 w' 1 encInt ob' R) => order_bad oa' ob' F R 6 N ca cl w' HFN.out.symm HRL.out.symm (by unfold maxLen; omega) (by unfold maxLen; omega) hf hx (by rw [← HEE.out]; exact hE0))
          have HE := Lib.hid (fun ob' (w' : World) (hf : Flat w' 1 encInt (some ⟨ba, offa, none⟩) F) (hx : Rows1 w' 1 encInt ob' R) => washErrN (some ⟨ba, offa, none⟩) ob' F R 6 N ca cl w' HFN.out.symm HRL.out.symm (by unfold maxLen; omega) (by unfold maxLen; omega) h0a hf hx)
          have HK := Lib.hid (fun oa' ob' w' (hf : Flat w' 1 encInt oa' F) (hx : Rows1 w' 1 encInt ob' R) => checkWN oa' ob' F R 6 N ca cl w' HFN.out.symm HRL.out.symm (by unfold maxLen; omega) (by unfold maxLen; omega) hf hx)
          rw [← HEE.out] at HO HE HK
          clear h0a
          have td6 : ¬ (6 : Int) < (N : Int) := by omega
          go_wp2_with (first | (go_at_call 29; (with_reducible refine (HO.out _ _ _ HCW.out.f HCW.out.r).mono ?_); rintro e w' ⟨rfl, rfl⟩) | (go_at_call 30; (with_reducible refine (HE.out _ _ HCW.out.f HCW.out.r).mono ?_); rintro e w6 ⟨rfl, hb6⟩; have HB6 := Lib.hid (bthen HCW.out.bel hb6); have HF6 := Lib.hid (HCW.out.f.below hb6); have HR6 := Lib.hid (HCW.out.r.below hb6); clear hb6) | (go_at_call 31; (with_reducible refine (HK.out _ _ _ HF6.out HR6.out).mono ?_); rintro e w' ⟨rfl, rfl⟩))
          go_ret
          exact ⟨rfl, HB6.out⟩
  · obtain ⟨n1, hn1⟩ : ∃ n1, n1 = first.length := ⟨_, rfl⟩
    have hn6 : n1 ≤ 6 := by omega
    have HFN : Hid (F.length = n1) := by show _ = _; omega
    have hd6 : ¬ (6 : Int) < (n1 : Int) := by omega
    rw [← hn1]
    clear hF hR hN hc hf hx HFN0 hm hca hn9 h6 hn1 hE
    go_enter Try.func9, Try.ntmps9
    go_wp2_with (go_at_call 12; (with_reducible refine (plansL_any _).mono ?_); rintro e w1 ⟨rfl, hb1⟩; have HB1 := Lib.hid hb1; clear hb1)
    go_loopw [5, 23] (fun s5 s23 wr => ∃ k : Nat, k ≤ N ∧ s23 = .int .i64 k ∧ Hid (Below w1.heap.size w1 wr ∧ ∃ vs, Own wr w1.heap.size 25 1 encV s5 vs ∧ HeadTo w1 (cut7 W) (min k 7) vs)) (fun _ s23 _ => N - (intOf s23).toNat)
    case atStart => exact ⟨0, by omega, rfl, Lib.hid ⟨Below.refl _ _, [], Own.nil _ _ _ _ _, rfl, fun i h1 _ => by simp at h1⟩⟩
    case round =>
      obtain ⟨k, hk, rfl, HW⟩ := hrel
      obtain ⟨vs, hown, hht⟩ := HW.out.2
      have HBr := Lib.hid HW.out.1
      clear HW
      by_cases hlt : k < N
      · by_cases hk7 : (k : Int) < 7
        · have HT := Lib.hid hht
          obtain ⟨b', off', oak, capk, e, ck0, lc, lm, ln, fk⟩ := HX.out k (by rw [← HNW.out]; exact hlt)
          subst e
          have ck := keepCell (bthen HB1.out HBr.out) ck0
          have fk1 := fk.below HB1.out
          have hkt : k < (cut7 W).length := by rw [cut7_length, ← HNW.out]; omega
          have hgW := cut7_get hkt (by rw [← HNW.out]; exact hlt)
          obtain ⟨r, hr⟩ : ∃ r, r = (W[k]'(by rw [← HNW.out]; exact hlt)).length := ⟨_, rfl⟩
          rw [← hr] at ck lc
          have hr9 : r ≤ 9223372036854775807 := by rw [hr]; unfold maxLen at lm; omega
          have hmk : min k 7 = k := by omega
          have hmk1 : min (k + 1) 7 = k + 1 := by omega
          rw [hmk] at HT hht
          have hvs : vs.length ≤ 7 := by rw [hht.1]; omega
          have HVS := Lib.hid hvs
          by_cases h6 : (6 : Int) < (r : Int)
          · obtain ⟨bk, offk, rfl⟩ : ∃ bk offk, oak = some ⟨bk, offk, none⟩ := by
              obtain ⟨bk, offk, e, _⟩ := fk.int (i := 0) (by omega)
              exact ⟨bk, offk, e⟩
            have HT2 : Hid (HeadTo w1 (cut7 W) (k + 1) (vs ++ [.slice (some ⟨bk, offk, none⟩) 6 capk])) := HT.out.snoc hkt ⟨_, _, by rw [hgW, List.length_take]; congr 1; omega, (fun h => by cases h), by rw [hgW, List.length_take]; omega, by rw [hgW]; exact fk1.take 6⟩
            have lc6 : 6 ≤ capk := by omega
            have hown2 := hown.alloc (.cells #[.slice (some ⟨bk, offk, none⟩) 6 capk] 25)
            clear hr fk fk1 ln ck0 lm hht hvs hkt hgW HT
            go_wp2_with (at_builtin; go_must (refine wpList_app1 rfl (.tmp 35) (.tmp 37) 22 rfl elemInts Try.underlying22 w1.heap.size _ _ encV rfl hown2 (.slice (some ⟨bk, offk, none⟩) 6 capk) ⟨wr.heap.size, 0, none⟩ 1 rfl rfl ?c1 ?c2 ?c3 ?c4 ?c5 ?_))
            case c1 => first | exact cell_one_new _ _ _ | exact fun _ _ h => h
            case c2 => simp [encV, Value.oneCell']
            case c3 => have := HVS.out; omega
            case c4 => have := HVS.out; unfold maxLen; omega
            case c5 => have := HBr.out.size; simp; omega
            intro v' w3 hown3 hg3
            have HW3 : Hid (Below w1.heap.size w1 w3 ∧ ∃ vs, Own w3 w1.heap.size 25 1 encV v' vs ∧ HeadTo w1 (cut7 W) (min (k + 1) 7) vs) := ⟨hown2.grown (balloc HBr.out _) (Nat.le_refl _) hg3, _, hown3, by rw [hmk1]; exact HT2.out⟩
            clear hown3 hg3 hown2 hown
            go_wp2
            go_roundw
            case rel => exact ⟨k + 1, by omega, by go_num, HW3⟩
            case measure => simp [intOf]; omega
          · have HT2 : Hid (HeadTo w1 (cut7 W) (k + 1) (vs ++ [.slice oak r capk])) := HT.out.snoc hkt ⟨_, _, by rw [hgW, List.length_take]; congr 1; omega, ln, by rw [hgW, List.length_take]; omega, by rw [hgW]; exact fk1.take 6⟩
            have hown2 := hown.alloc (.cells #[.slice oak r capk] 25)
            clear hr fk fk1 ln ck0 lm hht hvs hkt hgW HT
            go_wp2_with (at_builtin; go_must (refine wpList_app1 rfl (.tmp 35) (.tmp 37) 22 rfl elemInts Try.underlying22 w1.heap.size _ _ encV rfl hown2 (.slice oak r capk) ⟨wr.heap.size, 0, none⟩ 1 rfl rfl ?c1 ?c2 ?c3 ?c4 ?c5 ?_))
            case c1 => first | exact cell_one_new _ _ _ | exact fun _ _ h => h
            case c2 => simp [encV, Value.oneCell']
            case c3 => have := HVS.out; omega
            case c4 => have := HVS.out; unfold maxLen; omega
            case c5 => have := HBr.out.size; simp; omega
            intro v' w3 hown3 hg3
            have HW3 : Hid (Below w1.heap.size w1 w3 ∧ ∃ vs, Own w3 w1.heap.size 25 1 encV v' vs ∧ HeadTo w1 (cut7 W) (min (k + 1) 7) vs) := ⟨hown2.grown (balloc HBr.out _) (Nat.le_refl _) hg3, _, hown3, by rw [hmk1]; exact HT2.out⟩
            clear hown3 hg3 hown2 hown
            go_wp2
            go_roundw
            case rel => exact ⟨k + 1, by omega, by go_num, HW3⟩
            case measure => simp [intOf]; omega
        · have HW3 : Hid (Below w1.heap.size w1 wr ∧ ∃ vs, Own wr w1.heap.size 25 1 encV u5 vs ∧ HeadTo w1 (cut7 W) (min (k + 1) 7) vs) := ⟨HBr.out, vs, hown, by rw [show min (k + 1) 7 = min k 7 by omega]; exact hht⟩
          obtain ⟨b', off', oak, capk, e, ck0, lc, lm, ln, fk⟩ := HX.out k (by rw [← HNW.out]; exact hlt)
          subst e
          have ck := keepCell (bthen HB1.out HBr.out) ck0
          clear hown hht fk ln lm ck0
          go_wp2
          go_roundw
          case rel => exact ⟨k + 1, by omega, by go_num, HW3⟩
          case measure => simp [intOf]; omega
      · obtain rfl : N = k := by omega
        replace hht := hht.below HBr.out
        by_cases hN7 : 7 ≤ N
        · obtain ⟨ol, cl, rfl, hcl, hsome, hrw⟩ := HeadTo.rows hht (by rw [cut7_length, ← HNW.out]; omega) hown (Below.refl _ _)
          obtain ⟨g, rfl⟩ := hsome (by omega)
          rw [show min N 7 = 7 by omega] at hcl ⊢
          have HCW : Hid (CutW w wr oa (some ⟨g, 0, none⟩) F R) := ⟨bthen HB1.out HBr.out, HFL.out.below (bthen HB1.out HBr.out), hrw.cut (by rw [HR.out, cut6_length, cut7_length]; omega) (fun i h1 h2 => by have e := HR.out; subst e; exact cut6_cut7 h1 h2)⟩
          have td1 : decide ((n1 : Int) < 7) = true := decide_eq_true (by omega)
          have td2 : decide (n1 < 7) = true := decide_eq_true (by omega)
          have td3 : (n1 : Int) < 7 := by omega
          have hc6 : 6 ≤ cl := by omega
          have HRL : Hid (R.length = 6) := by show _ = _; rw [HR.out, cut6_length, ← HNW.out]; omega
          clear hht hown hrw hsome
          have HO := Lib.hid (fun oa' ob' w' (hf : Flat w' 1 encInt oa' F) (hx : Rows1 w' 1 encInt ob' R) => order_bad oa' ob' F R n1 6 ca cl w' HFN.out.symm HRL.out.symm (by unfold maxLen; omega) (by unfold maxLen; omega) hf hx (by rw [← HEE.out]; exact hE0))
          have HE := Lib.hid (fun ob' (w' : World) (hf : Flat w' 1 encInt oa F) (hx : Rows1 w' 1 encInt ob' R) => washErrN oa ob' F R n1 6 ca cl w' HFN.out.symm HRL.out.symm (by unfold maxLen; omega) (by unfold maxLen; omega) h0a hf hx)
          have HK := Lib.hid (fun oa' ob' w' (hf : Flat w' 1 encInt oa' F) (hx : Rows1 w' 1 encInt ob' R) => checkWN oa' ob' F R n1 6 ca cl w' HFN.out.symm HRL.out.symm (by unfold maxLen; omega) (by unfold maxLen; omega) hf hx)
          rw [← HEE.out] at HO HE HK
          clear h0a
          go_wp2_with (first | (go_at_call 29; (with_reducible refine (HO.out _ _ _ HCW.out.f HCW.out.r).mono ?_); rintro e w' ⟨rfl, rfl⟩) | (go_at_call 30; (with_reducible refine (HE.out _ _ HCW.out.f HCW.out.r).mono ?_); rintro e w6 ⟨rfl, hb6⟩; have HB6 := Lib.hid (bthen HCW.out.bel hb6); have HF6 := Lib.hid (HCW.out.f.below hb6); have HR6 := Lib.hid (HCW.out.r.below hb6); clear hb6) | (go_at_call 31; (with_reducible refine (HK.out _ _ _ HF6.out HR6.out).mono ?_); rintro e w' ⟨rfl, rfl⟩))
          go_ret
          exact ⟨rfl, HB6.out⟩
        · obtain ⟨ol, cl, rfl, hcl, hsome, hrw⟩ := HeadTo.rows hht (by rw [cut7_length, ← HNW.out]; omega) hown (Below.refl _ _)
          rw [show min N 7 = N by omega] at hcl ⊢
          have HCW : Hid (CutW w wr oa ol F R) := ⟨bthen HB1.out HBr.out, HFL.out.below (bthen HB1.out HBr.out), hrw.cut (by rw [HR.out, cut6_length, cut7_length]; omega) (fun i h1 h2 => by have e := HR.out; subst e; exact cut6_cut7 h1 h2)⟩
          have td4 : decide ((6 : Int) < (N : Int)) = false := decide_eq_false (by omega)
          have td5 : decide (6 < N) = false := decide_eq_false (by omega)
          have HRL : Hid (R.length = N) := by show _ = _; rw [HR.out, cut6_length, ← HNW.out]; omega
          clear hht hown hrw hsome
          have HO := Lib.hid (fun oa' ob' w' (hf : Flat w' 1 encInt oa' F) (hx : Rows1 w' 1 encInt ob' R) => order_bad oa' ob' F R n1 N ca cl w' HFN.out.symm HRL.out.symm (by unfold maxLen; omega) (by unfold maxLen; omega) hf hx (by rw [← HEE.out]; exact hE0))
          have HE := Lib.hid (fun ob' (w' : World) (hf : Flat w' 1 encInt oa F) (hx : Rows1 w' 1 encInt ob' R) => washErrN oa ob' F R n1 N ca cl w' HFN.out.symm HRL.out.symm (by unfold maxLen; omega) (by unfold maxLen; omega) h0a hf hx)
          have HK := Lib.hid (fun oa' ob' w' (hf : Flat w' 1 encInt oa' F) (hx : Rows1 w' 1 encInt ob' R) => checkWN oa' ob' F R n1 N ca cl w' HFN.out.symm HRL.out.symm (by unfold maxLen; omega) (by unfold maxLen; omega) hf hx)
          rw [← HEE.out] at HO HE HK
          clear h0a
          by_cases hnn : (n1 : Int) < (N : Int)
          · have td6 : decide ((n1 : Int) < (N : Int)) = true := decide_eq_true hnn
            go_wp2_with (first | (go_at_call 29; (with_reducible refine (HO.out _ _ _ HCW.out.f HCW.out.r).mono ?_); rintro e w' ⟨rfl, rfl⟩) | (go_at_call 30; (with_reducible refine (HE.out _ _ HCW.out.f HCW.out.r).mono ?_); rintro e w6 ⟨rfl, hb6⟩; have HB6 := Lib.hid (bthen HCW.out.bel hb6); have HF6 := Lib.hid (HCW.out.f.below hb6); have HR6 := Lib.hid (HCW.out.r.below hb6); clear hb6) | (go_at_call 31; (with_reducible refine (HK.out _ _ _ HF6.out HR6.out).mono ?_); rintro e w' ⟨rfl, rfl⟩))
            go_ret
            exact ⟨rfl, HB6.out⟩
          · have td6 : decide ((n1 : Int) < (N : Int)) = false := decide_eq_false hnn
            go_wp2_with (first | (go_at_call 29; (with_reducible refine (HO.out _ _ _ HCW.out.f HCW.out.r).mono ?_); rintro e w' ⟨rfl, rfl⟩) | (go_at_call 30; (with_reducible refine (HE.out _ _ HCW.out.f HCW.out.r).mono ?_); rintro e w6 ⟨rfl, hb6⟩; have HB6 := Lib.hid (bthen HCW.out.bel hb6); have HF6 := Lib.hid (HCW.out.f.below hb6); have HR6 := Lib.hid (HCW.out.r.below hb6); clear hb6) | (go_at_call 31; (with_reducible refine (HK.out _ _ _ HF6.out HR6.out).mono ?_); rintro e w' ⟨rfl, rfl⟩))
            go_ret
            exact ⟨rfl, HB6.out⟩
set_option maxRecDepth 100000 in
set_option maxHeartbeats 16000000 in
theorem orderLaw_ok (oa ob : Option Addr) (first : List Int) (W : List (List Int)) (ca cb : Nat) (w : World) (hm : first.length ≤ maxLen) (hca : first.length ≤ ca) (h0a : oa = none → ca = 0) (hf : Flat w 1 encInt oa first) (hm2 : W.length ≤ maxLen) (hx : RowsCap w ob W) (hc : washErr (first.take 6) (cut6 W) = 0) :
    Calls Try.prog 9 #[.slice oa first.length ca, .slice ob W.length cb] w fun e w' => e = .returned (.bool true) ∧ Below w.heap.size w w' := by
  have HX := Lib.hid hx
  have hn9 : first.length ≤ 9223372036854775807 := by unfold maxLen at hm; omega
  obtain ⟨N, hN⟩ : ∃ N, N = W.length := ⟨_, rfl⟩
  have hN9 : N ≤ 9223372036854775807 := by rw [hN]; unfold maxLen at hm2; omega
  obtain ⟨F, hF⟩ : ∃ F, F = first.take 6 := ⟨_, rfl⟩
  obtain ⟨R, hR⟩ : ∃ R, R = cut6 W := ⟨_, rfl⟩
  have HFL : Hid (Flat w 1 encInt oa F) := by rw [hF]; exact hf.take 6
  have HFN0 : F.length = min 6 first.length := by rw [hF, List.length_take]
  have HR := Lib.hid hR
  have HNW := Lib.hid hN
  rw [← hF, ← hR] at hc
  have HW0 := Lib.hid hc
  have HG := Lib.hid (GoodWash.of hc)
  rw [← hN]
  by_cases h6 : 6 < first.length
  · have HFN : Hid (F.length = 6) := by show _ = _; omega
    obtain ⟨ba, offa, rfl⟩ : ∃ ba offa, oa = some ⟨ba, offa, none⟩ := by
      obtain ⟨ba, offa, e, _⟩ := hf.int (i := 0) (by omega)
      exact ⟨ba, offa, e⟩
    have hc6 : 6 ≤ ca := by omega
    have hd6 : (6 : Int) < (first.length : Int) := by omega
    clear hF hR hN hc hf hx HFN0
    generalize first.length = n0 at *
    go_enter Try.func9, Try.ntmps9
    go_wp2_with (go_at_call 12; (with_reducible refine (plansL_any _).mono ?_); rintro e w1 ⟨rfl, hb1⟩; have HB1 := Lib.hid hb1; clear hb1)
    go_loopw [5, 23] (fun s5 s23 wr => ∃ k : Nat, k ≤ N ∧ s23 = .int .i64 k ∧ Hid (Below w1.heap.size w1 wr ∧ ∃ vs, Own wr w1.heap.size 25 1 encV s5 vs ∧ HeadTo w1 (cut7 W) (min k 7) vs)) (fun _ s23 _ => N - (intOf s23).toNat)
    case atStart => exact ⟨0, by omega, rfl, Lib.hid ⟨Below.refl _ _, [], Own.nil _ _ _ _ _, rfl, fun i h1 _ => by simp at h1⟩⟩
    case round =>
      obtain ⟨k, hk, rfl, HW⟩ := hrel
      obtain ⟨vs, hown, hht⟩ := HW.out.2
      have HBr := Lib.hid HW.out.1
      clear HW
      by_cases hlt : k < N
      · by_cases hk7 : (k : Int) < 7
        · have HT := Lib.hid hht
          obtain ⟨b', off', oak, capk, e, ck0, lc, lm, ln, fk⟩ := HX.out k (by rw [← HNW.out]; exact hlt)
          subst e
          have ck := keepCell (bthen HB1.out HBr.out) ck0
          have fk1 := fk.below HB1.out
          have hkt : k < (cut7 W).length := by rw [cut7_length, ← HNW.out]; omega
          have hgW := cut7_get hkt (by rw [← HNW.out]; exact hlt)
          obtain ⟨r, hr⟩ : ∃ r, r = (W[k]'(by rw [← HNW.out]; exact hlt)).length := ⟨_, rfl⟩
          rw [← hr] at ck lc
          have hr9 : r ≤ 9223372036854775807 := by rw [hr]; unfold maxLen at lm; omega
          have hmk : min k 7 = k := by omega
          have hmk1 : min (k + 1) 7 = k + 1 := by omega
          rw [hmk] at HT hht
          have hvs : vs.length ≤ 7 := by rw [hht.1]; omega
          have HVS := Lib.hid hvs
          by_cases h6 : (6 : Int) < (r : Int)
          · obtain ⟨bk, offk, rfl⟩ : ∃ bk offk, oak = some ⟨bk, offk, none⟩ := by
              obtain ⟨bk, offk, e, _⟩ := fk.int (i := 0) (by omega)
              exact ⟨bk, offk, e⟩
            have HT2 : Hid (HeadTo w1 (cut7 W) (k + 1) (vs ++ [.slice (some ⟨bk, offk, none⟩) 6 capk])) := HT.out.snoc hkt ⟨_, _, by rw [hgW, List.length_take]; congr 1; omega, (fun h => by cases h), by rw [hgW, List.length_take]; omega, by rw [hgW]; exact fk1.take 6⟩
            have lc6 : 6 ≤ capk := by omega
            have hown2 := hown.alloc (.cells #[.slice (some ⟨bk, offk, none⟩) 6 capk] 25)
            clear hr fk fk1 ln ck0 lm hht hvs hkt hgW HT
            go_wp2_with (at_builtin; go_must (refine wpList_app1 rfl (.tmp 35) (.tmp 37) 22 rfl elemInts Try.underlying22 w1.heap.size _ _ encV rfl hown2 (.slice (some ⟨bk, offk, none⟩) 6 capk) ⟨wr.heap.size, 0, none⟩ 1 rfl rfl ?c1 ?c2 ?c3 ?c4 ?c5 ?_))
            case c1 => first | exact cell_one_new _ _ _ | exact fun _ _ h => h
            case c2 => simp [encV, Value.oneCell']
            case c3 => have := HVS.out; omega
            case c4 => have := HVS.out; unfold maxLen; omega
            case c5 => have := HBr.out.size; simp; omega
            intro v' w3 hown3 hg3
            have HW3 : Hid (Below w1.heap.size w1 w3 ∧ ∃ vs, Own w3 w1.heap.size 25 1 encV v' vs ∧ HeadTo w1 (cut7 W) (min (k + 1) 7) vs) := ⟨hown2.grown (balloc HBr.out _) (Nat.le_refl _) hg3, _, hown3, by rw [hmk1]; exact HT2.out⟩
            clear hown3 hg3 hown2 hown
            go_wp2
            go_roundw
            case rel => exact ⟨k + 1, by omega, by go_num, HW3⟩
            case measure => simp [intOf]; omega
          · have HT2 : Hid (HeadTo w1 (cut7 W) (k + 1) (vs ++ [.slice oak r capk])) := HT.out.snoc hkt ⟨_, _, by rw [hgW, List.length_take]; congr 1; omega, ln, by rw [hgW, List.length_take]; omega, by rw [hgW]; exact fk1.take 6⟩
            have hown2 := hown.alloc (.cells #[.slice oak r capk] 25)
            clear hr fk fk1 ln ck0 lm hht hvs hkt hgW HT
            go_wp2_with (at_builtin; go_must (refine wpList_app1 rfl (.tmp 35) (.tmp 37) 22 rfl elemInts Try.underlying22 w1.heap.size _ _ encV rfl hown2 (.slice oak r capk) ⟨wr.heap.size, 0, none⟩ 1 rfl rfl ?c1 ?c2 ?c3 ?c4 ?c5 ?_))
            case c1 => first | exact cell_one_new _ _ _ | exact fun _ _ h => h
            case c2 => simp [encV, Value.oneCell']
            case c3 => have := HVS.out; omega
            case c4 => have := HVS.out; unfold maxLen; omega
            case c5 => have := HBr.out.size; simp; omega
            intro v' w3 hown3 hg3
            have HW3 : Hid (Below w1.heap.size w1 w3 ∧ ∃ vs, Own w3 w1.heap.size 25 1 encV v' vs ∧ HeadTo w1 (cut7 W) (min (k + 1) 7) vs) := ⟨hown2.grown (balloc HBr.out _) (Nat.le_refl _) hg3, _, hown3, by rw [hmk1]; exact HT2.out⟩
            clear hown3 hg3 hown2 hown
            go_wp2
            go_roundw
            case rel => exact ⟨k + 1, by omega, by go_num, HW3⟩
            case measure => simp [intOf]; omega
        · have HW3 : Hid (Below w1.heap.size w1 wr ∧ ∃ vs, Own wr w1.heap.size 25 1 encV u5 vs ∧ HeadTo w1 (cut7 W) (min (k + 1) 7) vs) := ⟨HBr.out, vs, hown, by rw [show min (k + 1) 7 = min k 7 by omega]; exact hht⟩
          obtain ⟨b', off', oak, capk, e, ck0, lc, lm, ln, fk⟩ := HX.out k (by rw [← HNW.out]; exact hlt)
          subst e
          have ck := keepCell (bthen HB1.out HBr.out) ck0
          clear hown hht fk ln lm ck0
          go_wp2
          go_roundw
          case rel => exact ⟨k + 1, by omega, by go_num, HW3⟩
          case measure => simp [intOf]; omega
      · obtain rfl : N = k := by omega
        replace hht := hht.below HBr.out
        by_cases hN7 : 7 ≤ N
        · obtain ⟨ol, cl, rfl, hcl, hsome, hrw⟩ := HeadTo.rows hht (by rw [cut7_length, ← HNW.out]; omega) hown (Below.refl _ _)
          obtain ⟨g, rfl⟩ := hsome (by omega)
          rw [show min N 7 = 7 by omega] at hcl ⊢
          have HCW : Hid (CutW w wr (some ⟨ba, offa, none⟩) (some ⟨g, 0, none⟩) F R) := ⟨bthen HB1.out HBr.out, HFL.out.below (bthen HB1.out HBr.out), hrw.cut (by rw [HR.out, cut6_length, cut7_length]; omega) (fun i h1 h2 => by have e := HR.out; subst e; exact cut6_cut7 h1 h2)⟩
          have td1 : decide ((6 : Int) < 7) = true := decide_eq_true (by omega)
          have td2 : decide (6 < 7) = true := decide_eq_true (by omega)
          have td3 : (6 : Int) < 7 := by omega
          have hc6 : 6 ≤ cl := by omega
          have HRL : Hid (R.length = 6) := by show _ = _; rw [HR.out, cut6_length, ← HNW.out]; omega
          clear hht hown hrw hsome
          have HG2 : Hid (GoodWash F R 6) := by have h := HG.out; rw [HFN.out] at h; exact h
          obtain ⟨bf, hbf⟩ : ∃ bf, bf = ba := ⟨_, rfl⟩
          obtain ⟨foff, hfoff⟩ : ∃ foff, foff = offa := ⟨_, rfl⟩
          subst hbf hfoff
          have hn6 : 1 ≤ 6 ∧ 6 ≤ 6 := by have a := HG2.out.g.r1; rw [HG2.out.wl] at a; omega
          have HO := Lib.hid (fun (_ : True) (w' : World) (_ : True) (hf : Flat w' 1 encInt (some ⟨bf, foff, none⟩) F) (hx : Rows1 w' 1 encInt (some ⟨g, 0, none⟩) R) => order_ok bf foff ca g 0 cl F R 6 w' HG2.out hf hx HW0.out)
          have HE : Hid (∀ (_ : True) (w' : World) (_ : True) (hf : Flat w' 1 encInt (some ⟨bf, foff, none⟩) F) (hx : Rows1 w' 1 encInt (some ⟨g, 0, none⟩) R), Calls Try.prog 30 #[.slice (some ⟨bf, foff, none⟩) 6 ca, .slice (some ⟨g, 0, none⟩) 6 cl] w' fun e w'' => e = .returned (.int .i64 0) ∧ Below w'.heap.size w' w'') := by
            intro _ w' _ hf hx
            have h := washErrN (some ⟨bf, foff, none⟩) (some ⟨g, 0, none⟩) F R 6 6 ca cl w' HFN.out.symm HRL.out.symm (by unfold maxLen; omega) (by unfold maxLen; omega) (fun h => by cases h) hf hx
            rw [HW0.out] at h
            exact h
          have HK : Hid (∀ (_ : True) (w' : World) (_ : True) (hf : Flat w' 1 encInt (some ⟨bf, foff, none⟩) F) (hx : Rows1 w' 1 encInt (some ⟨g, 0, none⟩) R), Calls Try.prog 31 #[.slice (some ⟨bf, foff, none⟩) 6 ca, .slice (some ⟨g, 0, none⟩) 6 cl] w' fun e w'' => e = .returned (.int .i64 0) ∧ w' = w'') := by
            intro _ w' _ hf hx
            have h := checkWN (some ⟨bf, foff, none⟩) (some ⟨g, 0, none⟩) F R 6 6 ca cl w' HFN.out.symm HRL.out.symm (by unfold maxLen; omega) (by unfold maxLen; omega) hf hx
            rw [HW0.out] at h
            exact h
          obtain ⟨X, hX⟩ : ∃ X, X = (wsh F R 6 6 (bits 0) (-1)).1 := ⟨_, rfl⟩
          obtain ⟨L, hL⟩ : ∃ L, L = (wsh F R 6 6 (bits 0) (-1)).2 := ⟨_, rfl⟩
          rw [← hX, ← hL] at HO
          have HLEN : Hid (L.length = 6) := by show _ = _; rw [hL]; exact (wsh_len HG2.out.f HG2.out.g.c freeN_zero).1
          have HWA : Hid (∀ (_ : True) (w' : World) (_ : True) (hf : Flat w' 1 encInt (some ⟨bf, foff, none⟩) F) (hx : Rows1 w' 1 encInt (some ⟨g, 0, none⟩) R), Calls Try.prog 32 #[.slice (some ⟨bf, foff, none⟩) 6 ca, .slice (some ⟨g, 0, none⟩) 6 cl, .int .i64 (-1), .slice (some ⟨w'.heap.size, 0, none⟩) 6 6] (w'.alloc (.cells (madeArr (.bool false) 6) 4)) fun e w'' => ∃ ov cv, e = .returned (.tuple #[.int .i64 X, .slice ov 6 cv]) ∧ Below w'.heap.size w' w'' ∧ Flat w'' 1 encInt ov L) := by
            intro _ w' _ hf hx
            refine (washed_any bf foff ca g 0 cl F R 6 w'.heap.size w' HG2.out hf hx (Nat.le_refl _) 6 (bits 0) (-1) (w'.alloc (.cells (madeArr (.bool false) 6) 4)) freeN_zero (.inl rfl) (by rw [World.size_alloc]; omega) (balloc (Below.refl _ _) _) (by rw [bits_zero]; exact FTab.made Value.bool w' 6 false 4)).mono ?_
            rintro e w'' ⟨ov, cv, rfl, hb, _, ho⟩
            rw [← hX]
            rw [← hL] at ho
            obtain ⟨ov9, cv9, e9, hf9⟩ := ho.flatW (k := 6) HLEN.out
            cases e9
            exact ⟨ov, cv, rfl, (balloc (Below.refl _ _) _).trans (hb.below (by rw [World.size_alloc]; omega)), hf9⟩
          have mk : ∀ w : World, (Instr.makeSlice 33 (.int .i64 (6 : Int)) (.int .i64 (6 : Int))).run Try.prog w = .ok (.slice (some ⟨w.heap.size, 0, none⟩) 6 6) (w.alloc (.cells (madeArr (.bool false) 6) 4)) := run_makeArr (P := Try.prog) elemBool Try.underlying33 (.bool false) rfl 6 (by omega) (by omega)
          have tx : (X == X) = true := by simp
          clear hX hL
          go_wp2_with (first | (go_at_call 29; (with_reducible refine (HO.out trivial _ trivial HCW.out.f HCW.out.r).mono ?_); rintro e w5' ⟨oc, cc, rfl, hfc, hb5⟩; have HCW5 : Hid (CutW w w5' (some ⟨bf, foff, none⟩) (some ⟨g, 0, none⟩) F R) := (by exact ⟨bthen HCW.out.bel hb5, HCW.out.f.below hb5, HCW.out.r.below hb5⟩); have HFC := Lib.hid hfc; clear hfc hb5) | (go_at_call 30; (with_reducible refine (HE.out trivial _ trivial HCW5.out.f HCW5.out.r).mono ?_); rintro e w6 ⟨rfl, hb6⟩; have HCW6 : Hid (CutW w w6 (some ⟨bf, foff, none⟩) (some ⟨g, 0, none⟩) F R) := (by exact ⟨bthen HCW5.out.bel hb6, HCW5.out.f.below hb6, HCW5.out.r.below hb6⟩); have HFC6 := Lib.hid (HFC.out.below hb6); clear hb6) | (go_at_call 31; (with_reducible refine (HK.out trivial _ trivial HCW6.out.f HCW6.out.r).mono ?_); rintro e w' ⟨rfl, rfl⟩) | (go_at_call 32; (with_reducible refine (HWA.out trivial _ trivial HCW6.out.f HCW6.out.r).mono ?_); rintro e w7 ⟨ov, cv, rfl, hb7, hfv⟩; have HB7 := Lib.hid hb7; have HFV := Lib.hid hfv; have HFC7 := Lib.hid (HFC6.out.below hb7); clear hb7 hfv) | (go_at_call 28; (with_reducible refine (same_L _ _ _ _ _ _ _ HLEN.out (by omega) HFC7.out HFV.out).mono ?_); rintro e w8 ⟨rfl, hb8⟩))
          go_ret
          exact ⟨rfl, bthen (bthen HCW6.out.bel HB7.out) hb8⟩
        · obtain ⟨ol, cl, rfl, hcl, hsome, hrw⟩ := HeadTo.rows hht (by rw [cut7_length, ← HNW.out]; omega) hown (Below.refl _ _)
          rw [show min N 7 = N by omega] at hcl ⊢
          have HCW : Hid (CutW w wr (some ⟨ba, offa, none⟩) ol F R) := ⟨bthen HB1.out HBr.out, HFL.out.below (bthen HB1.out HBr.out), hrw.cut (by rw [HR.out, cut6_length, cut7_length]; omega) (fun i h1 h2 => by have e := HR.out; subst e; exact cut6_cut7 h1 h2)⟩
          have td4 : decide ((6 : Int) < (N : Int)) = false := decide_eq_false (by omega)
          have td5 : decide (6 < N) = false := decide_eq_false (by omega)
          have HRL : Hid (R.length = N) := by show _ = _; rw [HR.out, cut6_length, ← HNW.out]; omega
          clear hht hown hrw hsome
          obtain rfl : N = 6 := by have a := HG.out.wl; have b := HG.out.fl; have c := HRL.out; have d := HFN.out; omega
          have HG2 : Hid (GoodWash F R 6) := by have h := HG.out; rw [HFN.out] at h; exact h
          obtain ⟨g, goff, rfl⟩ : ∃ g goff, ol = some ⟨g, goff, none⟩ := HCW.out.r.some (by rw [HRL.out]; have := HG2.out.g.r1; rw [HG2.out.wl] at this; omega)
          obtain ⟨bf, hbf⟩ : ∃ bf, bf = ba := ⟨_, rfl⟩
          obtain ⟨foff, hfoff⟩ : ∃ foff, foff = offa := ⟨_, rfl⟩
          subst hbf hfoff
          have hn6 : 1 ≤ 6 ∧ 6 ≤ 6 := by have a := HG2.out.g.r1; rw [HG2.out.wl] at a; omega
          have HO := Lib.hid (fun (_ : True) (w' : World) (_ : True) (hf : Flat w' 1 encInt (some ⟨bf, foff, none⟩) F) (hx : Rows1 w' 1 encInt (some ⟨g, goff, none⟩) R) => order_ok bf foff ca g goff cl F R 6 w' HG2.out hf hx HW0.out)
          have HE : Hid (∀ (_ : True) (w' : World) (_ : True) (hf : Flat w' 1 encInt (some ⟨bf, foff, none⟩) F) (hx : Rows1 w' 1 encInt (some ⟨g, goff, none⟩) R), Calls Try.prog 30 #[.slice (some ⟨bf, foff, none⟩) 6 ca, .slice (some ⟨g, goff, none⟩) 6 cl] w' fun e w'' => e = .returned (.int .i64 0) ∧ Below w'.heap.size w' w'') := by
            intro _ w' _ hf hx
            have h := washErrN (some ⟨bf, foff, none⟩) (some ⟨g, goff, none⟩) F R 6 6 ca cl w' HFN.out.symm HRL.out.symm (by unfold maxLen; omega) (by unfold maxLen; omega) (fun h => by cases h) hf hx
            rw [HW0.out] at h
            exact h
          have HK : Hid (∀ (_ : True) (w' : World) (_ : True) (hf : Flat w' 1 encInt (some ⟨bf, foff, none⟩) F) (hx : Rows1 w' 1 encInt (some ⟨g, goff, none⟩) R), Calls Try.prog 31 #[.slice (some ⟨bf, foff, none⟩) 6 ca, .slice (some ⟨g, goff, none⟩) 6 cl] w' fun e w'' => e = .returned (.int .i64 0) ∧ w' = w'') := by
            intro _ w' _ hf hx
            have h := checkWN (some ⟨bf, foff, none⟩) (some ⟨g, goff, none⟩) F R 6 6 ca cl w' HFN.out.symm HRL.out.symm (by unfold maxLen; omega) (by unfold maxLen; omega) hf hx
            rw [HW0.out] at h
            exact h
          obtain ⟨X, hX⟩ : ∃ X, X = (wsh F R 6 6 (bits 0) (-1)).1 := ⟨_, rfl⟩
          obtain ⟨L, hL⟩ : ∃ L, L = (wsh F R 6 6 (bits 0) (-1)).2 := ⟨_, rfl⟩
          rw [← hX, ← hL] at HO
          have HLEN : Hid (L.length = 6) := by show _ = _; rw [hL]; exact (wsh_len HG2.out.f HG2.out.g.c freeN_zero).1
          have HWA : Hid (∀ (_ : True) (w' : World) (_ : True) (hf : Flat w' 1 encInt (some ⟨bf, foff, none⟩) F) (hx : Rows1 w' 1 encInt (some ⟨g, goff, none⟩) R), Calls Try.prog 32 #[.slice (some ⟨bf, foff, none⟩) 6 ca, .slice (some ⟨g, goff, none⟩) 6 cl, .int .i64 (-1), .slice (some ⟨w'.heap.size, 0, none⟩) 6 6] (w'.alloc (.cells (madeArr (.bool false) 6) 4)) fun e w'' => ∃ ov cv, e = .returned (.tuple #[.int .i64 X, .slice ov 6 cv]) ∧ Below w'.heap.size w' w'' ∧ Flat w'' 1 encInt ov L) := by
            intro _ w' _ hf hx
            refine (washed_any bf foff ca g goff cl F R 6 w'.heap.size w' HG2.out hf hx (Nat.le_refl _) 6 (bits 0) (-1) (w'.alloc (.cells (madeArr (.bool false) 6) 4)) freeN_zero (.inl rfl) (by rw [World.size_alloc]; omega) (balloc (Below.refl _ _) _) (by rw [bits_zero]; exact FTab.made Value.bool w' 6 false 4)).mono ?_
            rintro e w'' ⟨ov, cv, rfl, hb, _, ho⟩
            rw [← hX]
            rw [← hL] at ho
            obtain ⟨ov9, cv9, e9, hf9⟩ := ho.flatW (k := 6) HLEN.out
            cases e9
            exact ⟨ov, cv, rfl, (balloc (Below.refl _ _) _).trans (hb.below (by rw [World.size_alloc]; omega)), hf9⟩
          have mk : ∀ w : World, (Instr.makeSlice 33 (.int .i64 (6 : Int)) (.int .i64 (6 : Int))).run Try.prog w = .ok (.slice (some ⟨w.heap.size, 0, none⟩) 6 6) (w.alloc (.cells (madeArr (.bool false) 6) 4)) := run_makeArr (P := Try.prog) elemBool Try.underlying33 (.bool false) rfl 6 (by omega) (by omega)
          have tx : (X == X) = true := by simp
          clear hX hL
          have td6 : ¬ (6 : Int) < (6 : Int) := by omega
          have td7 : decide ((6 : Int) < (6 : Int)) = false := decide_eq_false (by omega)
          go_wp2_with (first | (go_at_call 29; (with_reducible refine (HO.out trivial _ trivial HCW.out.f HCW.out.r).mono ?_); rintro e w5' ⟨oc, cc, rfl, hfc, hb5⟩; have HCW5 : Hid (CutW w w5' (some ⟨bf, foff, none⟩) (some ⟨g, goff, none⟩) F R) := (by exact ⟨bthen HCW.out.bel hb5, HCW.out.f.below hb5, HCW.out.r.below hb5⟩); have HFC := Lib.hid hfc; clear hfc hb5) | (go_at_call 30; (with_reducible refine (HE.out trivial _ trivial HCW5.out.f HCW5.out.r).mono ?_); rintro e w6 ⟨rfl, hb6⟩; have HCW6 : Hid (CutW w w6 (some ⟨bf, foff, none⟩) (some ⟨g, goff, none⟩) F R) := (by exact ⟨bthen HCW5.out.bel hb6, HCW5.out.f.below hb6, HCW5.out.r.below hb6⟩); have HFC6 := Lib.hid (HFC.out.below hb6); clear hb6) | (go_at_call 31; (with_reducible refine (HK.out trivial _ trivial HCW6.out.f HCW6.out.r).mono ?_); rintro e w' ⟨rfl, rfl⟩) | (go_at_call 32; (with_reducible refine (HWA.out trivial _ trivial HCW6.out.f HCW6.out.r).mono ?_); rintro e w7 ⟨ov, cv, rfl, hb7, hfv⟩; have HB7 := Lib.hid hb7; have HFV := Lib.hid hfv; have HFC7 := Lib.hid (HFC6.out.below hb7); clear hb7 hfv) | (go_at_call 28; (with_reducible refine (same_L _ _ _ _ _ _ _ HLEN.out (by omega) HFC7.out HFV.out).mono ?_); rintro e w8 ⟨rfl, hb8⟩))
          go_ret
          exact ⟨rfl, bthen (bthen HCW6.out.bel HB7.out) hb8⟩
  · obtain ⟨n1, hn1⟩ : ∃ n1, n1 = first.length := ⟨_, rfl⟩
    have hn6 : n1 ≤ 6 := by omega
    have HFN : Hid (F.length = n1) := by show _ = _; omega
    have hd6 : ¬ (6 : Int) < (n1 : Int) := by omega
    rw [← hn1]
    clear hF hR hN hc hf hx HFN0 hm hca hn9 h6 hn1
    go_enter Try.func9, Try.ntmps9
    go_wp2_with (go_at_call 12; (with_reducible refine (plansL_any _).mono ?_); rintro e w1 ⟨rfl, hb1⟩; have HB1 := Lib.hid hb1; clear hb1)
    go_loopw [5, 23] (fun s5 s23 wr => ∃ k : Nat, k ≤ N ∧ s23 = .int .i64 k ∧ Hid (Below w1.heap.size w1 wr ∧ ∃ vs, Own wr w1.heap.size 25 1 encV s5 vs ∧ HeadTo w1 (cut7 W) (min k 7) vs)) (fun _ s23 _ => N - (intOf s23).toNat)
    case atStart => exact ⟨0, by omega, rfl, Lib.hid ⟨Below.refl _ _, [], Own.nil _ _ _ _ _, rfl, fun i h1 _ => by simp at h1⟩⟩
    case round =>
      obtain ⟨k, hk, rfl, HW⟩ := hrel
      obtain ⟨vs, hown, hht⟩ := HW.out.2
      have HBr := Lib.hid HW.out.1
      clear HW
      by_cases hlt : k < N
      · by_cases hk7 : (k : Int) < 7
        · have HT := Lib.hid hht
          obtain ⟨b', off', oak, capk, e, ck0, lc, lm, ln, fk⟩ := HX.out k (by rw [← HNW.out]; exact hlt)
          subst e
          have ck := keepCell (bthen HB1.out HBr.out) ck0
          have fk1 := fk.below HB1.out
          have hkt : k < (cut7 W).length := by rw [cut7_length, ← HNW.out]; omega
          have hgW := cut7_get hkt (by rw [← HNW.out]; exact hlt)
          obtain ⟨r, hr⟩ : ∃ r, r = (W[k]'(by rw [← HNW.out]; exact hlt)).length := ⟨_, rfl⟩
          rw [← hr] at ck lc
          have hr9 : r ≤ 9223372036854775807 := by rw [hr]; unfold maxLen at lm; omega
          have hmk : min k 7 = k := by omega
          have hmk1 : min (k + 1) 7 = k + 1 := by omega
          rw [hmk] at HT hht
          have hvs : vs.length ≤ 7 := by rw [hht.1]; omega
          have HVS := Lib.hid hvs
          by_cases h6 : (6 : Int) < (r : Int)
          · obtain ⟨bk, offk, rfl⟩ : ∃ bk offk, oak = some ⟨bk, offk, none⟩ := by
              obtain ⟨bk, offk, e, _⟩ := fk.int (i := 0) (by omega)
              exact ⟨bk, offk, e⟩
            have HT2 : Hid (HeadTo w1 (cut7 W) (k + 1) (vs ++ [.slice (some ⟨bk, offk, none⟩) 6 capk])) := HT.out.snoc hkt ⟨_, _, by rw [hgW, List.length_take]; congr 1; omega, (fun h => by cases h), by rw [hgW, List.length_take]; omega, by rw [hgW]; exact fk1.take 6⟩
            have lc6 : 6 ≤ capk := by omega
            have hown2 := hown.alloc (.cells #[.slice (some ⟨bk, offk, none⟩) 6 capk] 25)
            clear hr fk fk1 ln ck0 lm hht hvs hkt hgW HT
            go_wp2_with (at_builtin; go_must (refine wpList_app1 rfl (.tmp 35) (.tmp 37) 22 rfl elemInts Try.underlying22 w1.heap.size _ _ encV rfl hown2 (.slice (some ⟨bk, offk, none⟩) 6 capk) ⟨wr.heap.size, 0, none⟩ 1 rfl rfl ?c1 ?c2 ?c3 ?c4 ?c5 ?_))
            case c1 => first | exact cell_one_new _ _ _ | exact fun _ _ h => h
            case c2 => simp [encV, Value.oneCell']
            case c3 => have := HVS.out; omega
            case c4 => have := HVS.out; unfold maxLen; omega
            case c5 => have := HBr.out.size; simp; omega
            intro v' w3 hown3 hg3
            have HW3 : Hid (Below w1.heap.size w1 w3 ∧ ∃ vs, Own w3 w1.heap.size 25 1 encV v' vs ∧ HeadTo w1 (cut7 W) (min (k + 1) 7) vs) := ⟨hown2.grown (balloc HBr.out _) (Nat.le_refl _) hg3, _, hown3, by rw [hmk1]; exact HT2.out⟩
            clear hown3 hg3 hown2 hown
            go_wp2
            go_roundw
            case rel => exact ⟨k + 1, by omega, by go_num, HW3⟩
            case measure => simp [intOf]; omega
          · have HT2 : Hid (HeadTo w1 (cut7 W) (k + 1) (vs ++ [.slice oak r capk])) := HT.out.snoc hkt ⟨_, _, by rw [hgW, List.length_take]; congr 1; omega, ln, by rw [hgW, List.length_take]; omega, by rw [hgW]; exact fk1.take 6⟩
            have hown2 := hown.alloc (.cells #[.slice oak r capk] 25)
            clear hr fk fk1 ln ck0 lm hht hvs hkt hgW HT
            go_wp2_with (at_builtin; go_must (refine wpList_app1 rfl (.tmp 35) (.tmp 37) 22 rfl elemInts Try.underlying22 w1.heap.size _ _ encV rfl hown2 (.slice oak r capk) ⟨wr.heap.size, 0, none⟩ 1 rfl rfl ?c1 ?c2 ?c3 ?c4 ?c5 ?_))
            case c1 => first | exact cell_one_new _ _ _ | exact fun _ _ h => h
            case c2 => simp [encV, Value.oneCell']
            case c3 => have := HVS.out; omega
            case c4 => have := HVS.out; unfold maxLen; omega
            case c5 => have := HBr.out.size; simp; omega
            intro v' w3 hown3 hg3
            have HW3 : Hid (Below w1.heap.size w1 w3 ∧ ∃ vs, Own w3 w1.heap.size 25 1 encV v' vs ∧ HeadTo w1 (cut7 W) (min (k + 1) 7) vs) := ⟨hown2.grown (balloc HBr.out _) (Nat.le_refl _) hg3, _, hown3, by rw [hmk1]; exact HT2.out⟩
            clear hown3 hg3 hown2 hown
            go_wp2
            go_roundw
            case rel => exact ⟨k + 1, by omega, by go_num, HW3⟩
            case measure => simp [intOf]; omega
        · have HW3 : Hid (Below w1.heap.size w1 wr ∧ ∃ vs, Own wr w1.heap.size 25 1 encV u5 vs ∧ HeadTo w1 (cut7 W) (min (k + 1) 7) vs) := ⟨HBr.out, vs, hown, by rw [show min (k + 1) 7 = min k 7 by omega]; exact hht⟩
          obtain ⟨b', off', oak, capk, e, ck0, lc, lm, ln, fk⟩ := HX.out k (by rw [← HNW.out]; exact hlt)
          subst e
          have ck := keepCell (bthen HB1.out HBr.out) ck0
          clear hown hht fk ln lm ck0
          go_wp2
          go_roundw
          case rel => exact ⟨k + 1, by omega, by go_num, HW3⟩
          case measure => simp [intOf]; omega
      · obtain rfl : N = k := by omega
        replace hht := hht.below HBr.out
        by_cases hN7 : 7 ≤ N
        · obtain ⟨ol, cl, rfl, hcl, hsome, hrw⟩ := HeadTo.rows hht (by rw [cut7_length, ← HNW.out]; omega) hown (Below.refl _ _)
          obtain ⟨g, rfl⟩ := hsome (by omega)
          rw [show min N 7 = 7 by omega] at hcl ⊢
          have HCW : Hid (CutW w wr oa (some ⟨g, 0, none⟩) F R) := ⟨bthen HB1.out HBr.out, HFL.out.below (bthen HB1.out HBr.out), hrw.cut (by rw [HR.out, cut6_length, cut7_length]; omega) (fun i h1 h2 => by have e := HR.out; subst e; exact cut6_cut7 h1 h2)⟩
          have td1 : decide ((n1 : Int) < 7) = true := decide_eq_true (by omega)
          have td2 : decide (n1 < 7) = true := decide_eq_true (by omega)
          have td3 : (n1 : Int) < 7 := by omega
          have hc6 : 6 ≤ cl := by omega
          have HRL : Hid (R.length = 6) := by show _ = _; rw [HR.out, cut6_length, ← HNW.out]; omega
          clear hht hown hrw hsome
          obtain rfl : n1 = 6 := by have a := HG.out.wl; have b := HG.out.fl; have c := HRL.out; have d := HFN.out; omega
          have HG2 : Hid (GoodWash F R 6) := by have h := HG.out; rw [HFN.out] at h; exact h
          obtain ⟨bf, foff, rfl⟩ : ∃ bf foff, oa = some ⟨bf, foff, none⟩ := by obtain ⟨b, off, e, _⟩ := HCW.out.f.int (i := 0) (by rw [HFN.out]; have := HG2.out.g.r1; rw [HG2.out.wl] at this; omega); exact ⟨b, off, e⟩
          have hn6 : 1 ≤ 6 ∧ 6 ≤ 6 := by have a := HG2.out.g.r1; rw [HG2.out.wl] at a; omega
          have HO := Lib.hid (fun (_ : True) (w' : World) (_ : True) (hf : Flat w' 1 encInt (some ⟨bf, foff, none⟩) F) (hx : Rows1 w' 1 encInt (some ⟨g, 0, none⟩) R) => order_ok bf foff ca g 0 cl F R 6 w' HG2.out hf hx HW0.out)
          have HE : Hid (∀ (_ : True) (w' : World) (_ : True) (hf : Flat w' 1 encInt (some ⟨bf, foff, none⟩) F) (hx : Rows1 w' 1 encInt (some ⟨g, 0, none⟩) R), Calls Try.prog 30 #[.slice (some ⟨bf, foff, none⟩) 6 ca, .slice (some ⟨g, 0, none⟩) 6 cl] w' fun e w'' => e = .returned (.int .i64 0) ∧ Below w'.heap.size w' w'') := by
            intro _ w' _ hf hx
            have h := washErrN (some ⟨bf, foff, none⟩) (some ⟨g, 0, none⟩) F R 6 6 ca cl w' HFN.out.symm HRL.out.symm (by unfold maxLen; omega) (by unfold maxLen; omega) (fun h => by cases h) hf hx
            rw [HW0.out] at h
            exact h
          have HK : Hid (∀ (_ : True) (w' : World) (_ : True) (hf : Flat w' 1 encInt (some ⟨bf, foff, none⟩) F) (hx : Rows1 w' 1 encInt (some ⟨g, 0, none⟩) R), Calls Try.prog 31 #[.slice (some ⟨bf, foff, none⟩) 6 ca, .slice (some ⟨g, 0, none⟩) 6 cl] w' fun e w'' => e = .returned (.int .i64 0) ∧ w' = w'') := by
            intro _ w' _ hf hx
            have h := checkWN (some ⟨bf, foff, none⟩) (some ⟨g, 0, none⟩) F R 6 6 ca cl w' HFN.out.symm HRL.out.symm (by unfold maxLen; omega) (by unfold maxLen; omega) hf hx
            rw [HW0.out] at h
            exact h
          obtain ⟨X, hX⟩ : ∃ X, X = (wsh F R 6 6 (bits 0) (-1)).1 := ⟨_, rfl⟩
          obtain ⟨L, hL⟩ : ∃ L, L = (wsh F R 6 6 (bits 0) (-1)).2 := ⟨_, rfl⟩
          rw [← hX, ← hL] at HO
          have HLEN : Hid (L.length = 6) := by show _ = _; rw [hL]; exact (wsh_len HG2.out.f HG2.out.g.c freeN_zero).1
          have HWA : Hid (∀ (_ : True) (w' : World) (_ : True) (hf : Flat w' 1 encInt (some ⟨bf, foff, none⟩) F) (hx : Rows1 w' 1 encInt (some ⟨g, 0, none⟩) R), Calls Try.prog 32 #[.slice (some ⟨bf, foff, none⟩) 6 ca, .slice (some ⟨g, 0, none⟩) 6 cl, .int .i64 (-1), .slice (some ⟨w'.heap.size, 0, none⟩) 6 6] (w'.alloc (.cells (madeArr (.bool false) 6) 4)) fun e w'' => ∃ ov cv, e = .returned (.tuple #[.int .i64 X, .slice ov 6 cv]) ∧ Below w'.heap.size w' w'' ∧ Flat w'' 1 encInt ov L) := by
            intro _ w' _ hf hx
            refine (washed_any bf foff ca g 0 cl F R 6 w'.heap.size w' HG2.out hf hx (Nat.le_refl _) 6 (bits 0) (-1) (w'.alloc (.cells (madeArr (.bool false) 6) 4)) freeN_zero (.inl rfl) (by rw [World.size_alloc]; omega) (balloc (Below.refl _ _) _) (by rw [bits_zero]; exact FTab.made Value.bool w' 6 false 4)).mono ?_
            rintro e w'' ⟨ov, cv, rfl, hb, _, ho⟩
            rw [← hX]
            rw [← hL] at ho
            obtain ⟨ov9, cv9, e9, hf9⟩ := ho.flatW (k := 6) HLEN.out
            cases e9
            exact ⟨ov, cv, rfl, (balloc (Below.refl _ _) _).trans (hb.below (by rw [World.size_alloc]; omega)), hf9⟩
          have mk : ∀ w : World, (Instr.makeSlice 33 (.int .i64 (6 : Int)) (.int .i64 (6 : Int))).run Try.prog w = .ok (.slice (some ⟨w.heap.size, 0, none⟩) 6 6) (w.alloc (.cells (madeArr (.bool false) 6) 4)) := run_makeArr (P := Try.prog) elemBool Try.underlying33 (.bool false) rfl 6 (by omega) (by omega)
          have tx : (X == X) = true := by simp
          clear hX hL
          go_wp2_with (first | (go_at_call 29; (with_reducible refine (HO.out trivial _ trivial HCW.out.f HCW.out.r).mono ?_); rintro e w5' ⟨oc, cc, rfl, hfc, hb5⟩; have HCW5 : Hid (CutW w w5' (some ⟨bf, foff, none⟩) (some ⟨g, 0, none⟩) F R) := (by exact ⟨bthen HCW.out.bel hb5, HCW.out.f.below hb5, HCW.out.r.below hb5⟩); have HFC := Lib.hid hfc; clear hfc hb5) | (go_at_call 30; (with_reducible refine (HE.out trivial _ trivial HCW5.out.f HCW5.out.r).mono ?_); rintro e w6 ⟨rfl, hb6⟩; have HCW6 : Hid (CutW w w6 (some ⟨bf, foff, none⟩) (some ⟨g, 0, none⟩) F R) := (by exact ⟨bthen HCW5.out.bel hb6, HCW5.out.f.below hb6, HCW5.out.r.below hb6⟩); have HFC6 := Lib.hid (HFC.out.below hb6); clear hb6) | (go_at_call 31; (with_reducible refine (HK.out trivial _ trivial HCW6.out.f HCW6.out.r).mono ?_); rintro e w' ⟨rfl, rfl⟩) | (go_at_call 32; (with_reducible refine (HWA.out trivial _ trivial HCW6.out.f HCW6.out.r).mono ?_); rintro e w7 ⟨ov, cv, rfl, hb7, hfv⟩; have HB7 := Lib.hid hb7; have HFV := Lib.hid hfv; have HFC7 := Lib.hid (HFC6.out.below hb7); clear hb7 hfv) | (go_at_call 28; (with_reducible refine (same_L _ _ _ _ _ _ _ HLEN.out (by omega) HFC7.out HFV.out).mono ?_); rintro e w8 ⟨rfl, hb8⟩))
          go_ret
          exact ⟨rfl, bthen (bthen HCW6.out.bel HB7.out) hb8⟩
        · obtain ⟨ol, cl, rfl, hcl, hsome, hrw⟩ := HeadTo.rows hht (by rw [cut7_length, ← HNW.out]; omega) hown (Below.refl _ _)
          rw [show min N 7 = N by omega] at hcl ⊢
          have HCW : Hid (CutW w wr oa ol F R) := ⟨bthen HB1.out HBr.out, HFL.out.below (bthen HB1.out HBr.out), hrw.cut (by rw [HR.out, cut6_length, cut7_length]; omega) (fun i h1 h2 => by have e := HR.out; subst e; exact cut6_cut7 h1 h2)⟩
          have td4 : decide ((6 : Int) < (N : Int)) = false := decide_eq_false (by omega)
          have td5 : decide (6 < N) = false := decide_eq_false (by omega)
          have HRL : Hid (R.length = N) := by show _ = _; rw [HR.out, cut6_length, ← HNW.out]; omega
          clear hht hown hrw hsome
          obtain rfl : N = n1 := by have a := HG.out.wl; have b := HG.out.fl; have c := HRL.out; have d := HFN.out; omega
          have HG2 : Hid (GoodWash F R N) := by have h := HG.out; rw [HFN.out] at h; exact h
          obtain ⟨g, goff, rfl⟩ : ∃ g goff, ol = some ⟨g, goff, none⟩ := HCW.out.r.some (by rw [HRL.out]; have := HG2.out.g.r1; rw [HG2.out.wl] at this; omega)
          obtain ⟨bf, foff, rfl⟩ : ∃ bf foff, oa = some ⟨bf, foff, none⟩ := by obtain ⟨b, off, e, _⟩ := HCW.out.f.int (i := 0) (by rw [HFN.out]; have := HG2.out.g.r1; rw [HG2.out.wl] at this; omega); exact ⟨b, off, e⟩
          have hn6 : 1 ≤ N ∧ N ≤ 6 := by have a := HG2.out.g.r1; rw [HG2.out.wl] at a; omega
          have HO := Lib.hid (fun (_ : True) (w' : World) (_ : True) (hf : Flat w' 1 encInt (some ⟨bf, foff, none⟩) F) (hx : Rows1 w' 1 encInt (some ⟨g, goff, none⟩) R) => order_ok bf foff ca g goff cl F R N w' HG2.out hf hx HW0.out)
          have HE : Hid (∀ (_ : True) (w' : World) (_ : True) (hf : Flat w' 1 encInt (some ⟨bf, foff, none⟩) F) (hx : Rows1 w' 1 encInt (some ⟨g, goff, none⟩) R), Calls Try.prog 30 #[.slice (some ⟨bf, foff, none⟩) N ca, .slice (some ⟨g, goff, none⟩) N cl] w' fun e w'' => e = .returned (.int .i64 0) ∧ Below w'.heap.size w' w'') := by
            intro _ w' _ hf hx
            have h := washErrN (some ⟨bf, foff, none⟩) (some ⟨g, goff, none⟩) F R N N ca cl w' HFN.out.symm HRL.out.symm (by unfold maxLen; omega) (by unfold maxLen; omega) (fun h => by cases h) hf hx
            rw [HW0.out] at h
            exact h
          have HK : Hid (∀ (_ : True) (w' : World) (_ : True) (hf : Flat w' 1 encInt (some ⟨bf, foff, none⟩) F) (hx : Rows1 w' 1 encInt (some ⟨g, goff, none⟩) R), Calls Try.prog 31 #[.slice (some ⟨bf, foff, none⟩) N ca, .slice (some ⟨g, goff, none⟩) N cl] w' fun e w'' => e = .returned (.int .i64 0) ∧ w' = w'') := by
            intro _ w' _ hf hx
            have h := checkWN (some ⟨bf, foff, none⟩) (some ⟨g, goff, none⟩) F R N N ca cl w' HFN.out.symm HRL.out.symm (by unfold maxLen; omega) (by unfold maxLen; omega) hf hx
            rw [HW0.out] at h
            exact h
          obtain ⟨X, hX⟩ : ∃ X, X = (wsh F R N N (bits 0) (-1)).1 := ⟨_, rfl⟩
          obtain ⟨L, hL⟩ : ∃ L, L = (wsh F R N N (bits 0) (-1)).2 := ⟨_, rfl⟩
          rw [← hX, ← hL] at HO
          have HLEN : Hid (L.length = N) := by show _ = _; rw [hL]; exact (wsh_len HG2.out.f HG2.out.g.c freeN_zero).1
          have HWA : Hid (∀ (_ : True) (w' : World) (_ : True) (hf : Flat w' 1 encInt (some ⟨bf, foff, none⟩) F) (hx : Rows1 w' 1 encInt (some ⟨g, goff, none⟩) R), Calls Try.prog 32 #[.slice (some ⟨bf, foff, none⟩) N ca, .slice (some ⟨g, goff, none⟩) N cl, .int .i64 (-1), .slice (some ⟨w'.heap.size, 0, none⟩) N N] (w'.alloc (.cells (madeArr (.bool false) N) 4)) fun e w'' => ∃ ov cv, e = .returned (.tuple #[.int .i64 X, .slice ov N cv]) ∧ Below w'.heap.size w' w'' ∧ Flat w'' 1 encInt ov L) := by
            intro _ w' _ hf hx
            refine (washed_any bf foff ca g goff cl F R N w'.heap.size w' HG2.out hf hx (Nat.le_refl _) N (bits 0) (-1) (w'.alloc (.cells (madeArr (.bool false) N) 4)) freeN_zero (.inl rfl) (by rw [World.size_alloc]; omega) (balloc (Below.refl _ _) _) (by rw [bits_zero]; exact FTab.made Value.bool w' N false 4)).mono ?_
            rintro e w'' ⟨ov, cv, rfl, hb, _, ho⟩
            rw [← hX]
            rw [← hL] at ho
            obtain ⟨ov9, cv9, e9, hf9⟩ := ho.flatW (k := N) HLEN.out
            cases e9
            exact ⟨ov, cv, rfl, (balloc (Below.refl _ _) _).trans (hb.below (by rw [World.size_alloc]; omega)), hf9⟩
          have mk : ∀ w : World, (Instr.makeSlice 33 (.int .i64 (N : Int)) (.int .i64 (N : Int))).run Try.prog w = .ok (.slice (some ⟨w.heap.size, 0, none⟩) N N) (w.alloc (.cells (madeArr (.bool false) N) 4)) := run_makeArr (P := Try.prog) elemBool Try.underlying33 (.bool false) rfl N (by omega) (by omega)
          have tx : (X == X) = true := by simp
          clear hX hL
          have td6 : ¬ (N : Int) < (N : Int) := by omega
          have td7 : decide ((N : Int) < (N : Int)) = false := decide_eq_false (by omega)
          go_wp2_with (first | (go_at_call 29; (with_reducible refine (HO.out trivial _ trivial HCW.out.f HCW.out.r).mono ?_); rintro e w5' ⟨oc, cc, rfl, hfc, hb5⟩; have HCW5 : Hid (CutW w w5' (some ⟨bf, foff, none⟩) (some ⟨g, goff, none⟩) F R) := (by exact ⟨bthen HCW.out.bel hb5, HCW.out.f.below hb5, HCW.out.r.below hb5⟩); have HFC := Lib.hid hfc; clear hfc hb5) | (go_at_call 30; (with_reducible refine (HE.out trivial _ trivial HCW5.out.f HCW5.out.r).mono ?_); rintro e w6 ⟨rfl, hb6⟩; have HCW6 : Hid (CutW w w6 (some ⟨bf, foff, none⟩) (some ⟨g, goff, none⟩) F R) := (by exact ⟨bthen HCW5.out.bel hb6, HCW5.out.f.below hb6, HCW5.out.r.below hb6⟩); have HFC6 := Lib.hid (HFC.out.below hb6); clear hb6) | (go_at_call 31; (with_reducible refine (HK.out trivial _ trivial HCW6.out.f HCW6.out.r).mono ?_); rintro e w' ⟨rfl, rfl⟩) | (go_at_call 32; (with_reducible refine (HWA.out trivial _ trivial HCW6.out.f HCW6.out.r).mono ?_); rintro e w7 ⟨ov, cv, rfl, hb7, hfv⟩; have HB7 := Lib.hid hb7; have HFV := Lib.hid hfv; have HFC7 := Lib.hid (HFC6.out.below hb7); clear hb7 hfv) | (go_at_call 28; (with_reducible refine (same_L _ _ _ _ _ _ _ HLEN.out (by omega) HFC7.out HFV.out).mono ?_); rintro e w8 ⟨rfl, hb8⟩))
          go_ret
          exact ⟨rfl, bthen (bthen HCW6.out.bel HB7.out) hb8⟩
end Go.Proofs.Ytjggcnpnjnmamaa
