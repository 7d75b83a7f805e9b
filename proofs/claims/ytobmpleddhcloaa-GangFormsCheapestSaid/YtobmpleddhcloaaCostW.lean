/-
  The walk of the reference's FormsCost. Own text.
-/
import Derived.Test.YtobmpleddhcloaaCostV2
import Derived.Test.YtobmpleddhcloaaGang2
import Derived.Test.YtobmpleddhcloaaCloneG
import Derived.RegionTactic
import Derived.BigRegion
import Derived.BigQuiet
import Derived.Handy
namespace Go.Proofs.Ytobmpleddhcloaa
open Go.RowKit
set_option linter.unusedVariables false
/-- An owned row under an insertion. -/
def InsAt (w : World) (base g cap n : Nat) (lt : Int → Int → Bool) (x : Int) (L R : List Int) (j : Nat) (W : World) : Prop :=
  ∃ A, Arr W base 3 (Value.int .i64) g cap A ∧ A.length = n ∧ Ins lt x L R j A ∧ Below w.heap.size w W
def SortAt (w : World) (base g cap n : Nat) (A : List Int) (W : World) : Prop := Arr W base 3 (Value.int .i64) g cap A ∧ A.length = n ∧ Below w.heap.size w W
theorem InsAt.drew {w : World} {base g cap n j : Nat} {lt : Int → Int → Bool} {x : Int} {L R : List Int} {W : World} (h : InsAt w base g cap n lt x L R j W) : InsAt w base g cap n lt x L R j W.drew := by
  obtain ⟨A, h1, h2, h3, h4⟩ := h
  exact ⟨A, h1.drew, h2, h3, h4.drew⟩
theorem SortAt.drewN {w : World} {base g cap n : Nat} {A : List Int} {W : World} (h : SortAt w base g cap n A W) (k : Nat) : SortAt w base g cap n A (W.drewN k) := ⟨h.1.drewN k, h.2.1, bdrewN h.2.2 k⟩
theorem wrap62 (x : Int) (h0 : 0 ≤ x) (h1 : x < 2 ^ 62) : IntKind.i64.wrap x = x := IntWalk.i64_in _ (by omega)
theorem lt62 {s : Nat} (h : s ≤ 100000) : s < 2 ^ 62 := by omega
theorem bit_and (s j : Nat) (hs : s ≤ 100000) : Go.bits BinOp.and IntKind.i64 ((s : Int) / 2 ^ j) 1 = ((s / 2 ^ j % 2 : Nat) : Int) := by
  have e : (s : Int) / 2 ^ j = ((s / 2 ^ j : Nat) : Int) := by simp
  have h := (bits_nat .i64 62 (by decide) wrap62 (s / 2 ^ j) 1 (lt62 (Nat.le_trans (Nat.div_le_self _ _) hs)) (by decide)).1
  rw [Nat.and_one_is_mod] at h
  rw [e]
  exact h
theorem bit_yes {s j : Nat} (hs : s ≤ 100000) (h : s.testBit j = true) : (Go.bits BinOp.and IntKind.i64 ((s : Int) / 2 ^ j) 1 == 0) = false := by
  rw [bit_and s j hs]
  rw [Nat.testBit_eq_decide_div_mod_eq] at h
  have h2 := of_decide_eq_true h
  rw [h2]
  rfl
theorem bit_no {s j : Nat} (hs : s ≤ 100000) (h : s.testBit j = false) : (Go.bits BinOp.and IntKind.i64 ((s : Int) / 2 ^ j) 1 == 0) = true := by
  rw [bit_and s j hs]
  rw [Nat.testBit_eq_decide_div_mod_eq] at h
  have h2 := of_decide_eq_false h
  have h3 : s / 2 ^ j % 2 = 0 := by omega
  rw [h3]
  rfl
theorem Arr.cap' {α : Type} {w : World} {base : Nat} {e : TypeId} {f : α → Value} {g cap : Nat} {xs : List α} (h : Arr w base e f g cap xs) : xs.length ≤ cap ∧ cap ≤ maxLen := by
  rcases h.2 with ⟨h1, _⟩ | ⟨g', cap', cur, h1, h2, h3, h4, h5, _⟩
  · cases h1
  · simp only [Value.slice.injEq] at h1
    obtain ⟨_, _, rfl⟩ := h1
    exact ⟨h4, h5⟩
set_option maxRecDepth 100000 in
set_option maxHeartbeats 4000000 in
theorem formsCost_any (od : Option Addr) (ds : List Int) (cd : Nat) (s p : Int) (w : World) (B : Nat → Int) (N : Nat → Nat) (hx : Flat w 1 encInt od ds) (hc : gchk ds s = 0) (hp0 : 0 ≤ p) (hp1 : p ≤ 1048576) (hB : BestFrom (vals ds) s p B N 0) :
    Calls Try.prog 28 #[.slice od ds.length cd, .int .i64 s, .int .i64 p] w fun e w' => e = .returned (.int .i64 (B 0)) ∧ Below w.heap.size w w' := by
  obtain ⟨l1, l2, hd, s1, s2⟩ := gchk_zero hc
  have hb0 := balloc (Below.refl _ w) (.cells #[] 3)
  have hown := Own.lit w w.heap.size 1 encInt [] 3 (fun _ => rfl) (by decide) (Nat.le_refl _)
  have hxa := hx.below hb0
  obtain ⟨b0, o0, e0, _⟩ := hx.int (i := 0) (by omega)
  have HS := Lib.hid (show IsSlice (w.alloc (.cells #[] 3)) 1 encInt (.slice od ds.length cd) ds from ⟨_, _, rfl, (fun h => by rw [e0] at h; cases h), by unfold maxLen; omega, hxa⟩)
  clear hx hxa e0
  obtain ⟨n, hn⟩ : ∃ n : Nat, ds.length = n := ⟨_, rfl⟩
  have HD := Lib.hid hd; clear hd
  have HB := Lib.hid hB; clear hB
  have HC := Lib.hid hc; clear hc
  rw [hn] at l1 l2 HS ⊢
  have HN := Lib.hid hn; clear hn
  go_enter Try.func28, Try.ntmps28
  go_wp2_with (at_builtin; go_must (refine wpList_appRow rfl (.tmp 17) (.tmp 18) 22 rfl elemInt Try.underlying22 w.heap.size _ [] encInt rfl hown ds _ rfl HS.out (fun _ => rfl) ?c1 ?c2 ?c3 ?c4 ?_))
  case c1 => intro y; simp [encInt, Value.oneCell']
  case c2 => have := HN.out; simp; omega
  case c3 => have := HN.out; simp; unfold maxLen; omega
  case c4 => simp
  intro v' w1 hown1 hg1
  obtain ⟨g, cap, rfl, hA⟩ := Own.arr (xs := ds) hown1 (by rw [HN.out]; exact l1)
  rw [HN.out]
  have H0 : Hid (SortAt w w.heap.size g cap n (sortTo gtB ds 0 ++ ds.drop 0) w1) := ⟨hA, HN.out, hown.grown hb0 (Nat.le_refl _) hg1⟩
  clear hA hown1 hg1 hown hb0 HS
  go_wp2_with fail
  go_loopw [22] (fun t wr => ∃ i : Nat, i ≤ n ∧ t = .int .i64 i ∧ Hid (SortAt w w.heap.size g cap n (sortTo gtB ds i ++ ds.drop i) wr)) (fun t _ => n - (intOf t).toNat)
  case atStart => exact ⟨0, by omega, rfl, H0⟩
  case round =>
    clear H0
    obtain ⟨i, hi, rfl, HI⟩ := hrel
    by_cases hlt : i < n
    · have hid : i < ds.length := by rw [HN.out]; exact hlt
      have hLl : (sortTo gtB ds i).length = i := sortTo_len _ _ _
      have hstart : Hid (InsAt w w.heap.size g cap n gtB ds[i] (sortTo gtB ds i) (ds.drop (i + 1)) i wr) := by
        obtain ⟨h1, h2, h3⟩ := HI.out
        refine ⟨_, h1, h2, ?_, h3⟩
        rw [List.drop_eq_getElem_cons hid]
        have := Ins.start (lt := gtB) (x := ds[i]) (L := sortTo gtB ds i) (R := ds.drop (i + 1))
        rwa [hLl] at this
      clear HI
      have hsucc : Hid (sortTo gtB ds (i + 1) ++ ds.drop (i + 1) = insL gtB ds[i] (sortTo gtB ds i) ++ ds.drop (i + 1)) := by
        show insL gtB (ds.getD i default) _ ++ _ = _
        rw [getD_at hid]
      generalize ds[i] = x at *
      generalize sortTo gtB ds i = L at *
      obtain ⟨wo, rfl⟩ : ∃ wo : World, wo = wr := ⟨_, rfl⟩
      go_wp2_with fail
      go_loopw [9] (fun t wr => ∃ j : Nat, j ≤ i ∧ t = .int .i64 j ∧ Hid (InsAt w w.heap.size g cap n gtB x L (ds.drop (i + 1)) j wr)) (fun t _ => (intOf t).toNat)
      case atStart => exact ⟨i, Nat.le_refl _, rfl, hstart⟩
      case round =>
        clear hstart
        obtain ⟨j, hj, rfl, HJ⟩ := hrel
        cases j with
        | zero =>
          have HE : Hid (SortAt w w.heap.size g cap n (sortTo gtB ds (i + 1) ++ ds.drop (i + 1)) wr) := by
            obtain ⟨A, h1, h2, h3, h4⟩ := HJ.out
            rw [hsucc.out, ← h3.zero]
            exact ⟨h1, h2, h4⟩
          clear HJ
          go_wp2
          go_quiet (fail)
          go_wp2
          go_roundw
          case rel => exact ⟨i + 1, by omega, by go_num, HE.out.drewN _⟩
          case measure => simp [intOf]; omega
        | succ q =>
          obtain ⟨A, h1, h2, h3, h4⟩ := HJ.out
          have hqL : q < L.length := by omega
          obtain ⟨a1, a2⟩ := getElem_of h3.at'
          obtain ⟨a3, a4⟩ := getElem_of (h3.prev hqL)
          have t1 : wr.cell? ⟨g, q + 1, none⟩ = some (.int .i64 x) := by rw [← a2]; exact h1.cell a1
          have t2 : wr.cell? ⟨g, q, none⟩ = some (.int .i64 L[q]) := by rw [← a4]; exact h1.cell a3
          have f1 := h1.frozen (q + 1)
          have f2 := h1.frozen q
          have hq1 : (((q + 1 : Nat) : Int) - 1) = (q : Int) := by omega
          have hq2 : ((q + 1 : Nat) : Int) = (q : Int) + 1 := by omega
          have HH := Lib.hid (And.intro h1 (And.intro h2 (And.intro h3 h4)))
          clear h1 h2 h3 h4 a1 a2 a3 a4 HJ
          by_cases hgt : L[q] < x
          · have HE : Hid (∀ k, InsAt w w.heap.size g cap n gtB x L (ds.drop (i + 1)) q (((wr.drewN k).setCell ⟨g, q + 1, none⟩ (.int .i64 L[q])).setCell ⟨g, q, none⟩ (.int .i64 x))) := fun k => by
              obtain ⟨h1, h2, h3, h4⟩ := HH.out
              replace h1 := h1.drewN k
              replace h4 := bdrewN h4 k
              refine ⟨_, (h1.set (q + 1) L[q]).set q x, by simp [h2], h3.step hqL (decide_eq_true hgt), ?_⟩
              exact (h1.set (q + 1) L[q]).setBelow (h1.setBelow h4 (Nat.le_refl _) _ _) (Nat.le_refl _) _ _
            have b1 : (0 : Int) ≤ (q : Int) := by omega
            have b2 : (q : Int) < (n : Int) := by omega
            have b3 : (q : Int) + 1 < (n : Int) := by have := HH.out; omega
            have b4 : (0 : Int) < (q : Int) + 1 := by omega
            generalize L[q] = y at *
            rw [hq2]
            go_wp2
            go_quiet (fail)
            go_wp2
            go_region
            all_goals
              go_wp2
              go_roundw
              case rel => exact ⟨q, by omega, by go_num, by first | exact HE.out _ | exact (HE.out _).drew⟩
              case measure => simp [intOf]
          · have HE : Hid (SortAt w w.heap.size g cap n (sortTo gtB ds (i + 1) ++ ds.drop (i + 1)) wr) := by
              obtain ⟨h1, h2, h3, h4⟩ := HH.out
              rw [hsucc.out, ← h3.stop hqL (by simpa [gtB] using hgt)]
              exact ⟨h1, h2, h4⟩
            generalize L[q] = y at *
            rw [hq2]
            go_wp2
            go_quiet (fail)
            go_wp2
            go_roundw
            case rel => exact ⟨i + 1, by omega, by go_num, HE.out.drewN _⟩
            case measure => simp [intOf]; omega
    · obtain rfl : i = n := by omega
      have HV : Hid (Arr wr w.heap.size 3 (Value.int .i64) g cap (vals ds) ∧ (vals ds).length = i ∧ Below w.heap.size w wr) := by
        obtain ⟨h1, h2, h3⟩ := HI.out
        have e : sortTo gtB ds i ++ ds.drop i = vals ds := by
          rw [vals_eq, HN.out, List.drop_of_length_le (by rw [HN.out]; exact Nat.le_refl _), List.append_nil]
        rw [e] at h1 h2
        exact ⟨h1, h2, h3⟩
      have HDV : Hid (Demands (vals ds)) := vals_demands HD.out
      clear HI HD
      generalize vals ds = V at *
      obtain ⟨n1, hn1⟩ : ∃ n1, i = n1 + 1 := ⟨i - 1, by omega⟩
      have g1 : IntKind.i64.wrap ((i : Int) - 1) = (n1 : Int) := by rw [IntWalk.i64_in _ (by omega)]; omega
      have hin1 : (i : Int) - 1 = (n1 : Int) := by omega
      replace hn1 := Lib.hid hn1
      obtain ⟨M, hM⟩ : ∃ M, M = 2 ^ n1 := ⟨_, rfl⟩
      have hM1 : M ≤ 2048 := by
        have : 2 ^ n1 ≤ 2 ^ 11 := Nat.pow_le_pow_right (by omega) (by omega)
        rw [hM]
        exact this
      have hM2 : wrap64 (2 ^ n1) = (M : Int) := by
        have e : ((2 : Int) ^ n1) = (M : Int) := by rw [hM]; simp
        rw [e]
        exact IntWalk.wrap64_in (M : Int) (by omega)
      have HM : Hid (M = 2 ^ (V.length - 1)) := by
        have h1 := HV.out.2.1
        have h2 := hn1.out
        show M = _
        rw [hM, h1, h2]
        rfl
      clear hM
      have hcap := HV.out.1.cap'
      rw [HV.out.2.1] at hcap
      have hcap1 := hcap.1
      clear hcap
      go_wp2
      rw [hM2]
      go_loop [10, 63] (fun b t => ∃ (q : Nat) (bb : Int), q ≤ M ∧ t = .int .i64 q ∧ b = .int .i64 bb ∧ Hid (MaskBest V s p q bb)) (fun _ t => M - (intOf t).toNat)
      case atStart => exact ⟨0, -1, by omega, rfl, rfl, MaskBest.start V s p⟩
      case round =>
        obtain ⟨q, bb, hq, rfl, rfl, HQ⟩ := hrel
        have hbb := HQ.out.bd
        rw [HV.out.2.1] at hbb
        by_cases hqM : q < M
        · go_wp2
          go_loop [12, 13, 14, 68] (fun c f o t => ∃ (k : Nat) (cc : Int) (fr : Nat) (ok : Bool), k ≤ i ∧ t = .int .i64 k ∧ c = .int .i64 cc ∧ f = .int .i64 fr ∧ o = .bool ok ∧ Hid (cutTo V s p q.testBit k = (cc, fr, ok))) (fun _ _ _ t => i - (intOf t).toNat)
          case atStart => exact ⟨0, 0, 0, true, by omega, rfl, rfl, rfl, rfl, rfl⟩
          case round =>
            obtain ⟨k, cc, fr, ok, hk, rfl, rfl, rfl, rfl, HK⟩ := hrel
            have hbd := cutTo_bd (s := s) HDV.out ⟨hp0, hp1⟩ q.testBit k (by rw [HV.out.2.1]; exact hk)
            rw [HK.out] at hbd
            have hbd1 : fr ≤ k := hbd.1
            have hbd2 : 0 ≤ cc := hbd.2.1
            have hbd3 : cc ≤ k * 2097152 := hbd.2.2
            clear hbd
            by_cases hlt : k < i
            · by_cases hcond : k + 1 < i ∧ q.testBit k = false
              · have hbit := bit_no (s := q) (j := k) (by omega) hcond.2
                have hk1 : (k : Int) + 1 < (i : Int) := by omega
                have HNEW : Hid (cutTo V s p q.testBit (k + 1) = (cc, fr, ok)) := by
                  show _ = _
                  rw [cutTo_skip (by rw [HV.out.2.1]; exact hcond.1) hcond.2]
                  exact HK.out
                clear hcond
                go_wp2
                go_round
                case rel => exact ⟨k + 1, cc, fr, ok, by omega, by go_num, rfl, rfl, rfl, HNEW⟩
                case measure => simp [intOf]; omega
              · obtain ⟨k1, hk1⟩ : ∃ k1, k1 = k + 1 := ⟨_, rfl⟩
                have g2 : IntKind.i64.wrap ((k : Int) + 1) = (k1 : Int) := by rw [IntWalk.i64_in _ (by omega)]; omega
                obtain ⟨R, hR⟩ : ∃ R, R = runV V s fr k1 := ⟨_, rfl⟩
                have hrf := runV_fit (s := s) HDV.out (show fr ≤ k1 by omega) (by rw [HV.out.2.1]; omega)
                rw [← hR] at hrf
                have hr1 := hrf.1
                have hr2 := hrf.2.1
                clear hrf
                have HNEW : Hid (cutTo V s p q.testBit k1 = (cc + (p + R), k1, ok && decide (0 < R))) := by
                  show _ = _
                  rw [hk1, cutTo_cut (by rw [HV.out.2.1]; exact hcond), HK.out, ← hk1, hR]
                have hsl : (seg V fr k1).length = k1 - fr := seg_len (by omega) (by rw [HV.out.2.1]; omega)
                have hrun : Calls Try.prog 14 #[.slice (some ⟨g, fr, none⟩) (k1 - fr) (cap - fr), .int .i64 s] wr fun e w' => e = .returned (.int .i64 R) ∧ wr = w' := by
                  have hfl := Flat.cut (show Flat wr 1 encInt (some ⟨g, 0, none⟩) V from HV.out.1.flat) fr (k1 - fr)
                  rw [Nat.mul_one, Nat.zero_add] at hfl
                  have := shortestRun_any (some ⟨g, fr, none⟩) (seg V fr k1) (cap - fr) s wr (by omega) (by omega) hfl (fun d hd => HDV.out d (seg_mem hd)) s1 s2
                  rw [hsl] at this
                  rw [hR]
                  exact this
                have HRUN := Lib.hid hrun
                clear hrun hsl hR HK
                have c1 : (fr : Int) ≤ (k1 : Int) := by omega
                have c2 : (k1 : Int) ≤ (cap : Int) := by omega
                have c3 : ¬ cap = fr := by omega
                have hcase : k + 1 = i ∨ (k + 1 < i ∧ q.testBit k = true) := by
                  by_cases e : k + 1 < i
                  · right
                    refine ⟨e, ?_⟩
                    cases hb : q.testBit k with
                    | true => rfl
                    | false => exact absurd ⟨e, hb⟩ hcond
                  · left; omega
                clear hcond
                have hoks : ok = false ∨ (ok = true ∧ 0 < R) ∨ (ok = true ∧ R = 0) := by
                  cases ok with
                  | false => left; rfl
                  | true => right; by_cases e : 0 < R
                            · left; exact ⟨rfl, e⟩
                            · right; exact ⟨rfl, by omega⟩
                rcases hcase with hkn | ⟨hkn, hbit⟩
                · have hk2 : ¬ (k1 : Int) < (i : Int) := by omega
                  have hk3 : k1 ≤ i := by omega
                  have hk4 : k < k1 := by omega
                  replace hkn := Lib.hid hkn
                  replace hk1 := Lib.hid hk1
                  rcases hoks with rfl | ⟨rfl, hR0⟩ | ⟨rfl, hR0⟩
                  · have HN2 : Hid (cutTo V s p q.testBit k1 = (cc + (p + R), k1, false)) := HNEW.out
                    clear HNEW
                    go_wp2_with (go_at_call 14; refine HRUN.out.mono ?_; rintro e w' ⟨rfl, rfl⟩)
                    go_round
                    case rel => exact ⟨k1, cc + (p + R), k1, false, hk3, rfl, rfl, rfl, by first | rfl | rw [decide_eq_false (by omega)], HN2⟩
                    case measure => simp [intOf]; omega
                  · have HN2 : Hid (cutTo V s p q.testBit k1 = (cc + (p + R), k1, true)) := by
                      have h := HNEW.out
                      rw [decide_eq_true hR0] at h
                      exact h
                    clear HNEW
                    go_wp2_with (go_at_call 14; refine HRUN.out.mono ?_; rintro e w' ⟨rfl, rfl⟩)
                    go_round
                    case rel => exact ⟨k1, cc + (p + R), k1, true, hk3, rfl, rfl, rfl, rfl, HN2⟩
                    case measure => simp [intOf]; omega
                  · have HN2 : Hid (cutTo V s p q.testBit k1 = (cc + (p + R), k1, false)) := by
                      have h := HNEW.out
                      rw [decide_eq_false (by omega)] at h
                      exact h
                    clear HNEW
                    have hR1 : ¬ 0 < R := by omega
                    replace hR0 := Lib.hid hR0
                    go_wp2_with (go_at_call 14; refine HRUN.out.mono ?_; rintro e w' ⟨rfl, rfl⟩)
                    go_round
                    case rel => exact ⟨k1, cc + (p + R), k1, false, hk3, rfl, rfl, rfl, by first | rfl | rw [decide_eq_false (by omega)], HN2⟩
                    case measure => simp [intOf]; omega
                · have hk2 : (k1 : Int) < (i : Int) := by omega
                  have hk3 : k1 ≤ i := by omega
                  have hk4 : k < k1 := by omega
                  replace hkn := Lib.hid hkn
                  replace hk1 := Lib.hid hk1
                  replace hbit := bit_yes (s := q) (j := k) (by omega) hbit
                  rcases hoks with rfl | ⟨rfl, hR0⟩ | ⟨rfl, hR0⟩
                  · have HN2 : Hid (cutTo V s p q.testBit k1 = (cc + (p + R), k1, false)) := HNEW.out
                    clear HNEW
                    go_wp2_with (go_at_call 14; refine HRUN.out.mono ?_; rintro e w' ⟨rfl, rfl⟩)
                    go_round
                    case rel => exact ⟨k1, cc + (p + R), k1, false, hk3, rfl, rfl, rfl, by first | rfl | rw [decide_eq_false (by omega)], HN2⟩
                    case measure => simp [intOf]; omega
                  · have HN2 : Hid (cutTo V s p q.testBit k1 = (cc + (p + R), k1, true)) := by
                      have h := HNEW.out
                      rw [decide_eq_true hR0] at h
                      exact h
                    clear HNEW
                    go_wp2_with (go_at_call 14; refine HRUN.out.mono ?_; rintro e w' ⟨rfl, rfl⟩)
                    go_round
                    case rel => exact ⟨k1, cc + (p + R), k1, true, hk3, rfl, rfl, rfl, rfl, HN2⟩
                    case measure => simp [intOf]; omega
                  · have HN2 : Hid (cutTo V s p q.testBit k1 = (cc + (p + R), k1, false)) := by
                      have h := HNEW.out
                      rw [decide_eq_false (by omega)] at h
                      exact h
                    clear HNEW
                    have hR1 : ¬ 0 < R := by omega
                    replace hR0 := Lib.hid hR0
                    go_wp2_with (go_at_call 14; refine HRUN.out.mono ?_; rintro e w' ⟨rfl, rfl⟩)
                    go_round
                    case rel => exact ⟨k1, cc + (p + R), k1, false, hk3, rfl, rfl, rfl, by first | rfl | rw [decide_eq_false (by omega)], HN2⟩
                    case measure => simp [intOf]; omega
            · obtain rfl : k = i := by omega
              have HE : Hid (cutTo V s p q.testBit V.length = (cc, fr, ok)) := by rw [HV.out.2.1]; exact HK.out
              have hV1 : Hid (1 ≤ V.length) := by have := HV.out.2.1; show 1 ≤ V.length; omega
              clear HK
              cases ok with
              | false =>
                have HN : Hid (MaskBest V s p (q + 1) bb) := HQ.out.no (by rw [HE.out])
                go_wp2
                go_round
                case rel => exact ⟨q + 1, bb, by omega, by go_num, rfl, HN⟩
                case measure => simp [intOf]; omega
              | true =>
                by_cases hb0 : bb < 0
                · have HN : Hid (MaskBest V s p (q + 1) cc) := by
                    have := HQ.out.take HDV.out ⟨hp0, hp1⟩ hV1.out (by rw [HE.out]) (.inl hb0)
                    rwa [HE.out] at this
                  go_wp2
                  go_round
                  case rel => exact ⟨q + 1, cc, by omega, by go_num, rfl, HN⟩
                  case measure => simp [intOf]; omega
                · by_cases hcb : cc < bb
                  · have HN : Hid (MaskBest V s p (q + 1) cc) := by
                      have := HQ.out.take HDV.out ⟨hp0, hp1⟩ hV1.out (by rw [HE.out]) (.inr (by rw [HE.out]; exact hcb))
                      rwa [HE.out] at this
                    go_wp2
                    go_round
                    case rel => exact ⟨q + 1, cc, by omega, by go_num, rfl, HN⟩
                    case measure => simp [intOf]; omega
                  · have HN : Hid (MaskBest V s p (q + 1) bb) := HQ.out.keep (by omega) (by rw [HE.out]; show bb ≤ cc; omega)
                    go_wp2
                    go_round
                    case rel => exact ⟨q + 1, bb, by omega, by go_num, rfl, HN⟩
                    case measure => simp [intOf]; omega
        · obtain rfl : q = M := by omega
          have hV1 : 1 ≤ V.length := by have := HV.out.2.1; omega
          have HE : Hid (bb = B 0) := by
            have h := HQ.out
            rw [HM.out] at h
            exact h.done HDV.out hV1 HB.out
          go_wp2
          go_ret
          exact ⟨by rw [HE.out]; rfl, HV.out.2.2⟩
end Go.Proofs.Ytobmpleddhcloaa
