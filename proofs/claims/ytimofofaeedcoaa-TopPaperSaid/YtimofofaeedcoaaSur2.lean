/-
  The walk of gang.Surplus. Own text.
-/
import Derived.Test.YtimofofaeedcoaaSur
namespace Go.Proofs.Ytimofofaeedcoaa
open Go.RowKit
set_option linter.unusedVariables false
theorem gKeepCell {w w' : World} (hb : Below w.heap.size w w') {a : Addr} {v : Value} (h : w.cell? a = some v) : w'.cell? a = some v := by rw [hb.cell (cell?_lt h)]; exact h
def surErr (ds : List Int) (fs : List Form) : Int := if fchk ds fs ≠ 0 then fchk ds fs else if shortB ds fs = true then 0 else 12
/-- Surplus returns an error and no list, or a new list. -/
def RetSur (ds : List Int) (fs : List Form) (w : World) (e : Ending) (w' : World) : Prop :=
  Below w.heap.size w w' ∧ ((surErr ds fs ≠ 0 ∧ e = .returned (.tuple #[.slice none 0 0, .int .i64 (surErr ds fs)])) ∨
    (surErr ds fs = 0 ∧ ∃ oa cap, e = .returned (.tuple #[.slice oa (surV ds fs).length cap, .int .i64 0]) ∧ (surV ds fs).length ≤ maxLen ∧ Flat w' 1 encInt oa (surV ds fs)))
theorem surErr_bad {ds : List Int} {fs : List Form} {c : Int} (h : fchk ds fs = c) (hc : c ≠ 0) : surErr ds fs = c := by unfold surErr; rw [h, if_pos hc]
theorem surErr_short {ds : List Int} {fs : List Form} (h : fchk ds fs = 0) (hc : shortB ds fs = false) : surErr ds fs = 12 := by unfold surErr; rw [h, hc]; rfl
theorem surErr_ok {ds : List Int} {fs : List Form} (h : fchk ds fs = 0) (hc : shortB ds fs = true) : surErr ds fs = 0 := by unfold surErr; rw [h, hc]; rfl
theorem RetSur.err {ds : List Int} {fs : List Form} {w w' : World} {c : Int} (h : surErr ds fs = c) (hc : c ≠ 0) (hb : Below w.heap.size w w') : RetSur ds fs w (.returned (.tuple #[.slice none 0 0, .int .i64 c])) w' :=
  ⟨hb, .inl ⟨by rw [h]; exact hc, by rw [h]⟩⟩
theorem made_length (n : Nat) (l : List (Int × Int)) : (made n l).length = n := tab_length _ _
theorem made_get (n : Nat) (l : List (Int × Int)) (i : Nat) (h : i < (made n l).length) : (made n l)[i] = sumAt l i := tab_get _ _ _ h
theorem subTo_length (ds : List Int) (l : List (Int × Int)) (k : Nat) : (subTo ds l k).length = ds.length := tab_length _ _
theorem subTo_get (ds : List Int) (l : List (Int × Int)) (k : Nat) (h : k < (subTo ds l k).length) : (subTo ds l k)[k] = sumAt l k := (tab_get _ _ k h).trans (by simp)
theorem surV_get (ds : List Int) (fs : List Form) (k : Nat) (h : k < ds.length) (h2 : k < (surV ds fs).length) : (surV ds fs)[k] = sumAt (allItems fs) k - ds[k] := (tab_get _ _ k h2).trans (by simp [h])
theorem shortB_false {ds : List Int} {fs : List Form} {k : Nat} (h : k < ds.length) (hs : sumAt (allItems fs) k - ds[k] < 0) : shortB ds fs = false := by
  have h2 : k < (surV ds fs).length := by unfold surV; rw [subTo_length]; exact h
  unfold shortB
  rw [← Bool.not_eq_true, List.all_eq_true]
  intro ha
  have := of_decide_eq_true (ha _ (List.getElem_mem h2))
  rw [surV_get ds fs k h h2] at this
  omega
theorem shortB_true {ds : List Int} {fs : List Form} (hs : ∀ k (h : k < ds.length), 0 ≤ sumAt (allItems fs) k - ds[k]) : shortB ds fs = true := by
  unfold shortB
  rw [List.all_eq_true]
  intro x hx
  obtain ⟨k, hk, rfl⟩ := List.mem_iff_getElem.1 hx
  have h2 : k < ds.length := by have := hk; unfold surV at this; rw [subTo_length] at this; exact this
  rw [surV_get ds fs k h2 hk]
  exact decide_eq_true (hs k h2)
theorem itemsTo_sum_bd2 {fs : List Form} {n a : Nat} (ha : a ≤ 12) (h : ∀ j (hj : j < fs.length), j < a → formErr n fs[j] = 0) {f : Form} {b : Nat} (hb : b ≤ 12) (hall : AllTo (itemOk n) f.pairs b) (h0 : 0 ≤ f.run) (h1 : f.run ≤ 1048576) (j : Int) :
    0 ≤ sumAt (gItemsTo fs a f b) j ∧ sumAt (gItemsTo fs a f b) j ≤ 156 * 67108864 := by
  have h2 := allItems_bd (fs := fs.take a) (n := n) (fun g hg => by
    obtain ⟨i, hi, rfl⟩ := List.mem_iff_getElem.1 hg
    have hi2 : i < a ∧ i < fs.length := by rw [List.length_take] at hi; omega
    rw [List.getElem_take]
    exact h i hi2.2 hi2.1)
  have hl : (gItemsTo fs a f b).length ≤ 156 := by
    have h3 : (fs.take a).length ≤ 12 := by rw [List.length_take]; omega
    unfold gItemsTo
    rw [List.length_append, List.length_take]
    omega
  have h3 := sumAt_bd (l := gItemsTo fs a f b) (fun p hp => by
    unfold gItemsTo at hp
    rcases List.mem_append.1 hp with hp | hp
    · exact h2.2 p hp
    · unfold Form.items at hp
      rw [← List.map_take] at hp
      obtain ⟨q, hq, rfl⟩ := List.mem_map.1 hp
      obtain ⟨i, hi, rfl⟩ := List.mem_iff_getElem.1 hq
      have hi2 : i < b ∧ i < f.pairs.length := by rw [List.length_take] at hi; omega
      rw [List.getElem_take]
      obtain ⟨_, _, h6, h7⟩ := of_decide_eq_true (hall i hi2.2 hi2.1)
      have := mul_bd f.pairs[i].2 f.run 64 1048576 h6 h7 h0 h1
      exact ⟨this.1, by have := this.2; show f.pairs[i].2 * f.run ≤ _; omega⟩) j
  omega
/-- The table of the call's own, stored at once. -/
structure GTab (w : World) (base g n : Nat) (xs : List Int) : Prop where
  arr : Arr w base 3 (.int .i64) g n xs
  len : xs.length = n
theorem GTab.drew {w : World} {base g n : Nat} {xs : List Int} (h : GTab w base g n xs) : GTab w.drew base g n xs := ⟨h.1.drew, h.2⟩
theorem GTab.stored {w : World} {base g n : Nat} {xs : List Int} (h : GTab w base g n xs) (q : Nat) (y : Int) : GTab (w.setCell ⟨g, q, none⟩ (.int .i64 y)) base g n (xs.set q y) := ⟨h.1.set q y, by rw [List.length_set]; exact h.2⟩
set_option maxRecDepth 100000 in
set_option maxHeartbeats 4000000 in
theorem sur_any (oa ob : Option Addr) (ds : List Int) (fs : List Form) (ca cb : Nat) (w : World) (hm : ds.length ≤ maxLen) (hx : Flat w 1 encInt oa ds) (hm2 : fs.length ≤ maxLen) (hf : FormsAt w ob fs) :
    Calls Try.prog 9 #[.slice oa ds.length ca, .slice ob fs.length cb] w (RetSur ds fs w) := by
  have hm9 : fs.length ≤ 9223372036854775807 := by unfold maxLen at hm2; omega
  by_cases hc : gchk ds 1 = 0
  · obtain ⟨l1, l2, hd, _, _⟩ := gchk_zero hc
    have HC := Lib.hid hc; clear hc
    have HD := Lib.hid hd; clear hd
    by_cases h12 : 12 < fs.length
    · have E : Hid (surErr ds fs = 2) := surErr_bad (by unfold fchk; rw [if_neg (by rw [HC.out]; omega), if_pos h12]) (by omega)
      go_enter Try.func9, Try.ntmps9
      go_wp2_with (go_at_call 13; refine (gcheck_any _ _ _ _ _ hm hx).mono ?_; rintro e w' ⟨rfl, rfl⟩; rw [HC.out])
      go_ret2
      exact RetSur.err E.out (by omega) (Below.refl _ _)
    · have E : Hid (fchk ds fs = formsFirst ds.length fs) := by unfold fchk; rw [if_neg (by rw [HC.out]; omega), if_neg h12]; rfl
      go_enter Try.func9, Try.ntmps9
      go_wp2_with (first | (go_at_call 13; refine (gcheck_any _ _ _ _ _ hm hx).mono ?_; rintro e w' ⟨rfl, rfl⟩; rw [HC.out]) | (at_make; go_must (refine wpList_makeArr rfl (.tmp 23) (.tmp 23) 23 rfl elemInt Try.underlying23 w.heap.size (Value.int .i64) 0 rfl _ _ ds.length rfl rfl rfl rfl ?d1 ?d2 ?d3 ?_)))
      case d1 => omega
      case d2 => exact hm
      case d3 => exact Nat.le_refl _
      intro w1 ha hb1
      have hst : GTab w1 w.heap.size w.heap.size ds.length (made ds.length (allItems (fs.take 0))) := ⟨by rw [show allItems (fs.take 0) = [] from rfl, made_nil]; exact ha, made_length _ _⟩
      clear ha
      go_wp2
      go_loopw [27] (fun i wr => ∃ k : Nat, k ≤ fs.length ∧ i = .int .i64 k ∧ (∀ j (hj : j < fs.length), j < k → formErr ds.length fs[j] = 0) ∧ GTab wr w.heap.size w.heap.size ds.length (made ds.length (allItems (fs.take k))) ∧ Below w.heap.size w wr) (fun i _ => fs.length - (intOf i).toNat)
      case atStart => exact ⟨0, by omega, rfl, fun j _ hj => by omega, hst, hb1⟩
      case round =>
        obtain ⟨k, hk, rfl, hz, hst, hb⟩ := hrel
        have HZ := Lib.hid hz; clear hz
        by_cases hlt : k < fs.length
        · obtain ⟨b, off, oj, cj, ou, cu, rfl, c0', c1', c2', lj, lu, fj, fu⟩ := hf.at hlt
          have c0 := gKeepCell hb c0'
          have c1 := gKeepCell hb c1'
          have c2 := gKeepCell hb c2'
          clear c0' c1' c2'
          by_cases hlen : fs[k].jobs.length ≠ fs[k].ups.length ∨ 12 < fs[k].jobs.length
          · have E2 : Hid (surErr ds fs = 4) := by
              have he : formErr ds.length fs[k] = 4 := by unfold formErr; rw [if_pos hlen]
              exact surErr_bad (by rw [E.out, formsFirst_err hlt HZ.out (by rw [he]; omega), he]) (by omega)
            by_cases hne : fs[k].jobs.length = fs[k].ups.length
            · have h1 : ((fs[k].jobs.length : Int) != (fs[k].ups.length : Int)) = false := by simp [hne]
              have h2 : 12 < fs[k].jobs.length := by omega
              clear hlen hne
              go_wp2
              go_ret2
              exact RetSur.err E2.out (by omega) (balloc hb _)
            · have h1 : ((fs[k].jobs.length : Int) != (fs[k].ups.length : Int)) = true := by simp; omega
              clear hlen hne
              go_wp2
              go_ret2
              exact RetSur.err E2.out (by omega) (balloc hb _)
          · have h1 : ((fs[k].jobs.length : Int) != (fs[k].ups.length : Int)) = false := by simp; omega
            have h2 : fs[k].jobs.length ≤ 12 := by omega
            have h3 : fs[k].ups.length ≤ 12 := by omega
            have HEQ : Hid (fs[k].jobs.length = fs[k].ups.length) := by show _ = _; omega
            have HL := Lib.hid hlen; clear hlen
            by_cases hrun : 0 ≤ fs[k].run ∧ fs[k].run ≤ 1048576
            · obtain ⟨hr0, hr1⟩ := hrun
              obtain ⟨wo, rfl⟩ : ∃ wo : World, wo = wr := ⟨_, rfl⟩
              go_wp2
              have HE0 : Hid (∀ h : fs[k].pairs.all (itemOk ds.length) = true, formErr ds.length fs[k] = 0) := by
                intro h
                unfold formErr
                rw [if_neg HL.out, if_neg (by omega), if_pos h]
              go_loopw [55] (fun i wi => ∃ m : Nat, m ≤ fs[k].jobs.length ∧ i = .int .i64 m ∧ AllTo (itemOk ds.length) fs[k].pairs m ∧ GTab wi w.heap.size w.heap.size ds.length (made ds.length (gItemsTo fs k fs[k] m)) ∧ Below w.heap.size w wi ∧
                wi.cell? ⟨wo.heap.size, 0, none⟩ = some (.slice oj fs[k].jobs.length cj) ∧ wi.cell? ⟨wo.heap.size, 1, none⟩ = some (.slice ou fs[k].ups.length cu) ∧ wi.cell? ⟨wo.heap.size, 2, none⟩ = some (.int .i64 fs[k].run)) (fun i _ => fs[k].jobs.length - (intOf i).toNat)
              case atStart => exact ⟨0, by omega, rfl, AllTo.zero _ _, by rw [itemsTo_zero]; exact ⟨hst.1.alloc _, hst.2⟩, balloc hb _, by go_simp, by go_simp, by go_simp⟩
              case round =>
                obtain ⟨m, hmm, rfl, hall, hst2, hb2, d0, d1, d2⟩ := hrel
                have hpl := pairs_length HEQ.out
                by_cases hlt2 : m < fs[k].jobs.length
                · have hlt3 : m < fs[k].ups.length := by have := HEQ.out; omega
                  have hlt4 : m < fs[k].pairs.length := by omega
                  have hpg := pairs_get hlt4 hlt2 hlt3
                  obtain ⟨bj, offj, rfl, cj0⟩ := (fj.below hb2).int hlt2
                  obtain ⟨bu, offu, rfl, cu0⟩ := (fu.below hb2).int hlt3
                  by_cases hit : itemOk ds.length fs[k].pairs[m] = true
                  · have hall' := hall.succ hlt4 hit
                    rw [hpg] at hit
                    obtain ⟨i1, i2, i3, i4⟩ : 0 ≤ fs[k].jobs[m] ∧ fs[k].jobs[m] < (ds.length : Int) ∧ 0 ≤ fs[k].ups[m] ∧ fs[k].ups[m] ≤ 64 := of_decide_eq_true hit
                    clear hpg hpl hit
                    have E5 := gItemsTo_succ (fs := fs) (a := k) HEQ.out hlt2 hlt3
                    have hprod := mul_bd fs[k].ups[m] fs[k].run 64 1048576 i3 i4 hr0 hr1
                    obtain ⟨q, hq⟩ : ∃ q : Nat, fs[k].jobs[m] = (q : Int) := ⟨fs[k].jobs[m].toNat, by omega⟩
                    rw [hq] at cj0 i1 i2 E5
                    clear hq
                    have hsum := itemsTo_sum_bd2 (fs := fs) (n := ds.length) (a := k) (f := fs[k]) (b := m) (by omega) (fun j hj hjk => HZ.out j hj hjk) (by omega) hall hr0 hr1 q
                    have hql : q < (made ds.length (gItemsTo fs k fs[k] m)).length := by rw [hst2.len]; omega
                    have cm := hst2.arr.cell (i := q) hql
                    rw [made_get] at cm
                    have fz := hst2.arr.frozen q
                    have hst3 := hst2.stored q (sumAt (gItemsTo fs k fs[k] m) q + fs[k].ups[m] * fs[k].run)
                    rw [made_set, ← E5] at hst3
                    have hb3 := hst2.arr.setBelow hb2 (Nat.le_refl _) q (.int .i64 (sumAt (gItemsTo fs k fs[k] m) q + fs[k].ups[m] * fs[k].run))
                    have hne : wo.heap.size ≠ w.heap.size := by have := hst.arr.lt.2; omega
                    have g1 : IntKind.i64.wrap (fs[k].ups[m] * fs[k].run) = fs[k].ups[m] * fs[k].run := IntWalk.i64_in _ (by omega)
                    have g2 : IntKind.i64.wrap (sumAt (gItemsTo fs k fs[k] m) q + fs[k].ups[m] * fs[k].run) = sumAt (gItemsTo fs k fs[k] m) q + fs[k].ups[m] * fs[k].run := IntWalk.i64_in _ (by omega)
                    have hblt := hst2.arr.lt.2
                    have hbo := cell?_lt d0
                    have HQ : Hid (((q : Int)).toNat = q) := Int.toNat_natCast q
                    generalize hY : sumAt (gItemsTo fs k fs[k] m) q + fs[k].ups[m] * fs[k].run = Y at *
                    have HX := Lib.hid hst3
                    have HA := Lib.hid hall'
                    clear hst2 E5 hst3 hall hall' hsum hql
                    go_wp2_with fail
                    go_region
                    go_wp2
                    go_roundw
                    case rel => exact ⟨m + 1, by omega, by go_num, HA.out, HX.out.drew, hb3.drew, by go_simp, by go_simp, by go_simp⟩
                    case measure => simp [intOf]; omega
                  · have hit0 : itemOk ds.length fs[k].pairs[m] = false := by simpa using hit
                    have E2 : Hid (surErr ds fs = 3) := by
                      have he : formErr ds.length fs[k] = 3 := by
                        unfold formErr
                        rw [if_neg HL.out, if_neg (by omega), all_no hlt4 hit0]
                        rfl
                      exact surErr_bad (by rw [E.out, formsFirst_err hlt HZ.out (by rw [he]; omega), he]) (by omega)
                    rw [hpg] at hit0
                    have hn : ¬ (0 ≤ fs[k].jobs[m] ∧ fs[k].jobs[m] < (ds.length : Int) ∧ 0 ≤ fs[k].ups[m] ∧ fs[k].ups[m] ≤ 64) := of_decide_eq_false hit0
                    have hb4 : fs[k].jobs[m] < 0 ∨ (0 ≤ fs[k].jobs[m] ∧ (ds.length : Int) ≤ fs[k].jobs[m]) ∨ (0 ≤ fs[k].jobs[m] ∧ fs[k].jobs[m] < (ds.length : Int) ∧ fs[k].ups[m] < 0) ∨ (0 ≤ fs[k].jobs[m] ∧ fs[k].jobs[m] < (ds.length : Int) ∧ 0 ≤ fs[k].ups[m] ∧ 64 < fs[k].ups[m]) := by
                      omega
                    clear hpg hpl hit hit0 hn
                    rcases hb4 with hb4 | ⟨hb4, hb5⟩ | ⟨hb4, hb5, hb6⟩ | ⟨hb4, hb5, hb6, hb7⟩
                    all_goals
                      go_wp2
                      go_ret2
                      exact RetSur.err E2.out (by omega) hb2
                · have HE1 : Hid (formErr ds.length fs[k] = 0) := HE0.out (hall.all (by omega))
                  rw [itemsTo_all hlt (by omega)] at hst2
                  have HT := Lib.hid hst2
                  clear hpl hst2 hall hst d0 d1 d2 c0 c1 c2 fj fu
                  go_wp2
                  go_roundw
                  case rel =>
                    refine ⟨k + 1, by omega, by go_num, fun j hj hjk => ?_, HT.out, hb2⟩
                    by_cases e : j = k
                    · subst e; exact HE1.out
                    · exact HZ.out j hj (by omega)
                  case measure => simp [intOf]; omega
            · have E2 : Hid (surErr ds fs = 3) := by
                have he : formErr ds.length fs[k] = 3 := by unfold formErr; rw [if_neg HL.out, if_pos hrun]
                exact surErr_bad (by rw [E.out, formsFirst_err hlt HZ.out (by rw [he]; omega), he]) (by omega)
              have hrun0 : fs[k].run < 0 ∨ (0 ≤ fs[k].run ∧ 1048576 < fs[k].run) := by omega
              clear hrun
              rcases hrun0 with hrun0 | ⟨hrun0, hrun1⟩
              all_goals
                go_wp2
                go_ret2
                exact RetSur.err E2.out (by omega) (balloc hb _)
        · have E2 : Hid (fchk ds fs = 0) := by
            show fchk ds fs = 0
            rw [E.out, formsFirst_ok fun j hj => HZ.out j hj (by omega)]
          have EK : Hid (fs.take k = fs) := List.take_of_length_le (by omega)
          rw [EK.out] at hst
          go_wp2
          have HB : Hid (∀ j : Nat, 0 ≤ sumAt (allItems fs) j ∧ sumAt (allItems fs) j ≤ 156 * 67108864) := by
            intro j
            have h1 := allItems_bd (fs := fs) (n := ds.length) (fun f hf => by obtain ⟨i, hi, rfl⟩ := List.mem_iff_getElem.1 hf; exact HZ.out i hi (by omega))
            have h2 := sumAt_bd h1.2 j
            omega
          rw [← subTo_zero] at hst
          obtain ⟨wo, rfl⟩ : ∃ wo : World, wo = wr := ⟨_, rfl⟩
          go_loopw [102] (fun i wi => ∃ m : Nat, m ≤ ds.length ∧ i = .int .i64 m ∧ (∀ j (hj : j < ds.length), j < m → 0 ≤ sumAt (allItems fs) j - ds[j]) ∧ GTab wi w.heap.size w.heap.size ds.length (subTo ds (allItems fs) m) ∧ Below w.heap.size w wi) (fun i _ => ds.length - (intOf i).toNat)
          case atStart => exact ⟨0, by omega, rfl, fun j _ hj => by omega, hst, hb⟩
          case round =>
            obtain ⟨m, hmm, rfl, hpos, hst2, hb2⟩ := hrel
            have HP := Lib.hid hpos; clear hpos
            by_cases hlt2 : m < ds.length
            · obtain ⟨bj, offj, rfl, cd0⟩ := (hx.below hb2).int hlt2
              have hlen := hst2.len
              have cm := hst2.arr.cell (i := m) (by omega)
              rw [subTo_get] at cm
              have fz := hst2.arr.frozen m
              have hst3 := hst2.stored m (sumAt (allItems fs) m - ds[m])
              rw [subTo_set hlt2] at hst3
              have hb3 := hst2.arr.setBelow hb2 (Nat.le_refl _) m (.int .i64 (sumAt (allItems fs) m - ds[m]))
              have hbd := HB.out m
              have hdd := HD.out ds[m] (List.getElem_mem hlt2)
              have hblt := hst2.arr.lt.2
              clear hst2 hst hlen
              by_cases hneg : sumAt (allItems fs) m - ds[m] < 0
              · have E3 : Hid (surErr ds fs = 12) := surErr_short E2.out (shortB_false hlt2 hneg)
                go_wp2
                go_ret2
                exact RetSur.err E3.out (by omega) hb3
              · have HP2 : Hid (∀ j (hj : j < ds.length), j < m + 1 → 0 ≤ sumAt (allItems fs) j - ds[j]) := by
                  intro j hj hjm
                  by_cases e : j = m
                  · subst e; omega
                  · exact HP.out j hj (by omega)
                go_wp2
                go_roundw
                case rel => exact ⟨m + 1, by omega, by go_num, HP2.out, hst3, hb3⟩
                case measure => simp [intOf]; omega
            · have E3 : Hid (surErr ds fs = 0) := surErr_ok E2.out (shortB_true fun j hj => HP.out j hj (by omega))
              have HF : Hid (RetSur ds fs w (.returned (.tuple #[.slice (some ⟨w.heap.size, 0, none⟩) ds.length ds.length, .int .i64 0])) wr) := by
                have em : m = ds.length := by omega
                subst em
                have hl : (surV ds fs).length = ds.length := subTo_length _ _ _
                refine ⟨hb2, .inr ⟨E3.out, some ⟨w.heap.size, 0, none⟩, ds.length, by rw [hl], by rw [hl]; exact hm, hst2.arr.flat⟩⟩
              go_wp2
              go_ret2
              exact HF.out
  · have E : Hid (surErr ds fs = gchk ds 1) := surErr_bad (by unfold fchk; rw [if_pos hc]) hc
    have hc0 := Lib.hid hc
    have hc1 : (gchk ds 1 != 0) = true := by simpa using hc
    clear hc
    go_enter Try.func9, Try.ntmps9
    go_wp2_with (go_at_call 13; refine (gcheck_any _ _ _ _ _ hm hx).mono ?_; rintro e w' ⟨rfl, rfl⟩)
    go_ret2
    exact RetSur.err E.out hc0.out (Below.refl _ _)
end Go.Proofs.Ytimofofaeedcoaa
