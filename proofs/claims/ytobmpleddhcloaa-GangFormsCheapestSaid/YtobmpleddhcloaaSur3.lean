/-
  The law GangSurplusSums: its walk. Own text.
-/
import Derived.Test.YtobmpleddhcloaaSur2
import Derived.Test.YtobmpleddhcloaaGang3
namespace Go.Proofs.Ytobmpleddhcloaa
open Go.RowKit
set_option linter.unusedVariables false
theorem fchk_zero {ds : List Int} {fs : List Form} (h : fchk ds fs = 0) : gchk ds 1 = 0 ∧ fs.length ≤ 12 ∧ ∀ j (hj : j < fs.length), formErr ds.length fs[j] = 0 := by
  unfold fchk at h
  split at h
  · omega
  · split at h
    · omega
    · exact ⟨by omega, by omega, formsFirst_zero h⟩
theorem surV_length (ds : List Int) (fs : List Form) : (surV ds fs).length = ds.length := subTo_length _ _ _
theorem surV_take {ds : List Int} {fs : List Form} {k : Nat} (h : k < ds.length) : (surV ds fs).take (k + 1) = (surV ds fs).take k ++ [sumAt (allItems fs) k - ds[k]] := by
  have h2 : k < (surV ds fs).length := by rw [surV_length]; exact h
  rw [List.take_succ_eq_append_getElem h2, surV_get ds fs k h h2]
/-- What the law has found so far. -/
def FoundTo (ds : List Int) (fs : List Form) (k : Nat) (c : Int) : Prop :=
  (c = 0 ∧ ∀ j (hj : j < ds.length), j < k → 0 ≤ sumAt (allItems fs) j - ds[j]) ∨ (c = 12 ∧ shortB ds fs = false)
theorem FoundTo.end {ds : List Int} {fs : List Form} {k : Nat} {c : Int} (h : FoundTo ds fs k c) (hk : ds.length ≤ k) (hz : fchk ds fs = 0) : surErr ds fs = c := by
  rcases h with ⟨rfl, h⟩ | ⟨rfl, h⟩
  · exact surErr_ok hz (shortB_true fun j hj => h j hj (by omega))
  · exact surErr_short hz h
theorem FoundTo.neg {ds : List Int} {fs : List Form} {k : Nat} (h : k < ds.length) (hs : sumAt (allItems fs) k - ds[k] < 0) (k' : Nat) : FoundTo ds fs k' 12 := .inr ⟨rfl, shortB_false h hs⟩
theorem FoundTo.pos {ds : List Int} {fs : List Form} {k : Nat} {c : Int} (h : FoundTo ds fs k c) (hl : k < ds.length) (hs : 0 ≤ sumAt (allItems fs) k - ds[k]) : FoundTo ds fs (k + 1) c := by
  rcases h with ⟨rfl, h⟩ | h
  · refine .inl ⟨rfl, fun j hj hjk => ?_⟩
    by_cases e : j = k
    · subst e; exact hs
    · exact h j hj (by omega)
  · exact .inr h
set_option maxRecDepth 100000 in
set_option maxHeartbeats 4000000 in
theorem surSums_any (oa ob : Option Addr) (ds : List Int) (fs : List Form) (ca cb : Nat) (w : World) (hm : ds.length ≤ maxLen) (hx : Flat w 1 encInt oa ds) (hm2 : fs.length ≤ maxLen) (hf : FormsAt w ob fs) :
    Calls Try.prog 6 #[.slice oa ds.length ca, .slice ob fs.length cb] w fun e w' => e = .returned (.bool true) ∧ Below w.heap.size w w' := by
  have hm9 : fs.length ≤ 9223372036854775807 := by unfold maxLen at hm2; omega
  have hm8 : ds.length ≤ 9223372036854775807 := by unfold maxLen at hm; omega
  go_enter Try.func6, Try.ntmps6
  go_wp2_with fail
  refine (gangs_any _).mono ?_
  rintro e w1 ⟨rfl, hb⟩
  have hx1 := hx.below hb
  have hf1 := hf.below hb
  clear hx hf
  go_wp2_with fail
  refine (sur_any _ _ _ _ _ _ _ hm hx1 hm2 hf1).mono ?_
  rintro e w2 ⟨hb2, hres⟩
  have hx2 := hx1.below hb2
  have hf2 := hf1.below hb2
  have hb3 := bthen hb hb2
  clear hx1 hf1
  by_cases hc : fchk ds fs = 0
  · obtain ⟨hg, h12, hz⟩ := fchk_zero hc
    obtain ⟨l1, l2, hd, _, _⟩ := gchk_zero hg
    have HC := Lib.hid hc; clear hc hg
    have HZ := Lib.hid hz; clear hz
    have HD := Lib.hid hd; clear hd
    have HRES := Lib.hid hres
    obtain ⟨lv, hlv⟩ : ∃ v : Value, (∃ a n c, v = .slice a n c) ∧ e = .returned (.tuple #[v, .int .i64 (surErr ds fs)]) := by
      rcases hres with ⟨_, rfl⟩ | ⟨h0, oa', cap', rfl, _⟩
      · exact ⟨_, ⟨_, _, _, rfl⟩, rfl⟩
      · exact ⟨_, ⟨_, _, _, rfl⟩, by rw [h0]⟩
    obtain ⟨⟨a0, n0, c0, rfl⟩, rfl⟩ := hlv
    generalize hse : surErr ds fs = se at *
    have HSE := Lib.hid hse; clear hse hres
    go_wp2_with (go_at_call 24; refine (formsError_any _ _ _ _ _ _ _ hm hx2 hm2 hf2).mono ?_; rw [HC.out]; rintro e w3 ⟨rfl, hb4⟩)
    have hx3 := hx2.below hb4
    have hf3 := hf2.below hb4
    have hb5 := bthen hb3 hb4
    have HB : Hid (∀ (a b j : Nat) (ha : a < fs.length), 0 ≤ sumAt (itemsTo fs a fs[a] b) j ∧ sumAt (itemsTo fs a fs[a] b) j ≤ 156 * 67108864) := by
      intro a b j ha
      exact itemsTo_sum_bd (n := ds.length) (by omega) (fun i hi _ => HZ.out i hi) (HZ.out a ha) b j
    have HB2 : Hid (∀ j : Nat, 0 ≤ sumAt (allItems fs) j ∧ sumAt (allItems fs) j ≤ 156 * 67108864) := by
      intro j
      have h1 := allItems_bd (fs := fs) (n := ds.length) (fun f hf => by obtain ⟨i, hi, rfl⟩ := List.mem_iff_getElem.1 hf; exact HZ.out i hi)
      have h2 := sumAt_bd h1.2 j
      omega
    have hb4' := hb4
    clear hx2 hf2 hb hb2 hb3 hb4
    go_loopw [7, 8, 30] (fun fv out i wr => ∃ (k : Nat) (c : Int), k ≤ ds.length ∧ i = .int .i64 k ∧ fv = .int .i64 c ∧ FoundTo ds fs k c ∧ Own wr w3.heap.size 3 1 encInt out ((surV ds fs).take k) ∧ Below w3.heap.size w3 wr) (fun _ _ i _ => ds.length - (intOf i).toNat)
    case atStart => exact ⟨0, 0, by omega, rfl, rfl, .inl ⟨rfl, fun j _ hj => by omega⟩, Own.nil _ _ _ _ _, Below.refl _ _⟩
    case round =>
      obtain ⟨k, c, hk, rfl, rfl, hfound, hown, hbr⟩ := hrel
      by_cases hlt : k < ds.length
      · obtain ⟨bd, offd, rfl, cd0⟩ := (hx3.below hbr).int hlt
        have hdd := HD.out ds[k] (List.getElem_mem hlt)
        obtain ⟨wo, rfl⟩ : ∃ wo : World, wo = wr := ⟨_, rfl⟩
        go_wp2
        go_loopw [11, 39] (fun n i wi => ∃ a : Nat, a ≤ fs.length ∧ i = .int .i64 a ∧ n = .int .i64 (sumAt (allItems (fs.take a)) k - ds[k]) ∧ Below wo.heap.size wo wi) (fun _ i _ => fs.length - (intOf i).toNat)
        case atStart => exact ⟨0, by omega, rfl, by show _ = Value.int .i64 (0 - ds[k]); rw [Int.zero_sub], Below.refl _ _⟩
        case round =>
          obtain ⟨a, ha, rfl, rfl, hbi⟩ := hrel
          by_cases hlta : a < fs.length
          · have hb6 := bthen hbr hbi
            obtain ⟨b, off, oj, cj, ou, cu, rfl, c0, c1, c2, lj, lu, fj, fu⟩ := (hf3.below hb6).at hlta
            obtain ⟨HEQ, l12, hr0, hr1, hall⟩ := formErr_zero (HZ.out a hlta)
            have hall2 := Lib.hid hall
            have l13 : fs[a].ups.length ≤ 12 := by omega
            have HEQ := Lib.hid HEQ
            clear hall
            rw [← itemsTo_zero fs a fs[a]]
            obtain ⟨wq, rfl⟩ : ∃ wq : World, wq = wr := ⟨_, rfl⟩
            go_wp2
            go_loopw [11, 46] (fun n i wi => ∃ m : Nat, m ≤ fs[a].jobs.length ∧ i = .int .i64 m ∧ n = .int .i64 (sumAt (itemsTo fs a fs[a] m) k - ds[k]) ∧ Below wq.heap.size wq wi ∧
              wi.cell? ⟨wq.heap.size, 0, none⟩ = some (.slice oj fs[a].jobs.length cj) ∧ wi.cell? ⟨wq.heap.size, 1, none⟩ = some (.slice ou fs[a].ups.length cu) ∧ wi.cell? ⟨wq.heap.size, 2, none⟩ = some (.int .i64 fs[a].run)) (fun _ i _ => fs[a].jobs.length - (intOf i).toNat)
            case atStart => exact ⟨0, by omega, rfl, rfl, balloc (Below.refl _ _) _, by go_simp, by go_simp, by go_simp⟩
            case round =>
              obtain ⟨m, hmm, rfl, rfl, hbj, d0, d1, d2⟩ := hrel
              by_cases hltm : m < fs[a].jobs.length
              · have hltm2 : m < fs[a].ups.length := by have := HEQ.out; omega
                obtain ⟨bj, offj, rfl, cj0⟩ := (fj.below hbj).int hltm
                obtain ⟨bu, offu, rfl, cu0⟩ := (fu.below hbj).int hltm2
                have E5 := itemsTo_succ (fs := fs) (a := a) HEQ.out hltm hltm2
                have hs1 := HB.out a m k hlta
                have hs2 := HB.out a (m + 1) k hlta
                rw [E5, sumAt_snoc] at hs2
                by_cases hje : fs[a].jobs[m] = (k : Int)
                · have E6 : Hid (sumAt (itemsTo fs a fs[a] (m + 1)) k - ds[k] = sumAt (itemsTo fs a fs[a] m) k - ds[k] + fs[a].ups[m] * fs[a].run) := by
                    show _ = _
                    rw [E5, sumAt_snoc, if_pos hje]; omega
                  rw [if_pos hje] at hs2
                  have hjb : (fs[a].jobs[m] == (k : Int)) = true := by simpa using hje
                  have hp := items_bd (HZ.out a hlta)
                  have hp2 := hp.2 (fs[a].jobs[m], fs[a].ups[m] * fs[a].run) (by
                    have hpl := pairs_length HEQ.out
                    have hpg := pairs_get (f := fs[a]) (i := m) (by omega) hltm hltm2
                    unfold Form.items
                    exact List.mem_map.2 ⟨fs[a].pairs[m]'(by omega), List.getElem_mem _, by rw [hpg]⟩)
                  have hp3 : 0 ≤ fs[a].ups[m] * fs[a].run ∧ fs[a].ups[m] * fs[a].run ≤ 67108864 := hp2
                  have g1 : IntKind.i64.wrap (fs[a].ups[m] * fs[a].run) = fs[a].ups[m] * fs[a].run := IntWalk.i64_in _ (by omega)
                  have g2 : IntKind.i64.wrap (sumAt (itemsTo fs a fs[a] m) k - ds[k] + fs[a].ups[m] * fs[a].run) = sumAt (itemsTo fs a fs[a] m) k - ds[k] + fs[a].ups[m] * fs[a].run := IntWalk.i64_in _ (by omega)
                  clear hje hs2 hp hp2 E5
                  go_wp2_with fail
                  go_quiet (fail)
                  go_wp2
                  go_roundw
                  case rel => exact ⟨m + 1, by omega, by go_num, by rw [E6.out], bdrewN hbj _, by go_simp, by go_simp, by go_simp⟩
                  case measure => simp [intOf]; omega
                · have E6 : Hid (sumAt (itemsTo fs a fs[a] (m + 1)) k - ds[k] = sumAt (itemsTo fs a fs[a] m) k - ds[k]) := by
                    show _ = _
                    rw [E5, sumAt_snoc, if_neg hje]; omega
                  have hjb : (fs[a].jobs[m] == (k : Int)) = false := by simpa using hje
                  clear hje hs2 E5
                  go_wp2
                  go_roundw
                  case rel => exact ⟨m + 1, by omega, by go_num, by rw [E6.out], hbj, d0, d1, d2⟩
                  case measure => simp [intOf]; omega
              · rw [itemsTo_all hlta (by omega)]
                clear fj fu d0 d1 d2
                go_wp2
                go_roundw
                case rel => exact ⟨a + 1, by omega, by go_num, rfl, bthen hbi hbj⟩
                case measure => simp [intOf]; omega
          · have EK : Hid (fs.take a = fs) := List.take_of_length_le (by omega)
            rw [EK.out]
            have hs := HB2.out k
            have E7 : Hid ((surV ds fs).take (k + 1) = (surV ds fs).take k ++ [sumAt (allItems fs) k - ds[k]]) := surV_take hlt
            have hown2 := hown.below hbi
            have hb6 := bthen hbr hbi
            have hlen : ((surV ds fs).take k).length ≤ 12 := by rw [List.length_take, surV_length]; omega
            generalize hyy : (surV ds fs).take k = yy at *
            clear hown
            by_cases hneg : sumAt (allItems fs) k - ds[k] < 0
            · have HF := Lib.hid (FoundTo.neg hlt hneg (k + 1))
              generalize hzz : sumAt (allItems fs) k - ds[k] = zz at *
              go_wp2_with (at_builtin; go_must (refine wpList_app1 rfl (.tmp 70) (.tmp 72) 22 rfl elemInt Try.underlying22 w3.heap.size _ _ encInt rfl (hown2.alloc _) zz ⟨wr.heap.size, 0, none⟩ 1 rfl rfl ?c1 ?c2 ?c3 ?c4 ?c5 ?_))
              case c1 => first | exact cell_one_new _ _ _ | simp [encInt, Value.oneCell']
              case c2 => first | exact cell_one_new _ _ _ | simp [encInt, Value.oneCell']
              case c3 => omega
              case c4 => unfold maxLen; omega
              case c5 => have := hb6.size; simp; omega
              intro v' w5 hown3 hg3
              have hb7 := (hown2.alloc _).grown (balloc hb6 _) (Nat.le_refl _) hg3
              rw [← E7.out] at hown3
              clear hg3 hown2
              go_wp2
              go_roundw
              case rel => exact ⟨k + 1, 12, by omega, by go_num, rfl, HF.out, hown3, hb7⟩
              case measure => simp [intOf]; omega
            · have HF := Lib.hid (hfound.pos hlt (by omega))
              generalize hzz : sumAt (allItems fs) k - ds[k] = zz at *
              go_wp2_with (at_builtin; go_must (refine wpList_app1 rfl (.tmp 70) (.tmp 72) 22 rfl elemInt Try.underlying22 w3.heap.size _ _ encInt rfl (hown2.alloc _) zz ⟨wr.heap.size, 0, none⟩ 1 rfl rfl ?c1 ?c2 ?c3 ?c4 ?c5 ?_))
              case c1 => first | exact cell_one_new _ _ _ | simp [encInt]
              case c2 => first | exact cell_one_new _ _ _ | simp [encInt, Value.oneCell']
              case c3 => omega
              case c4 => unfold maxLen; omega
              case c5 => have := hb6.size; simp; omega
              intro v' w5 hown3 hg3
              have hb7 := (hown2.alloc _).grown (balloc hb6 _) (Nat.le_refl _) hg3
              rw [← E7.out] at hown3
              clear hg3 hown2
              go_wp2
              go_roundw
              case rel => exact ⟨k + 1, c, by omega, by go_num, rfl, HF.out, hown3, hb7⟩
              case measure => simp [intOf]; omega
      · have hse : se = c := HSE.out.symm.trans (hfound.end (by omega) HC.out)
        have EK : Hid ((surV ds fs).take k = surV ds fs) := List.take_of_length_le (by rw [surV_length]; omega)
        rw [EK.out] at hown
        obtain ⟨oaw, capw, rfl, _, hmw, hfw⟩ := hown.isSlice (fun _ => rfl)
        subst hse
        rcases HRES.out with ⟨hne, he⟩ | ⟨h0, oa', cap', he, hml, hfl⟩
        · simp only [Ending.returned.injEq, Value.tuple.injEq] at he
          obtain ⟨rfl, rfl, rfl⟩ : a0 = none ∧ n0 = 0 ∧ c0 = 0 := by simpa using he
          have hne1 : (se != 0) = true := by simpa using hne
          have hb8 := bthen hb5 hbr
          clear hne he hown hfw
          go_wp2
          go_ret
          exact ⟨rfl, hb8⟩
        · obtain ⟨rfl, rfl, rfl⟩ : a0 = oa' ∧ n0 = (surV ds fs).length ∧ c0 = cap' := by simpa [h0] using he
          subst h0
          have hb8 := bthen hb5 hbr
          have hfl2 := hfl.below (bthen hb4' hbr)
          clear he hown
          generalize hyy : surV ds fs = yy at *
          clear hyy
          go_wp2_with (go_at_call 25; refine (sameInts_any _ _ _ _ _ _ _ hml hmw hfl2 hfw).mono ?_; rintro e w9 ⟨rfl, hb9⟩; rw [sameB_self])
          go_ret
          exact ⟨rfl, bthen hb8 hb9⟩
  · have E : surErr ds fs = fchk ds fs := surErr_bad rfl hc
    have hc1 : (fchk ds fs == 0) = false := by simpa using hc
    have hc2 : (fchk ds fs != 0) = true := by simpa using hc
    rcases hres with ⟨_, rfl⟩ | ⟨h0, _⟩
    · rw [E]
      clear E hc
      go_wp2_with (go_at_call 24; refine (formsError_any _ _ _ _ _ _ _ hm hx2 hm2 hf2).mono ?_; rintro e w3 ⟨rfl, hb4⟩)
      go_ret
      exact ⟨rfl, bthen hb3 hb4⟩
    · exact absurd (E ▸ h0) hc
end Go.Proofs.Ytobmpleddhcloaa
