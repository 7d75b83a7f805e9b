/-
  The walk of TopPaper. Own text.
-/
import Derived.Test.YtimofofaeedcoaaTopPV
import Derived.Test.YtimofofaeedcoaaContF
namespace Go.Proofs.Ytimofofaeedcoaa
open Go.RowKit
set_option linter.unusedVariables false
/-- The plates printed so far. -/
def PrintedAt (ws : World) (v : Value) (X : List FormC) (W : World) : Prop := Own W ws.heap.size 34 3 encF v X ∧ Below ws.heap.size ws W
set_option maxRecDepth 100000 in
set_option maxHeartbeats 4000000 in
theorem topPaper_any (oa : Option Addr) (xs : List (Int × Int)) (ca : Nat) (od : Option Addr) (ds : List Int) (cd : Nat) (s0 p0 : Int) (w : World) (hca : xs.length ≤ ca) (hcam : ca ≤ maxLen) (hxs : Flat w 2 encInt2 oa xs) (hcd : ds.length ≤ cd) (hcdm : cd ≤ maxLen) (hx : Flat w 1 encInt od ds) :
    Calls Try.prog 3 #[.slice oa xs.length ca, .slice od ds.length cd, .int .i64 s0, .int .i64 p0] w fun e w' => e = .returned (.bool true) ∧ Below w.heap.size w w' := by
  have HX := Lib.hid hx; clear hx
  have HXS := Lib.hid hxs; clear hxs
  obtain ⟨m, hm1, hm2, hm3⟩ : ∃ m : Nat, (if (5 : Int) < (ds.length : Int) then (5 : Int) else (ds.length : Int)) = (m : Int) ∧ m ≤ ds.length ∧ m ≤ 5 := by
    by_cases h : (5 : Int) < (ds.length : Int)
    · exact ⟨5, by rw [if_pos h]; rfl, by omega, by omega⟩
    · exact ⟨ds.length, by rw [if_neg h], by omega, by omega⟩
  have HM := Lib.hid hm1; clear hm1
  obtain ⟨q, hq1, hq2, hq3⟩ : ∃ q : Nat, (if (3 : Int) < (xs.length : Int) then (3 : Int) else (xs.length : Int)) = (q : Int) ∧ q ≤ xs.length ∧ q ≤ 3 := by
    by_cases h : (3 : Int) < (xs.length : Int)
    · exact ⟨3, by rw [if_pos h]; rfl, by omega, by omega⟩
    · exact ⟨xs.length, by rw [if_neg h], by omega, by omega⟩
  have HQ := Lib.hid hq1; clear hq1
  have hmc : m ≤ cd := by omega
  have hqc : q ≤ ca := by omega
  have HL := Lib.hid need_lit.2
  obtain ⟨s, hs⟩ : ∃ s, mcV s0 1 12 = s := ⟨_, rfl⟩
  have hsb := mcV_bd (x := s0) (lo := 1) (hi := 12) (by omega)
  rw [hs] at hsb
  have HS := Lib.hid hs; clear hs
  obtain ⟨p, hp⟩ : ∃ p, mcV p0 0 500 = p := ⟨_, rfl⟩
  have hpb := mcV_bd (x := p0) (lo := 0) (hi := 500) (by omega)
  rw [hp] at hpb
  have HP := Lib.hid hp; clear hp
  have hds9 : ds.length ≤ 9223372036854775807 := by unfold maxLen at hcdm; omega
  have hxs9 : xs.length ≤ 9223372036854775807 := by unfold maxLen at hcam; omega
  have hcd9 : cd ≤ 9223372036854775807 := by unfold maxLen at hcdm; omega
  have hca9 : ca ≤ 9223372036854775807 := by unfold maxLen at hcam; omega
  go_enter Try.func3, Try.ntmps3
  go_wp2_with fail
  refine (need_ok (some ⟨w.heap.size, 0, none⟩) [((10 : Int), (100 : Int))] 1 18 _ (by decide) (Flat.lit1 w 2 encInt2 (10, 100) 28 rfl) need_lit.1 (by omega) (by omega)).mono ?_
  rintro e w1 ⟨rfl, hb1⟩
  rw [HL.out]
  have hB1 : Below w.heap.size w w1 := balloc_lt _ _ hb1
  clear hb1 HL
  go_wp2_with (refine wpList_min2 rfl (.tmp 42) (.const (.int .i64 5)) _ rfl (ds.length : Int) 5 (m : Int) rfl rfl HM.out ?_)
  go_wp2
  go_loopw [11, 46] (fun l i wr => ∃ k : Nat, k ≤ m ∧ i = .int .i64 k ∧ Own wr w.heap.size 3 1 encInt l (listP ds k) ∧ Below w.heap.size w wr) (fun _ i _ => m - (intOf i).toNat)
  case atStart => exact ⟨0, by omega, rfl, Own.nil _ _ _ _ _, hB1⟩
  case round =>
    obtain ⟨k, hk, rfl, hown, hb⟩ := hrel
    by_cases hlt : k < m
    · have hltd : k < ds.length := by omega
      obtain ⟨b, off, hod, hc1⟩ := (HX.out.below hb).int hltd
      subst hod
      have E2 : Hid (listP ds (k + 1) = listP ds k ++ [mcV ds[k] 1 3000]) := listP_succ hltd
      have hlen : (listP ds k).length ≤ 5 := by rw [listP_len (by omega)]; omega
      go_wp2_with (first | (go_at_call 5; refine (mcut_any _ _ _ _ (by omega) (by omega) (by omega)).mono ?_; rintro e w' ⟨rfl, rfl⟩) | (at_builtin; go_must (refine wpList_app1 rfl (.tmp 50) (.tmp 53) 23 rfl elemInt Try.underlying23 w.heap.size _ _ encInt rfl (hown.alloc _) (mcV ds[k] 1 3000) ⟨wr.heap.size, 0, none⟩ 1 rfl rfl ?c1 ?c2 ?c3 ?c4 ?c5 ?_)))
      case c1 => exact cell_one_new _ _ _
      case c2 => simp [encInt, Value.oneCell']
      case c3 => omega
      case c4 => unfold maxLen; omega
      case c5 => have := hb.size; simp; omega
      intro v' w7 hown3 hg3
      have hb5 := (hown.alloc _).grown (balloc hb _) (Nat.le_refl _) hg3
      rw [← E2.out] at hown3
      clear hg3 hown
      go_wp2
      go_roundw
      case rel => exact ⟨k + 1, by omega, by go_num, hown3, hb5⟩
      case measure => simp [intOf]; omega
    · obtain rfl : k = m := by omega
      have hL : (listP ds k).length = k := listP_len (by omega)
      have hD : Demands (listP ds k) := listP_demands ds k
      obtain ⟨ol, cl', rfl, _, hlm, hfl⟩ := hown.isSlice (fun _ => rfl)
      clear hown
      generalize listP ds k = L at *
      subst hL
      have hfl := Lib.hid hfl
      have hD := Lib.hid hD
      have HB := Lib.hid hb
      clear hb HX HM hB1 hm2 hmc hcd hcdm
      obtain ⟨wa, rfl⟩ : ∃ wa : World, wa = wr := ⟨_, rfl⟩
      by_cases hL0 : L.length = 0
      · have hc : (gchk L s != 0) = true := by
          have : gchk L s = 2 := by unfold gchk; rw [if_pos (by omega)]
          rw [this]; rfl
        have HC2 : Hid (gchk L s = 2) := by show gchk L s = 2; unfold gchk; rw [if_pos (by omega)]
        have z1 : ((L.length : Int) == 0) = true := by simp [hL0]
        replace hL0 := Lib.hid hL0
        replace hc := Lib.hid hc
        go_wp2_with (first | (go_at_call 5; refine (mcut_any _ _ _ _ (by omega) (by omega) (by omega)).mono ?_; rintro e w' ⟨rfl, rfl⟩; (first | rw [HS.out] | rw [HP.out])) | (go_at_call 6; refine (forms_bad _ _ _ _ _ _ hlm hfl.out hc.out).mono ?_; rw [HC2.out]; rintro e w2 ⟨rfl, hb2⟩))
        go_ret
        exact ⟨rfl, bthen HB.out hb2⟩
      · have HC : Hid (gchk L s = 0) := gchk_ok (by omega) (by omega) hD.out hsb.1 (by omega)
        go_wp2_with (first | (go_at_call 5; refine (mcut_any _ _ _ _ (by omega) (by omega) (by omega)).mono ?_; rintro e w' ⟨rfl, rfl⟩; (first | rw [HS.out] | rw [HP.out])) | (go_at_call 6; refine (forms_ok _ _ _ _ _ _ hfl.out HC.out hpb.1 (by omega)).mono ?_; rintro e ws ⟨B, N, n, of, cf, rfl, hB, hmn, hend, hlt, hfs, hb4⟩) | (refine wpList_min2 rfl (.tmp 78) (.const (.int .i64 3)) _ rfl (xs.length : Int) 3 (q : Int) rfl rfl HQ.out ?_))
        obtain ⟨hse, hsv⟩ := forms_sur hD.out (by omega) (by omega) (by omega) hB hlt hmn hend
        have hfl2 : (formsV L s N n).length = n := formsV_len _ _ _ _
        have hn0 : n ≠ 0 := by
          intro e
          rw [e] at hend
          have : pos N 0 = 0 := rfl
          omega
        have hrun : Hid (∀ f ∈ formsV L s N n, 1 ≤ f.run ∧ f.run ≤ 1048576) := fun f hf => by
          obtain ⟨i, hi, rfl⟩ := List.mem_map.1 hf
          obtain ⟨c1, c2, c3, _⟩ := chain_at hB hlt (List.mem_range.1 hi)
          have := runV_least (vals_demands hD.out) (Nat.le_of_lt c1) (by rw [vals_len]; exact c2) c3
          exact this.2
        generalize formsV L s N n = fs at *
        obtain ⟨X, hXl, hX⟩ := forms_cells hfs
        have HX := Lib.hid hX
        have HXL := Lib.hid hXl
        have HSE := Lib.hid hse
        have HSV := Lib.hid hsv
        subst hfl2
        have hBs : Hid (Below w.heap.size w ws) := bthen HB.out hb4
        obtain ⟨ys, hys⟩ : ∃ ys, ys = xs.take q := ⟨_, rfl⟩
        have hyl : ys.length = q := by rw [hys, List.length_take]; omega
        have HF : Hid (∀ W, Below w.heap.size w W → Flat W 2 encInt2 oa ys) := fun W hW => by rw [hys]; exact (HXS.out.below hW).takeK q
        have hflS := Lib.hid (hfl.out.below hb4)
        have hfn : fs.length ≤ 5 := by omega
        clear hX hXl hfs hse hsv hB hlt hend hb4 hfl HB hys HXS HQ hq2 hqc hxs9 hca9 hca hcam
        have hP0 : Hid (PrintedAt ws (.slice none 0 0) (X.take 0) ws) := ⟨by rw [List.take_zero]; exact Own.nil _ _ _ _ _, Below.refl _ _⟩
        go_loopw [17, 83] (fun v t wr => ∃ k : Nat, k ≤ fs.length ∧ t = .int .i64 k ∧ (k = 0 ∨ chk ys = 0) ∧ Hid (PrintedAt ws v (X.take k) wr)) (fun _ t _ => fs.length - (intOf t).toNat)
        case atStart => exact ⟨0, by omega, rfl, .inl rfl, hP0⟩
        case round =>
          clear hP0
          obtain ⟨k, hk, rfl, hkc, HPR⟩ := hrel
          by_cases hlk : k < fs.length
          · obtain ⟨v, rfl⟩ : ∃ v : Value, v = u17 := ⟨_, rfl⟩
            obtain ⟨hown, hb⟩ := HPR.out
            have hXk : k < X.length := by rw [HXL.out]; exact hlk
            obtain ⟨hi, b, off, oj, cj, ou, cu, rfl, hXe, c0, c1, c2, _⟩ := HX.out k hXk
            replace c0 := (hb.cell (cell?_lt c0)).trans c0
            replace c1 := (hb.cell (cell?_lt c1)).trans c1
            replace c2 := (hb.cell (cell?_lt c2)).trans c2
            obtain ⟨r1, r2⟩ := hrun.out fs[k] (List.getElem_mem hi)
            generalize fs[k].run = r at *
            generalize fs[k].jobs.length = J at *
            generalize fs[k].ups.length = U at *
            have hbW : Below w.heap.size w wr := bthen hBs.out hb
            by_cases hch : chk ys = 0
            · have HCH := Lib.hid hch
              obtain ⟨hq16, hgood⟩ := chk_zero hch
              cases hnd : needL ys r with
              | none =>
                have HNE : Hid (∀ W, Below w.heap.size w W → Calls Try.prog 4 #[.slice oa q ca, .int .i64 r] W fun e w' => e = .returned (.tuple #[.int .i64 0, .int .i64 10]) ∧ Below W.heap.size W w') := fun W hW => by
                  have h := need_ok oa ys ca r W (by rw [hyl]; unfold maxLen; omega) (HF.out W hW) HCH.out (by omega) (by omega)
                  have e : needR ys r = (0, 10) := by unfold needR; rw [hnd]
                  rw [e, hyl] at h
                  exact h
                have hbW' := Lib.hid hbW
                clear hgood hch hkc hown
                go_wp2_with (go_at_call 4; refine (HNE.out _ (balloc hbW'.out _)).mono ?_; rintro e w5 ⟨rfl, hb5⟩)
                go_ret
                exact ⟨rfl, bthen (balloc hbW'.out _) hb5⟩
              | some nn =>
                obtain ⟨n1, n2, n3⟩ := need_exact hgood r1 hnd
                have n4 := need_most (by omega) hnd
                have hyb := yield_bd hgood (n := nn - 1) (by omega)
                obtain ⟨f, hf⟩ : ∃ f, f = yieldV ys (nn - 1) := ⟨_, rfl⟩
                rw [← hf] at n3 hyb
                have HNE : Hid (∀ W, Below w.heap.size w W → Calls Try.prog 4 #[.slice oa q ca, .int .i64 r] W fun e w' => e = .returned (.tuple #[.int .i64 nn, .int .i64 0]) ∧ Below W.heap.size W w') := fun W hW => by
                  have h := need_ok oa ys ca r W (by rw [hyl]; unfold maxLen; omega) (HF.out W hW) HCH.out (by omega) (by omega)
                  have e : needR ys r = (nn, 0) := by unfold needR; rw [hnd]
                  rw [e, hyl] at h
                  exact h
                have HY1 : Hid (∀ W, Below w.heap.size w W → Calls Try.prog 8 #[.slice oa q ca, .int .i64 nn] W fun e w' => e = .returned (.tuple #[.int .i64 r, .int .i64 0]) ∧ Below W.heap.size W w') := fun W hW => by
                  have h := yield_ok oa ys ca nn W (by rw [hyl]; unfold maxLen; omega) (HF.out W hW) HCH.out (by omega) (by omega)
                  rw [n2, hyl] at h
                  exact h
                have HY2 : Hid (∀ W, Below w.heap.size w W → Calls Try.prog 8 #[.slice oa q ca, .int .i64 (nn - 1)] W fun e w' => e = .returned (.tuple #[.int .i64 f, .int .i64 0]) ∧ Below W.heap.size W w') := fun W hW => by
                  have h := yield_ok oa ys ca (nn - 1) W (by rw [hyl]; unfold maxLen; omega) (HF.out W hW) HCH.out (by omega) (by omega)
                  rw [← hf, hyl] at h
                  exact h
                have HW0 := Lib.hid hbW
                have HPB := Lib.hid hb
                have HOW := Lib.hid hown
                have hmx : (if nn - 1 < 0 then (0 : Int) else nn - 1) = nn - 1 := if_neg (by omega)
                have t1 : ¬ r ≤ f := by omega
                have hvb : Hid (v.ownBlock ≠ some wr.heap.size) := fun e => by have := (World.ownsRow.lt hown _ e).2; omega
                have hbs := hb.size
                have hlen : (X.take k).length ≤ 5 := by rw [List.length_take]; omega
                have HXE : Hid (X.take (k + 1) = X.take k ++ [(.slice oj J cj, .slice ou U cu, r)]) := by
                  show _ = _
                  rw [List.take_succ_eq_append_getElem hXk, hXe]
                clear hgood hch hkc hown hb hbW hyb n2 hf hnd
                go_wp2_with (first
                  | (go_at_call 4; refine (HNE.out _ (balloc HW0.out _)).mono ?_; rintro e w5 ⟨rfl, hb5⟩; have h5 := Lib.hid (bthen (balloc HW0.out _) hb5))
                  | (go_at_call 8; with_reducible refine (HY1.out _ h5.out).mono ?_; rintro e w6 ⟨rfl, hb6⟩; have h6 := Lib.hid (bthen h5.out hb6))
                  | (go_at_call 8; with_reducible refine (HY2.out _ h6.out).mono ?_; rintro e w7 ⟨rfl, hb7⟩; have h7 := Lib.hid (bthen h6.out hb7); have hbx := Lib.hid (bthen (bthen hb5 hb6) hb7); clear hb5 hb6 hb7; have k0 : w7.cell? ⟨wr.heap.size, 0, none⟩ = some (.slice oj J cj) := keepCell hbx.out (by go_simp); have k1 : w7.cell? ⟨wr.heap.size, 1, none⟩ = some (.slice ou U cu) := keepCell hbx.out (by go_simp); have k2 : w7.cell? ⟨wr.heap.size, 2, none⟩ = some (.int .i64 r) := keepCell hbx.out (by go_simp); have kf : w7.frozen? ⟨wr.heap.size, 2, none⟩ = false := (hbx.out.frozen (p := ⟨wr.heap.size, 2, none⟩) (by simp only [World.size_alloc]; omega)).trans (by go_simp))
                  | (refine wpList_max2 rfl (.tmp 117) (.const (.int .i64 0)) _ rfl (nn - 1) 0 (nn - 1) rfl rfl hmx ?_)
                  | (at_builtin; go_must (refine wpList_app1 rfl (.tmp 142) (.tmp 144) 30 rfl elemForm Try.underlying30 ws.heap.size _ _ encF rfl ((((HOW.out.alloc (.cells #[.slice oj J cj, .slice ou U cu, .int .i64 r] 34)).below hbx.out).otherCell (a := ⟨wr.heap.size, 2, none⟩) (.inr hvb.out) (.int .i64 r)).alloc (.cells #[.slice oj J cj, .slice ou U cu, .int .i64 r] 34)) (.slice oj J cj, .slice ou U cu, r) ⟨(w7.setCell ⟨wr.heap.size, 2, none⟩ (.int .i64 r)).heap.size, 0, none⟩ 1 (by go_simp) rfl ?c1 ?c2 ?c3 ?c4 ?c5 ?_)))
                case c1 => exact World.news_of_block (cs := #[.slice oj J cj, .slice ou U cu, .int .i64 r]) (t := 34) (fr := (0, 0)) (heap_alloc_new _ _)
                case c2 => simp [encF, Value.oneCell']
                case c3 => omega
                case c4 => unfold maxLen; omega
                case c5 => have := hbx.out.size; simp at this ⊢; omega
                intro v' w8 hown8 hg8
                have hB8 : Below ws.heap.size ws ((w7.setCell ⟨wr.heap.size, 2, none⟩ (.int .i64 r)).alloc (.cells #[.slice oj J cj, .slice ou U cu, .int .i64 r] 34)) := balloc ((bthen (balloc HPB.out _) hbx.out).setCell (p := ⟨wr.heap.size, 2, none⟩) hbs _) _
                have HNX : Hid (PrintedAt ws v' (X.take (k + 1)) w8) := by
                  refine ⟨by rw [HXE.out]; exact hown8, ?_⟩
                  exact ((((HOW.out.alloc (.cells #[.slice oj J cj, .slice ou U cu, .int .i64 r] 34)).below hbx.out).otherCell (a := ⟨wr.heap.size, 2, none⟩) (.inr hvb.out) (.int .i64 r)).alloc (.cells #[.slice oj J cj, .slice ou U cu, .int .i64 r] 34)).grown hB8 (Nat.le_refl _) hg8
                clear hown8 hg8 hB8
                go_wp2
                go_roundw
                case rel => exact ⟨k + 1, by omega, by go_num, .inr HCH.out, HNX⟩
                case measure => simp [intOf]; omega
            · have hk0 : k = 0 := by
                rcases hkc with h | h
                · exact h
                · exact absurd h hch
              have e1 : (chk ys == 10) = false := chk_ten ys
              have e2 : (chk ys != 0) = true := by simpa using hch
              have HNB : Hid (∀ W, Below w.heap.size w W → Calls Try.prog 4 #[.slice oa q ca, .int .i64 r] W fun e w' => e = .returned (.tuple #[.int .i64 0, .int .i64 (chk ys)]) ∧ Below W.heap.size W w') := fun W hW => by
                have h := need_bad oa ys ca r W (by rw [hyl]; unfold maxLen; omega) (HF.out W hW) e2
                rw [hyl] at h
                exact h
              have HCK : Hid (∀ W, Below w.heap.size w W → Calls Try.prog 7 #[.slice oa q ca] W fun e w' => e = .returned (.int .i64 (chk ys)) ∧ Below W.heap.size W w') := fun W hW => by
                have h := check_any oa ys ca W (by rw [hyl]; unfold maxLen; omega) (HF.out W hW)
                rw [hyl] at h
                exact h
              have hbW' := Lib.hid hbW
              clear hkc hown hk0 hch
              generalize chk ys = c at *
              go_wp2_with (first | (go_at_call 4; refine (HNB.out _ (balloc hbW'.out _)).mono ?_; rintro e w5 ⟨rfl, hb5⟩; have h5 := Lib.hid (bthen (balloc hbW'.out _) hb5)) | (go_at_call 7; refine (HCK.out _ h5.out).mono ?_; rintro e w6 ⟨rfl, hb6⟩))
              go_ret
              exact ⟨rfl, bthen h5.out hb6⟩
          · obtain rfl : k = fs.length := by omega
            obtain ⟨hown, hb⟩ := HPR.out
            rw [List.take_of_length_le (by rw [HXL.out]; exact Nat.le_refl _)] at hown
            obtain ⟨ov, cv, rfl, hfs2⟩ := forms_again HXL.out HX.out hown hb
            have HSUR := Lib.hid (sur_any ol ov L fs cl' cv wr hlm (hflS.out.below hb) (by unfold maxLen; omega) hfs2)
            have hBW := Lib.hid (bthen hBs.out hb)
            clear hown hb hfs2 HPR
            go_wp2_with fail
            refine HSUR.out.mono ?_
            rintro e w4 ⟨hb6, ⟨hne, _⟩ | ⟨_, o5, c5, rfl, hm5, hf5⟩⟩
            · exact absurd HSE.out hne
            have hcn := Lib.hid (contains_none o5 (surV L fs) c5 w4 hm5 hf5 HSV.out)
            generalize surV L fs = zs at *
            clear hf5
            go_wp2_with (go_at_call 10; refine hcn.out.mono ?_; rintro e w' ⟨rfl, rfl⟩)
            go_ret
            exact ⟨rfl, bthen hBW.out hb6⟩
end Go.Proofs.Ytimofofaeedcoaa
