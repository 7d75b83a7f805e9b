/-
  The walk of impose.Sheet. Printed by gen_sheet.py. Own text.
-/
import Derived.Test.YtdblibjmgamjeaaShtV
namespace Go.Proofs.Ytdblibjmgamjeaa
open Go.RowKit
set_option linter.unusedVariables false
theorem sheetRes : Try.f22.results = #[.cell 4 71, .tmp 5] := rfl
set_option maxRecDepth 100000 in
set_option maxHeartbeats 16000000 in
theorem sheet_any (l : Lay) (x : Sht) (hx : Good l x) (os : Option Addr) (cs : Nat) (n : Nat) (hn : n ≤ (pagesV l.sc x).length) (w : World) (hs : StpAt w l os cs) :
    Calls Try.prog 22 #[layV l os l.sc.steps.length cs, .int .i64 n] w (RetSheet l (frV l 0 ((pagesV l.sc x).take n)) (bkV l 0 ((pagesV l.sc x).take n)) w) := by
  obtain ⟨Ps, hPs⟩ : ∃ Ps, Ps = pagesV l.sc x := ⟨_, rfl⟩
  rw [← hPs] at hn ⊢
  have hr := hx.rng
  have hob := one_bd hx.f hr
  have hlg := hx.large
  have HCK : Hid (∀ W, Below w.heap.size w W → Calls Try.prog 7 #[layV l os l.sc.steps.length cs] W (RetCode (GoodL l) W)) := fun W hb => icheck_any l os cs W (hs.below hb)
  have HPG : Hid (∀ W, Below w.heap.size w W → Calls Try.prog 20 #[.agg #[.int .i64 l.sc.cols, .int .i64 l.sc.rows, .slice os l.sc.steps.length cs]] W (RetPages l.sc W)) := fun W hb => pages_any l.sc os cs W (hs.f.below hb) hs.m hs.c
  have HSZ : Hid (∀ W, Below w.heap.size w W → Calls Try.prog 21 #[layV l os l.sc.steps.length cs] W (RetII (fullW l) (fullH l) W)) := fun W hb => size_any l x hx.f hr os cs W (hs.below hb)
  have HPLC : Hid (∀ (i : Nat) (hi : i < Ps.length) (W : World), Below w.heap.size w W → Calls Try.prog 42 #[layV l os l.sc.steps.length cs, .int .i64 ((i : Int) + 1), .agg #[.bool Ps[i].back, .int .i64 Ps[i].col, .int .i64 Ps[i].row, .int .i64 Ps[i].turn]] W fun e w' => e = .returned (bxV (placeV l ((i : Int) + 1) Ps[i])) ∧ Below W.heap.size W w') := fun i hi W hb => by
    subst hPs
    have hpl := hx.f.plen
    have hlv := leaves_bd hx.f.inn
    have hdv : ((i : Int) + 1 - 1) / 2 < l.sc.cols * l.sc.rows := by
      have h : (i : Int) + 1 - 1 = i := by omega
      rw [h]; omega
    exact plc_any l x hx os cs ((i : Int) + 1) (by omega) hdv _ (hx.f.pgin hi) W (hs.below hb)
  have HPB : Hid (∀ (i : Nat) (hi : i < Ps.length), InOne l (placeV l ((i : Int) + 1) Ps[i]) ∧ PgIn l.sc.cols l.sc.rows (turnV (sideV l.sc)) Ps[i] ∧ (placeV l ((i : Int) + 1) Ps[i]).fw = oneW l ∧ (placeV l ((i : Int) + 1) Ps[i]).fh = oneH l ∧ 0 ≤ (placeV l ((i : Int) + 1) Ps[i]).w ∧ 0 ≤ (placeV l ((i : Int) + 1) Ps[i]).h) := fun i hi => by
    subst hPs
    have hpl := hx.f.plen
    have hlv := leaves_bd hx.f.inn
    have hsz := place_size l ((i : Int) + 1) (p := (pagesV l.sc x)[i])
    have hw := hr.w
    have hh := hr.h
    have hdv : ((i : Int) + 1 - 1) / 2 < l.sc.cols * l.sc.rows := by
      have h : (i : Int) + 1 - 1 = i := by omega
      rw [h]; omega
    exact ⟨place_one hx (by omega) hdv (hx.f.pgin hi), hx.f.pgin hi, rfl, rfl, by rw [hsz.1]; split <;> omega, by rw [hsz.2]; split <;> omega⟩
  have HST2 : Hid (l.style = 1 → fullW l = oneW l * 2) := fun e => by unfold fullW; rw [if_pos e]
  have HST3 : Hid (l.style = 2 → fullH l = oneH l * 2) := fun e => by unfold fullH; rw [if_pos e]
  have hsty := hr.style
  have hplen : (pagesV l.sc x).length ≤ 64 := by have := hx.f.plen; have := leaves_bd hx.f.inn; omega
  have hppos : 0 < (pagesV l.sc x).length := by have := hx.f.plen; have := leaves_bd hx.f.inn; omega
  have HXF := Lib.hid hx.f
  have HGL : Hid (GoodL l) := ⟨x, hx⟩
  obtain ⟨m, hm⟩ : ∃ m, m = l.sc.steps.length := ⟨_, rfl⟩
  rw [← hPs] at hplen hppos
  rw [← hm] at HCK HPG HSZ HPLC ⊢
  obtain ⟨W1, hW1⟩ : ∃ W1, W1 = (w.alloc (layO l os m cs)).alloc (.cells #[.int .i64 0, .int .i64 0, .slice none 0 0, .slice none 0 0] 71) := ⟨_, rfl⟩
  have hb1 : Below w.heap.size w W1 := by rw [hW1]; exact balloc (balloc (Below.refl _ w) _) _
  have hz1 : W1.heap.size = w.heap.size + 1 + 1 := by rw [hW1]; simp
  have ht1 : FTab (fun v : Value => v) W1 w.heap.size 11 (layF l os m cs) := by rw [hW1]; exact (layF_new w l os m cs _).alloc (by simp) _
  have ht2 : FTab (fun v : Value => v) W1 (w.heap.size + 1) 4 (shF (.int .i64 0) (.int .i64 0) (.slice none 0 0) (.slice none 0 0)) := by
    have h := shF_new (w.alloc (layO l os m cs)) (.int .i64 0) (.int .i64 0) (.slice none 0 0) (.slice none 0 0) 71
    rw [World.size_alloc] at h
    rw [hW1]; exact h
  obtain ⟨sty, hst⟩ : ∃ s, s = l.style := ⟨_, rfl⟩
  have HST := Lib.hid hst
  have HCE : Hid (∀ W, Below W1.heap.size W1 W → (W.cell? ⟨w.heap.size, 0, none⟩ = some (.int .i64 l.sc.cols) ∧ W.cell? ⟨w.heap.size, 1, none⟩ = some (.int .i64 l.sc.rows) ∧ W.cell? ⟨w.heap.size, 2, none⟩ = some (.slice os m cs) ∧ W.cell? ⟨w.heap.size, 3, none⟩ = some (.int .i64 l.w) ∧ W.cell? ⟨w.heap.size, 4, none⟩ = some (.int .i64 l.h) ∧ W.cell? ⟨w.heap.size, 5, none⟩ = some (.int .i64 l.head) ∧ W.cell? ⟨w.heap.size, 6, none⟩ = some (.int .i64 l.fore) ∧ W.cell? ⟨w.heap.size, 7, none⟩ = some (.int .i64 l.spine) ∧ W.cell? ⟨w.heap.size, 8, none⟩ = some (.int .i64 l.margin) ∧ W.cell? ⟨w.heap.size, 9, none⟩ = some (.int .i64 l.creep) ∧ W.cell? ⟨w.heap.size, 10, none⟩ = some (.int .i64 sty))) := fun W hb => by
    have h := ht1.below hb (by omega)
    rw [hst]
    exact ⟨h.at' 0 (by omega), h.at' 1 (by omega), h.at' 2 (by omega), h.at' 3 (by omega), h.at' 4 (by omega), h.at' 5 (by omega), h.at' 6 (by omega), h.at' 7 (by omega), h.at' 8 (by omega), h.at' 9 (by omega), h.at' 10 (by omega)⟩
  rw [← hst] at hsty
  have HW1 : Hid ((w.alloc (layO l os m cs)).alloc (.cells #[.int .i64 0, .int .i64 0, .slice none 0 0, .slice none 0 0] 71) = W1) := hW1.symm
  have HB1 := Lib.hid hb1
  have HZ1 := Lib.hid hz1
  have HT2 := Lib.hid ht2
  have HPS := Lib.hid hPs
  obtain ⟨FW, hFW⟩ : ∃ F, F = fullW l := ⟨_, rfl⟩
  obtain ⟨FH, hFH⟩ : ∃ F, F = fullH l := ⟨_, rfl⟩
  obtain ⟨OW, hOW⟩ : ∃ F, F = oneW l := ⟨_, rfl⟩
  obtain ⟨OH, hOH⟩ : ∃ F, F = oneH l := ⟨_, rfl⟩
  rw [← hFW, ← hFH] at HSZ hlg
  rw [← hFW, ← hOW] at HST2
  rw [← hFH, ← hOH] at HST3
  rw [← hOW, ← hOH] at hob
  have HNM : Hid (FW = fullW l ∧ FH = fullH l ∧ OW = oneW l ∧ OH = oneH l) := ⟨hFW, hFH, hOW, hOH⟩
  clear hW1 hb1 hz1 ht1 ht2 hs hx hm hPs hFW hFH hOW hOH hst hr
  unfold layO at HW1
  rw [← HST.out] at HW1
  have HLY : Hid (layV l os m cs = .agg #[.int .i64 l.sc.cols, .int .i64 l.sc.rows, .slice os m cs, .int .i64 l.w, .int .i64 l.h, .int .i64 l.head, .int .i64 l.fore, .int .i64 l.spine, .int .i64 l.margin, .int .i64 l.creep, .int .i64 sty]) := by show _ = _; rw [HST.out]
  have HLW : layV l os m cs = .agg #[.int .i64 l.sc.cols, .int .i64 l.sc.rows, .slice os m cs, .int .i64 l.w, .int .i64 l.h, .int .i64 l.head, .int .i64 l.fore, .int .i64 l.spine, .int .i64 l.margin, .int .i64 l.creep, .int .i64 sty] := HLY.out
  rw [HLW] at HCK HSZ HPLC ⊢
  clear HLW
  have HB1' := HB1.out
  go_enter Try.func22, Try.ntmps22
  go_upto_region 1 with fail
  rw [HW1.out]
  clear HW1
  obtain ⟨c0, c1, c2, c3, c4, c5, c6, c7, c8, c9, c10⟩ := HCE.out W1 (Below.refl _ W1)
  have HL := Lib.hid (HCK.out W1 HB1.out)
  clear HB1' HCK
  go_wp2_with fail
  refine HL.out.mono ?_
  intro e w2 hret
  obtain ⟨rfl, hb2⟩ := hret.ok HGL.out
  have HB2 := Lib.hid hb2
  clear c0 c1 c2 c3 c4 c5 c6 c7 c8 c9 c10 HL hb2 hret
  obtain ⟨c0, c1, c2, c3, c4, c5, c6, c7, c8, c9, c10⟩ := HCE.out w2 HB2.out
  have HL := Lib.hid (HPG.out w2 (bthen HB1.out HB2.out))
  clear HPG
  go_wp2_with fail
  refine HL.out.mono ?_
  intro e w3 hret
  obtain ⟨hb3, oa, capP, rfl, hcap, hfl⟩ := hret.ok HXF.out
  rw [← HPS.out] at hcap hfl ⊢
  have HB3 := Lib.hid (bthen HB2.out hb3)
  have HFL := Lib.hid hfl
  obtain ⟨PL, hPL⟩ : ∃ PL, PL = Ps.length := ⟨_, rfl⟩
  rw [← hPL] at hn hplen hppos hcap ⊢
  have HPL := Lib.hid hPL
  obtain ⟨b, off, rfl, HPC⟩ : ∃ b off, oa = some ⟨b, off, none⟩ ∧ True := by
    obtain ⟨b, off, e, -⟩ := hfl.pg (i := 0) (by omega)
    exact ⟨b, off, e, trivial⟩
  clear c0 c1 c2 c3 c4 c5 c6 c7 c8 c9 c10 HL hb3 hret hfl hPL HPC
  obtain ⟨c0, c1, c2, c3, c4, c5, c6, c7, c8, c9, c10⟩ := HCE.out w3 HB3.out
  have k1 : (n : Int) ≤ (PL : Int) := by omega
  have kq : ¬ (PL < n) := by omega
  have kq2 : ¬ ((n : Int) < 0) := by omega
  have k2 : n ≤ capP := by omega
  have k3 : ¬ (capP = 0) := by omega
  have hnew := shF_new w3 (.int .i64 0) (.int .i64 0) (.slice none 0 0) (.slice none 0 0) 71
  obtain ⟨w4, hw4⟩ : ∃ w4, w4 = w3.alloc (.cells #[.int .i64 0, .int .i64 0, .slice none 0 0, .slice none 0 0] 71) := ⟨_, rfl⟩
  rw [← hw4] at hnew
  have hb4 : Below w3.heap.size w3 w4 := by rw [hw4]; exact balloc (Below.refl _ w3) _
  have hz4 : w4.heap.size = w3.heap.size + 1 := by rw [hw4]; simp
  have HW4 := Lib.hid hw4
  have HB34 := Lib.hid hb4
  have HT4 := Lib.hid hnew
  have HZ4 := Lib.hid hz4
  have hl := HSZ.out w4 (bthen HB1.out (bthen HB3.out hb4))
  have HL := Lib.hid hl
  clear HSZ hnew hw4 hb4 hz4 hl
  go_upto_region 8 with fail
  rw [← HW4.out]
  clear HW4 c0 c1 c2 c3 c4 c5 c6 c7 c8 c9 c10
  obtain ⟨c0, c1, c2, c3, c4, c5, c6, c7, c8, c9, c10⟩ := HCE.out w4 (bthen HB3.out HB34.out)
  go_wp2_with fail
  refine HL.out.mono ?_
  intro e w5 hret
  obtain ⟨rfl, hb5⟩ := hret
  have t5 := HT4.out.below hb5 (by rw [HZ4.out]; omega)
  have s0 : w5.cell? ⟨w3.heap.size, 0, none⟩ = some (.int .i64 0) := t5.at' 0 (by omega)
  have s1 : w5.cell? ⟨w3.heap.size, 1, none⟩ = some (.int .i64 0) := t5.at' 1 (by omega)
  have sf := t5.fz
  have HSU : Hid (ShU w3 ((w5.setCell ⟨w3.heap.size, 0, none⟩ (.int .i64 FW)).setCell ⟨w3.heap.size, 1, none⟩ (.int .i64 FH)) w3.heap.size FW FH (.slice none 0 0) (.slice none 0 0) (frV l 0 (Ps.take 0)) (bkV l 0 (Ps.take 0))) := by
    have hz := hb5.size
    have hz4 := HZ4.out
    refine ⟨((bthen HB34.out hb5).setCell (p := ⟨w3.heap.size, 0, none⟩) (Nat.le_refl _) _).setCell (p := ⟨w3.heap.size, 1, none⟩) (Nat.le_refl _) _, ?_, Own.nil _ _ _ _ _, Own.nil _ _ _ _ _, fun e => by simp [Value.ownBlock] at e, fun e => by simp [Value.ownBlock] at e, fun g e => by simp [Value.ownBlock] at e, by simp; omega, Nat.le_refl _⟩
    exact ((t5.set (i := 0) (by omega) (.int .i64 FW)).set (i := 1) (by omega) (.int .i64 FH)).congr fun i hi => match i, hi with
      | 0, _ => rfl
      | 1, _ => rfl
      | 2, _ => rfl
      | 3, _ => rfl
  clear c0 c1 c2 c3 c4 c5 c6 c7 c8 c9 c10 HL t5 hb5
  dsimp only
  obtain ⟨w6, hw6⟩ : ∃ w6, w6 = (w5.setCell ⟨w3.heap.size, 0, none⟩ (.int .i64 FW)).setCell ⟨w3.heap.size, 1, none⟩ (.int .i64 FH) := ⟨_, rfl⟩
  rw [← hw6] at HSU
  have HW6 := Lib.hid hw6
  clear hw6
  go_upto_region 9 with fail
  rw [← HW6.out]
  clear HW6 s0 s1 sf
  obtain ⟨s, hs⟩ : ∃ s, s = w3.heap.size := ⟨_, rfl⟩
  have HS0 := Lib.hid hs
  rw [← hs] at HSU ⊢
  clear hs
  go_wp2_with fail
  go_loopw [46] (fun i wr => ∃ k : Nat, k ≤ n ∧ i = .int .i64 k ∧ Hid (∃ vF vB, ShU w3 wr s FW FH vF vB (frV l 0 (Ps.take k)) (bkV l 0 (Ps.take k)))) (fun i _ => n - (intOf i).toNat)
  case atStart => exact ⟨0, by omega, rfl, _, _, HSU.out⟩
  case round =>
    clear HSU
    obtain ⟨k, hk, rfl, HY⟩ := hrel
    obtain ⟨wa, rfl⟩ : ∃ wa : World, wa = wr := ⟨_, rfl⟩
    obtain ⟨vF, vB, hU⟩ := HY.out
    have HS1 := Lib.hid hU
    obtain ⟨oF, kF, hvF, -⟩ := hU.opF.isSlc
    obtain ⟨oB, kB, hvB, -⟩ := hU.opB.isSlc
    obtain ⟨nF, hnF⟩ : ∃ n, n = (frV l 0 (Ps.take k)).length := ⟨_, rfl⟩
    obtain ⟨nB, hnB⟩ : ∃ n, n = (bkV l 0 (Ps.take k)).length := ⟨_, rfl⟩
    rw [← hnF] at hvF
    rw [← hnB] at hvB
    have HLN : Hid (nF = (frV l 0 (Ps.take k)).length ∧ nB = (bkV l 0 (Ps.take k)).length ∧ nF ≤ 64 ∧ nB ≤ 64) := by
      have h1 := frV_len l (Ps.take k) 0
      have h2 := bkV_len l (Ps.take k) 0
      have h3 : (Ps.take k).length ≤ 64 := by rw [List.length_take]; omega
      exact ⟨hnF, hnB, by omega, by omega⟩
    subst hvF hvB
    clear hU HY hnF hnB
    by_cases hlt : k < n
    · have kd : (k : Int) < (n : Int) := by omega
      have hkl : k < Ps.length := by rw [← HPL.out]; omega
      have hfa : Flat wa 4 encPg (some ⟨b, off, none⟩) Ps := HFL.out.below HS1.out.bel
      obtain ⟨lb, loff, he, l0, l1, l2, l3⟩ := hfa.pg hkl
      simp only [Option.some.injEq, Addr.mk.injEq, and_true] at he
      obtain ⟨rfl, rfl⟩ := he
      obtain ⟨bk, hbk⟩ : ∃ q, q = Ps[k].back := ⟨_, rfl⟩
      obtain ⟨pc, hpc⟩ : ∃ q, q = Ps[k].col := ⟨_, rfl⟩
      obtain ⟨pr, hpr⟩ : ∃ q, q = Ps[k].row := ⟨_, rfl⟩
      obtain ⟨pt0, hpt⟩ : ∃ q, q = Ps[k].turn := ⟨_, rfl⟩
      have hplc := HPLC.out k hkl
      obtain ⟨hin, hpg, hfw, hfh, hbw, hbh⟩ := HPB.out k hkl
      obtain ⟨B, hB⟩ : ∃ B, B = placeV l ((k : Int) + 1) Ps[k] := ⟨_, rfl⟩
      rw [← hB, ← hbk, ← hpc, ← hpr, ← hpt] at hplc
      rw [← hB] at hin hfw hfh hbw hbh
      rw [← hbk] at l0
      rw [← hpc] at l1
      rw [← hpr] at l2
      rw [← hpt] at l3
      have htb := hpg.t
      rw [← hpt] at htb
      have HBK := Lib.hid hbk
      have HPT := Lib.hid hpt.symm
      have HBB := Lib.hid hB.symm
      have htake : Ps.take (k + 1) = Ps.take k ++ [Ps[k]] := List.take_succ_eq_append_getElem hkl
      have HSF : Hid (frV l 0 (Ps.take (k + 1)) = frV l 0 (Ps.take k) ++ (if onF l Ps[k] then [plV l k Ps[k]] else [])) := by
        show _ = _
        rw [htake, frV_snoc, List.length_take, Nat.min_eq_left (by omega), Nat.zero_add]
      have HSB : Hid (bkV l 0 (Ps.take (k + 1)) = bkV l 0 (Ps.take k) ++ (if onB l Ps[k] then [plV l k Ps[k]] else [])) := by
        show _ = _
        rw [htake, bkV_snoc, List.length_take, Nat.min_eq_left (by omega), Nat.zero_add]
      obtain ⟨xF, hxF⟩ : ∃ xF, xF = frV l 0 (Ps.take k) := ⟨_, rfl⟩
      obtain ⟨xB, hxB⟩ : ∃ xB, xB = bkV l 0 (Ps.take k) := ⟨_, rfl⟩
      rw [← hxF] at HS1 HLN HSF
      rw [← hxB] at HS1 HLN HSB
      have y1 : IntKind.i64.wrap ((k : Int) + 1) = (k : Int) + 1 := IntWalk.i64_in _ (by omega)
      -- the page's variable
      obtain ⟨wb, hwb⟩ : ∃ wb, wb = wa.alloc (.cells #[.bool bk, .int .i64 pc, .int .i64 pr, .int .i64 pt0] 99) := ⟨_, rfl⟩
      have hbb : Below wa.heap.size wa wb := by rw [hwb]; exact balloc (Below.refl _ wa) _
      have htp : FTab (fun v : Value => v) wb wa.heap.size 4 (pgF (.bool bk) (.int .i64 pc) (.int .i64 pr) (.int .i64 pt0)) := by rw [hwb]; exact pgF_new wa _ _ _ _ _
      have hzb : wb.heap.size = wa.heap.size + 1 := by rw [hwb]; simp
      have HWB := Lib.hid hwb
      have HTP := Lib.hid htp
      have HZB := Lib.hid hzb
      have HBB1 := Lib.hid hbb
      have HSb := Lib.hid (HS1.out.below hbb)
      have HPLK := Lib.hid (hplc wb (bthen HB1.out (HB3.out.trans (HSb.out.bel.mono HB3.out.size))))
      have HIN := Lib.hid hin
      have HBD : Hid (BxBd B) := ⟨⟨by have := hin.x0; omega, by rw [hfw]; exact hin.x1, by have := hin.y0; omega, by rw [hfh]; exact hin.y1⟩, hbw, hbh, by rw [hfw, ← HNM.out.2.2.1]; omega, by rw [hfh, ← HNM.out.2.2.2]; omega⟩
      have HFWB : Hid (B.fw = OW ∧ B.fh = OH) := ⟨by rw [hfw, HNM.out.2.2.1], by rw [hfh, HNM.out.2.2.2]⟩
      clear hwb hbb htp hzb hplc hin hpg hfw hfh hB hbk hpc hpr hpt htake hxF hxB hfa hbw hbh
      go_upto_region 12 with fail
      rw [← HWB.out]
      clear HWB l0 l1 l2 l3
      obtain ⟨c0, c1, c2, c3, c4, c5, c6, c7, c8, c9, c10⟩ := HCE.out wb (HB3.out.trans (HSb.out.bel.mono HB3.out.size))
      have p0 : wb.cell? ⟨wa.heap.size, 0, none⟩ = some (.bool bk) := HTP.out.at' 0 (by omega)
      have p1 : wb.cell? ⟨wa.heap.size, 1, none⟩ = some (.int .i64 pc) := HTP.out.at' 1 (by omega)
      have p2 : wb.cell? ⟨wa.heap.size, 2, none⟩ = some (.int .i64 pr) := HTP.out.at' 2 (by omega)
      have p3 : wb.cell? ⟨wa.heap.size, 3, none⟩ = some (.int .i64 pt0) := HTP.out.at' 3 (by omega)
      go_wp2_with fail
      refine HPLK.out.mono ?_
      rintro e w7 ⟨rfl, hb7⟩
      clear c0 c1 c2 c3 c4 c5 c6 c7 c8 c9 c10 p0 p1 p2 p3
      dsimp only
      have hS7 := HSb.out.below hb7
      have hT7 := HTP.out.below hb7 (by rw [HZB.out]; omega)
      obtain ⟨w8, hw8⟩ : ∃ w8, w8 = w7.alloc (.cells #[.int .i64 B.fw, .int .i64 B.fh, .int .i64 B.x, .int .i64 B.y, .int .i64 B.w, .int .i64 B.h] 118) := ⟨_, rfl⟩
      have hb8 : Below w7.heap.size w7 w8 := by rw [hw8]; exact balloc (Below.refl _ w7) _
      have hz8 : w8.heap.size = w7.heap.size + 1 := by rw [hw8]; simp
      have hX8 : BxAt w8 w7.heap.size B := by rw [hw8]; exact bxF_new w7 B
      have hT8 := hT7.below hb8 (by have := hb7.size; have := HZB.out; omega)
      have HW8 := Lib.hid hw8
      have HBW8 := Lib.hid (((HBB1.out.trans (hb7.mono HBB1.out.size))).trans (hb8.mono (by have := hb7.size; have := HZB.out; omega)))
      have HS8 := Lib.hid (hS7.below hb8)
      have HT8 := Lib.hid hT8
      have HX8 := Lib.hid hX8
      have HSZ8 : Hid (wa.heap.size < w7.heap.size ∧ w8.heap.size = w7.heap.size + 1) := ⟨by have := hb7.size; have := HZB.out; omega, hz8⟩
      clear hS7 hT7 hw8 hb8 hz8 hX8 hT8 hb7
      go_upto_region 13 with fail
      rw [← HW8.out]
      clear HW8
      obtain ⟨g12, hg12⟩ : ∃ g, g = w7.heap.size := ⟨_, rfl⟩
      rw [← hg12] at HX8 HSZ8 ⊢
      clear hg12
      have b2 : w8.cell? ⟨g12, 2, none⟩ = some (.int .i64 B.x) := HX8.out.at' 2 (by omega)
      have b3 : w8.cell? ⟨g12, 3, none⟩ = some (.int .i64 B.y) := HX8.out.at' 3 (by omega)
      have p3 : w8.cell? ⟨wa.heap.size, 3, none⟩ = some (.int .i64 pt0) := HT8.out.at' 3 (by omega)
      obtain ⟨w9, hw9⟩ : ∃ w9, w9 = w8.alloc (.cells #[.int .i64 ((k : Int) + 1), .int .i64 B.x, .int .i64 B.y, .int .i64 pt0] 84) := ⟨_, rfl⟩
      have hb9 : Below w8.heap.size w8 w9 := by rw [hw9]; exact balloc (Below.refl _ w8) _
      have hE9 : FTab (fun v : Value => v) w9 w8.heap.size 4 (shF (.int .i64 ((k : Int) + 1)) (.int .i64 B.x) (.int .i64 B.y) (.int .i64 pt0)) := by rw [hw9]; exact shF_new w8 _ _ _ _ _
      have HW9 := Lib.hid hw9
      have HBWA : Hid (Below wa.heap.size wa w9) := HBW8.out.trans (hb9.mono HBW8.out.size)
      have HE9 := Lib.hid hE9
      have HS9 := Lib.hid (HS8.out.below hb9)
      have HT9 := Lib.hid (HT8.out.below hb9 (by have := HSZ8.out; omega))
      have HX9 := Lib.hid (HX8.out.below hb9 (by have := HSZ8.out; omega))
      have HSZ9 : Hid (w8.heap.size < w9.heap.size) := by show _ < _; rw [hw9]; simp
      clear hw9 hb9 hE9
      go_upto_region 14 with fail
      rw [← HW9.out]
      clear HW9 b2 b3 p3
      obtain ⟨g13, hg13⟩ : ∃ g, g = w8.heap.size := ⟨_, rfl⟩
      rw [← hg13] at HE9 HSZ8 HSZ9 ⊢
      clear hg13
      have HGS : Hid (s < wa.heap.size ∧ wa.heap.size < g12 ∧ g12 < g13 ∧ g13 < w9.heap.size) := ⟨HS1.out.lt, HSZ8.out.1, by have := HSZ8.out.2; omega, HSZ9.out⟩
      obtain ⟨g11, hg11⟩ : ∃ g, g = wa.heap.size := ⟨_, rfl⟩
      have HG11 := Lib.hid hg11
      rw [← hg11] at HT9 HGS ⊢
      clear hg11 HT8 HX8 HS8 HSZ8 HSZ9 HSb HTP HZB HBB1
      obtain ⟨c0, c1, c2, c3, c4, c5, c6, c7, c8, c9, c10⟩ := HCE.out w9 (HB3.out.trans (HS9.out.bel.mono HB3.out.size))
      have p0 : w9.cell? ⟨g11, 0, none⟩ = some (.bool bk) := HT9.out.at' 0 (by omega)
      have x0 : w9.cell? ⟨g12, 0, none⟩ = some (.int .i64 B.fw) := HX9.out.at' 0 (by omega)
      have x1 : w9.cell? ⟨g12, 1, none⟩ = some (.int .i64 B.fh) := HX9.out.at' 1 (by omega)
      have x2 : w9.cell? ⟨g12, 2, none⟩ = some (.int .i64 B.x) := HX9.out.at' 2 (by omega)
      have x3 : w9.cell? ⟨g12, 3, none⟩ = some (.int .i64 B.y) := HX9.out.at' 3 (by omega)
      have x4 : w9.cell? ⟨g12, 4, none⟩ = some (.int .i64 B.w) := HX9.out.at' 4 (by omega)
      have x5 : w9.cell? ⟨g12, 5, none⟩ = some (.int .i64 B.h) := HX9.out.at' 5 (by omega)
      have e0 : w9.cell? ⟨g13, 0, none⟩ = some (.int .i64 ((k : Int) + 1)) := HE9.out.at' 0 (by omega)
      have e1 : w9.cell? ⟨g13, 1, none⟩ = some (.int .i64 B.x) := HE9.out.at' 1 (by omega)
      have e2 : w9.cell? ⟨g13, 2, none⟩ = some (.int .i64 B.y) := HE9.out.at' 2 (by omega)
      have e3 : w9.cell? ⟨g13, 3, none⟩ = some (.int .i64 pt0) := HE9.out.at' 3 (by omega)
      have s0 : w9.cell? ⟨s, 0, none⟩ = some (.int .i64 FW) := HS9.out.tab.at' 0 (by omega)
      have s1 : w9.cell? ⟨s, 1, none⟩ = some (.int .i64 FH) := HS9.out.tab.at' 1 (by omega)
      have s2 : w9.cell? ⟨s, 2, none⟩ = some (.slice oF nF kF) := HS9.out.tab.at' 2 (by omega)
      have s3 : w9.cell? ⟨s, 3, none⟩ = some (.slice oB nB kB) := HS9.out.tab.at' 3 (by omega)
      have ef := HE9.out.fz
      have xf := HX9.out.fz
      obtain ⟨t0', t4'⟩ := htb
      have hsc : sty = 0 ∨ sty = 1 ∨ sty = 2 := by omega
      have HBB9 : Hid (Below wa.heap.size wa w9) := HBWA.out
      rcases hsc with rfl | rfl | rfl
      · cases bk with
        | false =>
          have HEV : Hid (plV l k (Ps[k]'hkl) = ⟨(k : Int) + 1, B.x, B.y, pt0⟩) := by
            show _ = _
            unfold plV
            rw [if_neg (fun h => absurd (HBK.out.trans h.2) (by decide)), if_neg (fun h => absurd (HBK.out.trans h.2) (by decide)), HBB.out, HPT.out]
          have HFN : Hid (frV l 0 (Ps.take (k + 1)) = xF ++ [plV l k (Ps[k]'hkl)]) := by
            have h := HSF.out
            have e : onF l (Ps[k]'hkl) = true := by unfold onF; rw [← HST.out, ← HBK.out]; rfl
            rw [e] at h; exact h
          have HBN : Hid (bkV l 0 (Ps.take (k + 1)) = xB ++ []) := by
            have h := HSB.out
            have e : onB l (Ps[k]'hkl) = false := by unfold onB; rw [← HST.out, ← HBK.out]; rfl
            rw [e] at h; exact h
          clear HSF HSB
          have HEZ := HE9
          have HBZ : Hid (Below wa.heap.size w9 w9) := Below.refl _ w9
          go_upto_region 21 with fail
          obtain ⟨wz, hwz⟩ : ∃ wz, wz = w9 := ⟨_, rfl⟩
          rw [← hwz] at HEZ ⊢
          have HBZ : Hid (Below wa.heap.size w9 wz) := by show Below _ _ _; rw [hwz]; exact Below.refl _ w9
          clear hwz
          obtain ⟨pa, hpa⟩ : ∃ q, q = (k : Int) + 1 := ⟨_, rfl⟩
          obtain ⟨px, hpx⟩ : ∃ q, q = B.x := ⟨_, rfl⟩
          obtain ⟨py, hpy⟩ : ∃ q, q = B.y := ⟨_, rfl⟩
          obtain ⟨pt, hpt⟩ : ∃ q, q = pt0 := ⟨_, rfl⟩
          rw [← hpa, ← hpx, ← hpy, ← hpt] at HEV HEZ
          rw [HEV.out] at HFN
          clear hpa hpx hpy hpt
          have HSZ : Hid (ShU w3 wz s FW FH (.slice oF nF kF) (.slice oB nB kB) xF xB) := HS1.out.below ((HBB9.out).trans HBZ.out)
          clear c0 c1 c2 c3 c4 c5 c6 c7 c8 c9 c10 p0 x0 x1 x2 x3 x4 x5 e0 e1 e2 e3 s0 s1 s2 s3 ef xf
          obtain ⟨c0, c1, c2, c3, c4, c5, c6, c7, c8, c9, c10⟩ := HCE.out wz (HB3.out.trans (HSZ.out.bel.mono HB3.out.size))
          have e0 : wz.cell? ⟨g13, 0, none⟩ = some (.int .i64 pa) := HEZ.out.at' 0 (by omega)
          have e1 : wz.cell? ⟨g13, 1, none⟩ = some (.int .i64 px) := HEZ.out.at' 1 (by omega)
          have e2 : wz.cell? ⟨g13, 2, none⟩ = some (.int .i64 py) := HEZ.out.at' 2 (by omega)
          have e3 : wz.cell? ⟨g13, 3, none⟩ = some (.int .i64 pt) := HEZ.out.at' 3 (by omega)
          have s2 : wz.cell? ⟨s, 2, none⟩ = some (.slice oF nF kF) := HSZ.out.tab.at' 2 (by omega)
          have HAF := Lib.hid (HSZ.out.below (balloc (Below.refl _ wz) (.cells #[.int .i64 pa, .int .i64 px, .int .i64 py, .int .i64 pt] 84)))
          have HNF : Hid (∀ (j : Nat) (u : Value), (encPl ⟨pa, px, py, pt⟩)[j]? = some u → (wz.alloc (.cells #[.int .i64 pa, .int .i64 px, .int .i64 py, .int .i64 pt] 84)).cell? ((⟨wz.heap.size, 0, none⟩ : Addr).add j) = some u) := World.news_of_block (cs := #[.int .i64 pa, .int .i64 px, .int .i64 py, .int .i64 pt]) (t := 84) (fr := (0, 0)) (heap_alloc_new wz _)
          go_wp2_with (at_builtin; refine wpList_app1L rfl (.tmp 120) (.tmp 122) 69 rfl elemPl Try.underlying69 w3.heap.size (.slice oF nF kF) xF encPl rfl HAF.out.opF ⟨pa, px, py, pt⟩ ⟨wz.heap.size, 0, none⟩ 1 rfl rfl HNF.out ?c1 ?c2 ?c3 ?c4 ?_)
          case c1 => simp [encPl, Value.oneCell']
          case c2 => have := HLN.out; omega
          case c3 => have := HLN.out; unfold maxLen; omega
          case c4 => have := HAF.out.bel.size; omega
          rw [← HLN.out.1]
          intro g5F cap5F w6F hown6 hgr6 hat6
          have hat : (Value.slice (some ⟨g5F, 0, none⟩) (nF + 1) cap5F).ownBlock = (Value.slice oF nF kF).ownBlock ∨ (Value.slice (some ⟨g5F, 0, none⟩) (nF + 1) cap5F).ownBlock = some (wz.alloc (.cells #[.int .i64 pa, .int .i64 px, .int .i64 py, .int .i64 pt] 84)).heap.size := by
            rcases hat6 with e | e
            · exact .inl e.symm
            · exact .inr (by rw [e]; simp [Value.ownBlock])
          have hmid := HAF.out.midF hgr6
          have mF : w6F.cell? ⟨s, 2, none⟩ = some (.slice oF nF kF) := hmid.at' 2 (by omega)
          have mfF := hmid.fz 2
          have HRF := Lib.hid (HAF.out.addF hown6 hgr6 hat)
          obtain ⟨wy, hwy⟩ : ∃ wy, wy = w6F.setCell ⟨s, 2, none⟩ (.slice (some ⟨g5F, 0, none⟩) (nF + 1) cap5F) := ⟨_, rfl⟩
          rw [← hwy] at HRF
          have HEY : Hid (FTab (fun v : Value => v) wy g13 4 (shF (.int .i64 pa) (.int .i64 px) (.int .i64 py) (.int .i64 pt))) := by
            have hzz := HBZ.out.size
            have hg := HGS.out
            have hg1 := HG11.out
            have h := HEZ.out.alloc (by omega) (.cells #[.int .i64 pa, .int .i64 px, .int .i64 py, .int .i64 pt] 84)
            exact h.heap (HRF.out.2.1 g13 (by rw [World.size_alloc]; omega) (by omega) (fun e => by have := (HS1.out.opF.blk e).2; omega))
          have HSY := Lib.hid HRF.out.1
          have HWY := Lib.hid hwy
          clear hown6 hgr6 hat6 hat hmid HNF HRF hwy c0 c1 c2 c3 c4 c5 c6 c7 c8 c9 c10 e0 e1 e2 e3 s2
          go_upto_region 22 with fail
          rw [← HWY.out]
          clear HWY mF mfF
          obtain ⟨c0, c1, c2, c3, c4, c5, c6, c7, c8, c9, c10⟩ := HCE.out wy (HB3.out.trans (HSY.out.bel.mono HB3.out.size))
          have e0 : wy.cell? ⟨g13, 0, none⟩ = some (.int .i64 pa) := HEY.out.at' 0 (by omega)
          have e1 : wy.cell? ⟨g13, 1, none⟩ = some (.int .i64 px) := HEY.out.at' 1 (by omega)
          have e2 : wy.cell? ⟨g13, 2, none⟩ = some (.int .i64 py) := HEY.out.at' 2 (by omega)
          have e3 : wy.cell? ⟨g13, 3, none⟩ = some (.int .i64 pt) := HEY.out.at' 3 (by omega)
          have HNX : Hid (ShU w3 wy s FW FH (.slice (some ⟨g5F, 0, none⟩) (nF + 1) cap5F) (.slice oB nB kB) (frV l 0 (Ps.take (k + 1))) (bkV l 0 (Ps.take (k + 1)))) := by
            show ShU _ _ _ _ _ _ _ _ _
            rw [HFN.out, HBN.out, List.append_nil]
            exact HSY.out
          go_wp2_with fail
          go_roundw
          case rel => exact ⟨k + 1, by omega, by go_num, _, _, HNX.out⟩
          case measure => simp [intOf]; omega
        | true =>
          have HEV : Hid (plV l k (Ps[k]'hkl) = ⟨(k : Int) + 1, B.x, B.y, pt0⟩) := by
            show _ = _
            unfold plV
            rw [if_neg (fun h => absurd (HST.out.trans h.1) (by decide)), if_neg (fun h => absurd (HST.out.trans h.1) (by decide)), HBB.out, HPT.out]
          have HFN : Hid (frV l 0 (Ps.take (k + 1)) = xF ++ []) := by
            have h := HSF.out
            have e : onF l (Ps[k]'hkl) = false := by unfold onF; rw [← HST.out, ← HBK.out]; rfl
            rw [e] at h; exact h
          have HBN : Hid (bkV l 0 (Ps.take (k + 1)) = xB ++ [plV l k (Ps[k]'hkl)]) := by
            have h := HSB.out
            have e : onB l (Ps[k]'hkl) = true := by unfold onB; rw [← HST.out, ← HBK.out]; rfl
            rw [e] at h; exact h
          clear HSF HSB
          have HEZ := HE9
          have HBZ : Hid (Below wa.heap.size w9 w9) := Below.refl _ w9
          go_upto_region 15 with fail
          obtain ⟨wz, hwz⟩ : ∃ wz, wz = w9 := ⟨_, rfl⟩
          rw [← hwz] at HEZ ⊢
          have HBZ : Hid (Below wa.heap.size w9 wz) := by show Below _ _ _; rw [hwz]; exact Below.refl _ w9
          clear hwz
          obtain ⟨pa, hpa⟩ : ∃ q, q = (k : Int) + 1 := ⟨_, rfl⟩
          obtain ⟨px, hpx⟩ : ∃ q, q = B.x := ⟨_, rfl⟩
          obtain ⟨py, hpy⟩ : ∃ q, q = B.y := ⟨_, rfl⟩
          obtain ⟨pt, hpt⟩ : ∃ q, q = pt0 := ⟨_, rfl⟩
          rw [← hpa, ← hpx, ← hpy, ← hpt] at HEV HEZ
          rw [HEV.out] at HBN
          clear hpa hpx hpy hpt
          have HSZ : Hid (ShU w3 wz s FW FH (.slice oF nF kF) (.slice oB nB kB) xF xB) := HS1.out.below ((HBB9.out).trans HBZ.out)
          clear c0 c1 c2 c3 c4 c5 c6 c7 c8 c9 c10 x0 x1 x2 x3 x4 x5 e0 e1 e2 e3 s0 s1 s2 s3 ef xf p0
          obtain ⟨c0, c1, c2, c3, c4, c5, c6, c7, c8, c9, c10⟩ := HCE.out wz (HB3.out.trans (HSZ.out.bel.mono HB3.out.size))
          have e0 : wz.cell? ⟨g13, 0, none⟩ = some (.int .i64 pa) := HEZ.out.at' 0 (by omega)
          have e1 : wz.cell? ⟨g13, 1, none⟩ = some (.int .i64 px) := HEZ.out.at' 1 (by omega)
          have e2 : wz.cell? ⟨g13, 2, none⟩ = some (.int .i64 py) := HEZ.out.at' 2 (by omega)
          have e3 : wz.cell? ⟨g13, 3, none⟩ = some (.int .i64 pt) := HEZ.out.at' 3 (by omega)
          have s3 : wz.cell? ⟨s, 3, none⟩ = some (.slice oB nB kB) := HSZ.out.tab.at' 3 (by omega)
          have HAB := Lib.hid (HSZ.out.below (balloc (Below.refl _ wz) (.cells #[.int .i64 pa, .int .i64 px, .int .i64 py, .int .i64 pt] 84)))
          have HNB : Hid (∀ (j : Nat) (u : Value), (encPl ⟨pa, px, py, pt⟩)[j]? = some u → (wz.alloc (.cells #[.int .i64 pa, .int .i64 px, .int .i64 py, .int .i64 pt] 84)).cell? ((⟨wz.heap.size, 0, none⟩ : Addr).add j) = some u) := World.news_of_block (cs := #[.int .i64 pa, .int .i64 px, .int .i64 py, .int .i64 pt]) (t := 84) (fr := (0, 0)) (heap_alloc_new wz _)
          go_wp2_with (at_builtin; refine wpList_app1L rfl (.tmp 74) (.tmp 76) 69 rfl elemPl Try.underlying69 w3.heap.size (.slice oB nB kB) xB encPl rfl HAB.out.opB ⟨pa, px, py, pt⟩ ⟨wz.heap.size, 0, none⟩ 1 rfl rfl HNB.out ?c1 ?c2 ?c3 ?c4 ?_)
          case c1 => simp [encPl, Value.oneCell']
          case c2 => have := HLN.out; omega
          case c3 => have := HLN.out; unfold maxLen; omega
          case c4 => have := HAB.out.bel.size; omega
          rw [← HLN.out.2.1]
          intro g5B cap5B w6B hown6 hgr6 hat6
          have hat : (Value.slice (some ⟨g5B, 0, none⟩) (nB + 1) cap5B).ownBlock = (Value.slice oB nB kB).ownBlock ∨ (Value.slice (some ⟨g5B, 0, none⟩) (nB + 1) cap5B).ownBlock = some (wz.alloc (.cells #[.int .i64 pa, .int .i64 px, .int .i64 py, .int .i64 pt] 84)).heap.size := by
            rcases hat6 with e | e
            · exact .inl e.symm
            · exact .inr (by rw [e]; simp [Value.ownBlock])
          have hmid := HAB.out.midB hgr6
          have mB : w6B.cell? ⟨s, 3, none⟩ = some (.slice oB nB kB) := hmid.at' 3 (by omega)
          have mfB := hmid.fz 3
          have HRB := Lib.hid (HAB.out.addB hown6 hgr6 hat)
          have HNX : Hid (ShU w3 (w6B.setCell ⟨s, 3, none⟩ (.slice (some ⟨g5B, 0, none⟩) (nB + 1) cap5B)) s FW FH (.slice oF nF kF) (.slice (some ⟨g5B, 0, none⟩) (nB + 1) cap5B) (frV l 0 (Ps.take (k + 1))) (bkV l 0 (Ps.take (k + 1)))) := by
            show ShU _ _ _ _ _ _ _ _ _
            rw [HFN.out, HBN.out, List.append_nil]
            exact HRB.out
          clear hown6 hgr6 hat6 hat hmid HNB HRB c0 c1 c2 c3 c4 c5 c6 c7 c8 c9 c10 e0 e1 e2 e3 s3
          go_wp2_with fail
          go_roundw
          case rel => exact ⟨k + 1, by omega, by go_num, _, _, HNX.out⟩
          case measure => simp [intOf]; omega
      · cases bk with
        | false =>
          have HEV : Hid (plV l k (Ps[k]'hkl) = ⟨(k : Int) + 1, B.x, B.y, pt0⟩) := by
            show _ = _
            unfold plV
            rw [if_neg (fun h => absurd (HBK.out.trans h.2) (by decide)), if_neg (fun h => absurd (HBK.out.trans h.2) (by decide)), HBB.out, HPT.out]
          have HFN : Hid (frV l 0 (Ps.take (k + 1)) = xF ++ [plV l k (Ps[k]'hkl)]) := by
            have h := HSF.out
            have e : onF l (Ps[k]'hkl) = true := by unfold onF; rw [← HST.out, ← HBK.out]; rfl
            rw [e] at h; exact h
          have HBN : Hid (bkV l 0 (Ps.take (k + 1)) = xB ++ [plV l k (Ps[k]'hkl)]) := by
            have h := HSB.out
            have e : onB l (Ps[k]'hkl) = true := by unfold onB; rw [← HST.out, ← HBK.out]; rfl
            rw [e] at h; exact h
          clear HSF HSB
          have HEZ := HE9
          have HBZ : Hid (Below wa.heap.size w9 w9) := Below.refl _ w9
          go_upto_region 21 with fail
          obtain ⟨wz, hwz⟩ : ∃ wz, wz = w9 := ⟨_, rfl⟩
          rw [← hwz] at HEZ ⊢
          have HBZ : Hid (Below wa.heap.size w9 wz) := by show Below _ _ _; rw [hwz]; exact Below.refl _ w9
          clear hwz
          obtain ⟨pa, hpa⟩ : ∃ q, q = (k : Int) + 1 := ⟨_, rfl⟩
          obtain ⟨px, hpx⟩ : ∃ q, q = B.x := ⟨_, rfl⟩
          obtain ⟨py, hpy⟩ : ∃ q, q = B.y := ⟨_, rfl⟩
          obtain ⟨pt, hpt⟩ : ∃ q, q = pt0 := ⟨_, rfl⟩
          rw [← hpa, ← hpx, ← hpy, ← hpt] at HEV HEZ
          rw [HEV.out] at HFN HBN
          clear hpa hpx hpy hpt
          have HSZ : Hid (ShU w3 wz s FW FH (.slice oF nF kF) (.slice oB nB kB) xF xB) := HS1.out.below ((HBB9.out).trans HBZ.out)
          clear c0 c1 c2 c3 c4 c5 c6 c7 c8 c9 c10 p0 x0 x1 x2 x3 x4 x5 e0 e1 e2 e3 s0 s1 s2 s3 ef xf
          obtain ⟨c0, c1, c2, c3, c4, c5, c6, c7, c8, c9, c10⟩ := HCE.out wz (HB3.out.trans (HSZ.out.bel.mono HB3.out.size))
          have e0 : wz.cell? ⟨g13, 0, none⟩ = some (.int .i64 pa) := HEZ.out.at' 0 (by omega)
          have e1 : wz.cell? ⟨g13, 1, none⟩ = some (.int .i64 px) := HEZ.out.at' 1 (by omega)
          have e2 : wz.cell? ⟨g13, 2, none⟩ = some (.int .i64 py) := HEZ.out.at' 2 (by omega)
          have e3 : wz.cell? ⟨g13, 3, none⟩ = some (.int .i64 pt) := HEZ.out.at' 3 (by omega)
          have s2 : wz.cell? ⟨s, 2, none⟩ = some (.slice oF nF kF) := HSZ.out.tab.at' 2 (by omega)
          have HAF := Lib.hid (HSZ.out.below (balloc (Below.refl _ wz) (.cells #[.int .i64 pa, .int .i64 px, .int .i64 py, .int .i64 pt] 84)))
          have HNF : Hid (∀ (j : Nat) (u : Value), (encPl ⟨pa, px, py, pt⟩)[j]? = some u → (wz.alloc (.cells #[.int .i64 pa, .int .i64 px, .int .i64 py, .int .i64 pt] 84)).cell? ((⟨wz.heap.size, 0, none⟩ : Addr).add j) = some u) := World.news_of_block (cs := #[.int .i64 pa, .int .i64 px, .int .i64 py, .int .i64 pt]) (t := 84) (fr := (0, 0)) (heap_alloc_new wz _)
          go_wp2_with (at_builtin; refine wpList_app1L rfl (.tmp 120) (.tmp 122) 69 rfl elemPl Try.underlying69 w3.heap.size (.slice oF nF kF) xF encPl rfl HAF.out.opF ⟨pa, px, py, pt⟩ ⟨wz.heap.size, 0, none⟩ 1 rfl rfl HNF.out ?c1 ?c2 ?c3 ?c4 ?_)
          case c1 => simp [encPl, Value.oneCell']
          case c2 => have := HLN.out; omega
          case c3 => have := HLN.out; unfold maxLen; omega
          case c4 => have := HAF.out.bel.size; omega
          rw [← HLN.out.1]
          intro g5F cap5F w6F hown6 hgr6 hat6
          have hat : (Value.slice (some ⟨g5F, 0, none⟩) (nF + 1) cap5F).ownBlock = (Value.slice oF nF kF).ownBlock ∨ (Value.slice (some ⟨g5F, 0, none⟩) (nF + 1) cap5F).ownBlock = some (wz.alloc (.cells #[.int .i64 pa, .int .i64 px, .int .i64 py, .int .i64 pt] 84)).heap.size := by
            rcases hat6 with e | e
            · exact .inl e.symm
            · exact .inr (by rw [e]; simp [Value.ownBlock])
          have hmid := HAF.out.midF hgr6
          have mF : w6F.cell? ⟨s, 2, none⟩ = some (.slice oF nF kF) := hmid.at' 2 (by omega)
          have mfF := hmid.fz 2
          have HRF := Lib.hid (HAF.out.addF hown6 hgr6 hat)
          obtain ⟨wy, hwy⟩ : ∃ wy, wy = w6F.setCell ⟨s, 2, none⟩ (.slice (some ⟨g5F, 0, none⟩) (nF + 1) cap5F) := ⟨_, rfl⟩
          rw [← hwy] at HRF
          have HEY : Hid (FTab (fun v : Value => v) wy g13 4 (shF (.int .i64 pa) (.int .i64 px) (.int .i64 py) (.int .i64 pt))) := by
            have hzz := HBZ.out.size
            have hg := HGS.out
            have hg1 := HG11.out
            have h := HEZ.out.alloc (by omega) (.cells #[.int .i64 pa, .int .i64 px, .int .i64 py, .int .i64 pt] 84)
            exact h.heap (HRF.out.2.1 g13 (by rw [World.size_alloc]; omega) (by omega) (fun e => by have := (HS1.out.opF.blk e).2; omega))
          have HSY := Lib.hid HRF.out.1
          have HWY := Lib.hid hwy
          clear hown6 hgr6 hat6 hat hmid HNF HRF hwy c0 c1 c2 c3 c4 c5 c6 c7 c8 c9 c10 e0 e1 e2 e3 s2
          go_upto_region 22 with fail
          rw [← HWY.out]
          clear HWY mF mfF
          obtain ⟨c0, c1, c2, c3, c4, c5, c6, c7, c8, c9, c10⟩ := HCE.out wy (HB3.out.trans (HSY.out.bel.mono HB3.out.size))
          have e0 : wy.cell? ⟨g13, 0, none⟩ = some (.int .i64 pa) := HEY.out.at' 0 (by omega)
          have e1 : wy.cell? ⟨g13, 1, none⟩ = some (.int .i64 px) := HEY.out.at' 1 (by omega)
          have e2 : wy.cell? ⟨g13, 2, none⟩ = some (.int .i64 py) := HEY.out.at' 2 (by omega)
          have e3 : wy.cell? ⟨g13, 3, none⟩ = some (.int .i64 pt) := HEY.out.at' 3 (by omega)
          have s3 : wy.cell? ⟨s, 3, none⟩ = some (.slice oB nB kB) := HSY.out.tab.at' 3 (by omega)
          have HAB := Lib.hid (HSY.out.below (balloc (Below.refl _ wy) (.cells #[.int .i64 pa, .int .i64 px, .int .i64 py, .int .i64 pt] 84)))
          have HNB : Hid (∀ (j : Nat) (u : Value), (encPl ⟨pa, px, py, pt⟩)[j]? = some u → (wy.alloc (.cells #[.int .i64 pa, .int .i64 px, .int .i64 py, .int .i64 pt] 84)).cell? ((⟨wy.heap.size, 0, none⟩ : Addr).add j) = some u) := World.news_of_block (cs := #[.int .i64 pa, .int .i64 px, .int .i64 py, .int .i64 pt]) (t := 84) (fr := (0, 0)) (heap_alloc_new wy _)
          go_wp2_with (at_builtin; refine wpList_app1L rfl (.tmp 129) (.tmp 131) 69 rfl elemPl Try.underlying69 w3.heap.size (.slice oB nB kB) xB encPl rfl HAB.out.opB ⟨pa, px, py, pt⟩ ⟨wy.heap.size, 0, none⟩ 1 rfl rfl HNB.out ?c1 ?c2 ?c3 ?c4 ?_)
          case c1 => simp [encPl, Value.oneCell']
          case c2 => have := HLN.out; omega
          case c3 => have := HLN.out; unfold maxLen; omega
          case c4 => have := HAB.out.bel.size; omega
          rw [← HLN.out.2.1]
          intro g5B cap5B w6B hown6 hgr6 hat6
          have hat : (Value.slice (some ⟨g5B, 0, none⟩) (nB + 1) cap5B).ownBlock = (Value.slice oB nB kB).ownBlock ∨ (Value.slice (some ⟨g5B, 0, none⟩) (nB + 1) cap5B).ownBlock = some (wy.alloc (.cells #[.int .i64 pa, .int .i64 px, .int .i64 py, .int .i64 pt] 84)).heap.size := by
            rcases hat6 with e | e
            · exact .inl e.symm
            · exact .inr (by rw [e]; simp [Value.ownBlock])
          have hmid := HAB.out.midB hgr6
          have mB : w6B.cell? ⟨s, 3, none⟩ = some (.slice oB nB kB) := hmid.at' 3 (by omega)
          have mfB := hmid.fz 3
          have HRB := Lib.hid (HAB.out.addB hown6 hgr6 hat)
          have HNX : Hid (ShU w3 (w6B.setCell ⟨s, 3, none⟩ (.slice (some ⟨g5B, 0, none⟩) (nB + 1) cap5B)) s FW FH (.slice (some ⟨g5F, 0, none⟩) (nF + 1) cap5F) (.slice (some ⟨g5B, 0, none⟩) (nB + 1) cap5B) (frV l 0 (Ps.take (k + 1))) (bkV l 0 (Ps.take (k + 1)))) := by
            show ShU _ _ _ _ _ _ _ _ _
            rw [HFN.out, HBN.out]
            exact HRB.out
          clear hown6 hgr6 hat6 hat hmid HNB HRB c0 c1 c2 c3 c4 c5 c6 c7 c8 c9 c10 e0 e1 e2 e3 s3
          go_wp2_with fail
          go_roundw
          case rel => exact ⟨k + 1, by omega, by go_num, _, _, HNX.out⟩
          case measure => simp [intOf]; omega
        | true =>
          have HEV : Hid (plV l k (Ps[k]'hkl) = ⟨(k : Int) + 1, B.x + oneW l, B.y, pt0⟩) := by
            show _ = _
            unfold plV
            rw [if_pos ⟨HST.out.symm, HBK.out.symm⟩, HBB.out, HPT.out]
          have HFN : Hid (frV l 0 (Ps.take (k + 1)) = xF ++ [plV l k (Ps[k]'hkl)]) := by
            have h := HSF.out
            have e : onF l (Ps[k]'hkl) = true := by unfold onF; rw [← HST.out, ← HBK.out]; rfl
            rw [e] at h; exact h
          have HBN : Hid (bkV l 0 (Ps.take (k + 1)) = xB ++ [plV l k (Ps[k]'hkl)]) := by
            have h := HSB.out
            have e : onB l (Ps[k]'hkl) = true := by unfold onB; rw [← HST.out, ← HBK.out]; rfl
            rw [e] at h; exact h
          clear HSF HSB
          have q1 : FW = OW * 2 := HST2.out HST.out.symm
          have q2 : (0 : Int) ≤ FW := by omega
          have q3 : FW / 2 = OW := by omega
          have q4 : IntKind.i64.wrap (FW.tdiv 2) = OW := by rw [Int.tdiv_eq_ediv_of_nonneg q2, q3]; exact IntWalk.i64_in _ (by omega)
          have hbx := HIN.out.x1
          have hbx0 := HIN.out.x0
          have hbd := HBD.out
          have q5 : IntKind.i64.wrap (B.x + OW) = B.x + OW := IntWalk.i64_in _ (by have := hbd.i.x0; have := hbd.i.x1; have := hbd.w; have := hbd.fw; omega)
          clear hbx hbx0 hbd q1
          obtain ⟨wz, hwz⟩ : ∃ wz, wz = w9.setCell ⟨g13, 1, none⟩ (.int .i64 (B.x + OW)) := ⟨_, rfl⟩
          have HEZ : Hid (FTab (fun v : Value => v) wz g13 4 (shF (.int .i64 ((k : Int) + 1)) (.int .i64 (B.x + OW)) (.int .i64 B.y) (.int .i64 pt0))) := by
            show FTab _ _ _ _ _
            rw [hwz]
            exact (HE9.out.set (i := 1) (by omega) (.int .i64 (B.x + OW))).congr fun i hi => match i, hi with
              | 0, _ => rfl
              | 1, _ => rfl
              | 2, _ => rfl
              | 3, _ => rfl
          have HBZ : Hid (Below wa.heap.size w9 wz) := by
            show Below _ _ _
            rw [hwz]
            exact (Below.refl _ w9).setCell (p := ⟨g13, 1, none⟩) (by have := HGS.out; have := HG11.out; show wa.heap.size ≤ g13; omega) _
          have HWZ := Lib.hid hwz
          clear hwz
          go_upto_region 21 with fail
          rw [← HWZ.out]
          clear HWZ q2 q3 q4 q5
          obtain ⟨pa, hpa⟩ : ∃ q, q = (k : Int) + 1 := ⟨_, rfl⟩
          obtain ⟨px, hpx⟩ : ∃ q, q = B.x + OW := ⟨_, rfl⟩
          obtain ⟨py, hpy⟩ : ∃ q, q = B.y := ⟨_, rfl⟩
          obtain ⟨pt, hpt⟩ : ∃ q, q = pt0 := ⟨_, rfl⟩
          rw [← HNM.out.2.2.1] at HEV
          rw [← hpa, ← hpx, ← hpy, ← hpt] at HEV HEZ
          rw [HEV.out] at HFN HBN
          clear hpa hpx hpy hpt
          have HSZ : Hid (ShU w3 wz s FW FH (.slice oF nF kF) (.slice oB nB kB) xF xB) := HS1.out.below ((HBB9.out).trans HBZ.out)
          clear c0 c1 c2 c3 c4 c5 c6 c7 c8 c9 c10 p0 x0 x1 x2 x3 x4 x5 e0 e1 e2 e3 s0 s1 s2 s3 ef xf
          obtain ⟨c0, c1, c2, c3, c4, c5, c6, c7, c8, c9, c10⟩ := HCE.out wz (HB3.out.trans (HSZ.out.bel.mono HB3.out.size))
          have e0 : wz.cell? ⟨g13, 0, none⟩ = some (.int .i64 pa) := HEZ.out.at' 0 (by omega)
          have e1 : wz.cell? ⟨g13, 1, none⟩ = some (.int .i64 px) := HEZ.out.at' 1 (by omega)
          have e2 : wz.cell? ⟨g13, 2, none⟩ = some (.int .i64 py) := HEZ.out.at' 2 (by omega)
          have e3 : wz.cell? ⟨g13, 3, none⟩ = some (.int .i64 pt) := HEZ.out.at' 3 (by omega)
          have s2 : wz.cell? ⟨s, 2, none⟩ = some (.slice oF nF kF) := HSZ.out.tab.at' 2 (by omega)
          have HAF := Lib.hid (HSZ.out.below (balloc (Below.refl _ wz) (.cells #[.int .i64 pa, .int .i64 px, .int .i64 py, .int .i64 pt] 84)))
          have HNF : Hid (∀ (j : Nat) (u : Value), (encPl ⟨pa, px, py, pt⟩)[j]? = some u → (wz.alloc (.cells #[.int .i64 pa, .int .i64 px, .int .i64 py, .int .i64 pt] 84)).cell? ((⟨wz.heap.size, 0, none⟩ : Addr).add j) = some u) := World.news_of_block (cs := #[.int .i64 pa, .int .i64 px, .int .i64 py, .int .i64 pt]) (t := 84) (fr := (0, 0)) (heap_alloc_new wz _)
          go_wp2_with (at_builtin; refine wpList_app1L rfl (.tmp 120) (.tmp 122) 69 rfl elemPl Try.underlying69 w3.heap.size (.slice oF nF kF) xF encPl rfl HAF.out.opF ⟨pa, px, py, pt⟩ ⟨wz.heap.size, 0, none⟩ 1 rfl rfl HNF.out ?c1 ?c2 ?c3 ?c4 ?_)
          case c1 => simp [encPl, Value.oneCell']
          case c2 => have := HLN.out; omega
          case c3 => have := HLN.out; unfold maxLen; omega
          case c4 => have := HAF.out.bel.size; omega
          rw [← HLN.out.1]
          intro g5F cap5F w6F hown6 hgr6 hat6
          have hat : (Value.slice (some ⟨g5F, 0, none⟩) (nF + 1) cap5F).ownBlock = (Value.slice oF nF kF).ownBlock ∨ (Value.slice (some ⟨g5F, 0, none⟩) (nF + 1) cap5F).ownBlock = some (wz.alloc (.cells #[.int .i64 pa, .int .i64 px, .int .i64 py, .int .i64 pt] 84)).heap.size := by
            rcases hat6 with e | e
            · exact .inl e.symm
            · exact .inr (by rw [e]; simp [Value.ownBlock])
          have hmid := HAF.out.midF hgr6
          have mF : w6F.cell? ⟨s, 2, none⟩ = some (.slice oF nF kF) := hmid.at' 2 (by omega)
          have mfF := hmid.fz 2
          have HRF := Lib.hid (HAF.out.addF hown6 hgr6 hat)
          obtain ⟨wy, hwy⟩ : ∃ wy, wy = w6F.setCell ⟨s, 2, none⟩ (.slice (some ⟨g5F, 0, none⟩) (nF + 1) cap5F) := ⟨_, rfl⟩
          rw [← hwy] at HRF
          have HEY : Hid (FTab (fun v : Value => v) wy g13 4 (shF (.int .i64 pa) (.int .i64 px) (.int .i64 py) (.int .i64 pt))) := by
            have hzz := HBZ.out.size
            have hg := HGS.out
            have hg1 := HG11.out
            have h := HEZ.out.alloc (by omega) (.cells #[.int .i64 pa, .int .i64 px, .int .i64 py, .int .i64 pt] 84)
            exact h.heap (HRF.out.2.1 g13 (by rw [World.size_alloc]; omega) (by omega) (fun e => by have := (HS1.out.opF.blk e).2; omega))
          have HSY := Lib.hid HRF.out.1
          have HWY := Lib.hid hwy
          clear hown6 hgr6 hat6 hat hmid HNF HRF hwy c0 c1 c2 c3 c4 c5 c6 c7 c8 c9 c10 e0 e1 e2 e3 s2
          go_upto_region 22 with fail
          rw [← HWY.out]
          clear HWY mF mfF
          obtain ⟨c0, c1, c2, c3, c4, c5, c6, c7, c8, c9, c10⟩ := HCE.out wy (HB3.out.trans (HSY.out.bel.mono HB3.out.size))
          have e0 : wy.cell? ⟨g13, 0, none⟩ = some (.int .i64 pa) := HEY.out.at' 0 (by omega)
          have e1 : wy.cell? ⟨g13, 1, none⟩ = some (.int .i64 px) := HEY.out.at' 1 (by omega)
          have e2 : wy.cell? ⟨g13, 2, none⟩ = some (.int .i64 py) := HEY.out.at' 2 (by omega)
          have e3 : wy.cell? ⟨g13, 3, none⟩ = some (.int .i64 pt) := HEY.out.at' 3 (by omega)
          have s3 : wy.cell? ⟨s, 3, none⟩ = some (.slice oB nB kB) := HSY.out.tab.at' 3 (by omega)
          have HAB := Lib.hid (HSY.out.below (balloc (Below.refl _ wy) (.cells #[.int .i64 pa, .int .i64 px, .int .i64 py, .int .i64 pt] 84)))
          have HNB : Hid (∀ (j : Nat) (u : Value), (encPl ⟨pa, px, py, pt⟩)[j]? = some u → (wy.alloc (.cells #[.int .i64 pa, .int .i64 px, .int .i64 py, .int .i64 pt] 84)).cell? ((⟨wy.heap.size, 0, none⟩ : Addr).add j) = some u) := World.news_of_block (cs := #[.int .i64 pa, .int .i64 px, .int .i64 py, .int .i64 pt]) (t := 84) (fr := (0, 0)) (heap_alloc_new wy _)
          go_wp2_with (at_builtin; refine wpList_app1L rfl (.tmp 129) (.tmp 131) 69 rfl elemPl Try.underlying69 w3.heap.size (.slice oB nB kB) xB encPl rfl HAB.out.opB ⟨pa, px, py, pt⟩ ⟨wy.heap.size, 0, none⟩ 1 rfl rfl HNB.out ?c1 ?c2 ?c3 ?c4 ?_)
          case c1 => simp [encPl, Value.oneCell']
          case c2 => have := HLN.out; omega
          case c3 => have := HLN.out; unfold maxLen; omega
          case c4 => have := HAB.out.bel.size; omega
          rw [← HLN.out.2.1]
          intro g5B cap5B w6B hown6 hgr6 hat6
          have hat : (Value.slice (some ⟨g5B, 0, none⟩) (nB + 1) cap5B).ownBlock = (Value.slice oB nB kB).ownBlock ∨ (Value.slice (some ⟨g5B, 0, none⟩) (nB + 1) cap5B).ownBlock = some (wy.alloc (.cells #[.int .i64 pa, .int .i64 px, .int .i64 py, .int .i64 pt] 84)).heap.size := by
            rcases hat6 with e | e
            · exact .inl e.symm
            · exact .inr (by rw [e]; simp [Value.ownBlock])
          have hmid := HAB.out.midB hgr6
          have mB : w6B.cell? ⟨s, 3, none⟩ = some (.slice oB nB kB) := hmid.at' 3 (by omega)
          have mfB := hmid.fz 3
          have HRB := Lib.hid (HAB.out.addB hown6 hgr6 hat)
          have HNX : Hid (ShU w3 (w6B.setCell ⟨s, 3, none⟩ (.slice (some ⟨g5B, 0, none⟩) (nB + 1) cap5B)) s FW FH (.slice (some ⟨g5F, 0, none⟩) (nF + 1) cap5F) (.slice (some ⟨g5B, 0, none⟩) (nB + 1) cap5B) (frV l 0 (Ps.take (k + 1))) (bkV l 0 (Ps.take (k + 1)))) := by
            show ShU _ _ _ _ _ _ _ _ _
            rw [HFN.out, HBN.out]
            exact HRB.out
          clear hown6 hgr6 hat6 hat hmid HNB HRB c0 c1 c2 c3 c4 c5 c6 c7 c8 c9 c10 e0 e1 e2 e3 s3
          go_wp2_with fail
          go_roundw
          case rel => exact ⟨k + 1, by omega, by go_num, _, _, HNX.out⟩
          case measure => simp [intOf]; omega
      · cases bk with
        | false =>
          have HEV : Hid (plV l k (Ps[k]'hkl) = ⟨(k : Int) + 1, B.x, B.y, pt0⟩) := by
            show _ = _
            unfold plV
            rw [if_neg (fun h => absurd (HBK.out.trans h.2) (by decide)), if_neg (fun h => absurd (HBK.out.trans h.2) (by decide)), HBB.out, HPT.out]
          have HFN : Hid (frV l 0 (Ps.take (k + 1)) = xF ++ [plV l k (Ps[k]'hkl)]) := by
            have h := HSF.out
            have e : onF l (Ps[k]'hkl) = true := by unfold onF; rw [← HST.out, ← HBK.out]; rfl
            rw [e] at h; exact h
          have HBN : Hid (bkV l 0 (Ps.take (k + 1)) = xB ++ [plV l k (Ps[k]'hkl)]) := by
            have h := HSB.out
            have e : onB l (Ps[k]'hkl) = true := by unfold onB; rw [← HST.out, ← HBK.out]; rfl
            rw [e] at h; exact h
          clear HSF HSB
          have HEZ := HE9
          have HBZ : Hid (Below wa.heap.size w9 w9) := Below.refl _ w9
          go_upto_region 21 with fail
          obtain ⟨wz, hwz⟩ : ∃ wz, wz = w9 := ⟨_, rfl⟩
          rw [← hwz] at HEZ ⊢
          have HBZ : Hid (Below wa.heap.size w9 wz) := by show Below _ _ _; rw [hwz]; exact Below.refl _ w9
          clear hwz
          obtain ⟨pa, hpa⟩ : ∃ q, q = (k : Int) + 1 := ⟨_, rfl⟩
          obtain ⟨px, hpx⟩ : ∃ q, q = B.x := ⟨_, rfl⟩
          obtain ⟨py, hpy⟩ : ∃ q, q = B.y := ⟨_, rfl⟩
          obtain ⟨pt, hpt⟩ : ∃ q, q = pt0 := ⟨_, rfl⟩
          rw [← hpa, ← hpx, ← hpy, ← hpt] at HEV HEZ
          rw [HEV.out] at HFN HBN
          clear hpa hpx hpy hpt
          have HSZ : Hid (ShU w3 wz s FW FH (.slice oF nF kF) (.slice oB nB kB) xF xB) := HS1.out.below ((HBB9.out).trans HBZ.out)
          clear c0 c1 c2 c3 c4 c5 c6 c7 c8 c9 c10 p0 x0 x1 x2 x3 x4 x5 e0 e1 e2 e3 s0 s1 s2 s3 ef xf
          obtain ⟨c0, c1, c2, c3, c4, c5, c6, c7, c8, c9, c10⟩ := HCE.out wz (HB3.out.trans (HSZ.out.bel.mono HB3.out.size))
          have e0 : wz.cell? ⟨g13, 0, none⟩ = some (.int .i64 pa) := HEZ.out.at' 0 (by omega)
          have e1 : wz.cell? ⟨g13, 1, none⟩ = some (.int .i64 px) := HEZ.out.at' 1 (by omega)
          have e2 : wz.cell? ⟨g13, 2, none⟩ = some (.int .i64 py) := HEZ.out.at' 2 (by omega)
          have e3 : wz.cell? ⟨g13, 3, none⟩ = some (.int .i64 pt) := HEZ.out.at' 3 (by omega)
          have s2 : wz.cell? ⟨s, 2, none⟩ = some (.slice oF nF kF) := HSZ.out.tab.at' 2 (by omega)
          have HAF := Lib.hid (HSZ.out.below (balloc (Below.refl _ wz) (.cells #[.int .i64 pa, .int .i64 px, .int .i64 py, .int .i64 pt] 84)))
          have HNF : Hid (∀ (j : Nat) (u : Value), (encPl ⟨pa, px, py, pt⟩)[j]? = some u → (wz.alloc (.cells #[.int .i64 pa, .int .i64 px, .int .i64 py, .int .i64 pt] 84)).cell? ((⟨wz.heap.size, 0, none⟩ : Addr).add j) = some u) := World.news_of_block (cs := #[.int .i64 pa, .int .i64 px, .int .i64 py, .int .i64 pt]) (t := 84) (fr := (0, 0)) (heap_alloc_new wz _)
          go_wp2_with (at_builtin; refine wpList_app1L rfl (.tmp 120) (.tmp 122) 69 rfl elemPl Try.underlying69 w3.heap.size (.slice oF nF kF) xF encPl rfl HAF.out.opF ⟨pa, px, py, pt⟩ ⟨wz.heap.size, 0, none⟩ 1 rfl rfl HNF.out ?c1 ?c2 ?c3 ?c4 ?_)
          case c1 => simp [encPl, Value.oneCell']
          case c2 => have := HLN.out; omega
          case c3 => have := HLN.out; unfold maxLen; omega
          case c4 => have := HAF.out.bel.size; omega
          rw [← HLN.out.1]
          intro g5F cap5F w6F hown6 hgr6 hat6
          have hat : (Value.slice (some ⟨g5F, 0, none⟩) (nF + 1) cap5F).ownBlock = (Value.slice oF nF kF).ownBlock ∨ (Value.slice (some ⟨g5F, 0, none⟩) (nF + 1) cap5F).ownBlock = some (wz.alloc (.cells #[.int .i64 pa, .int .i64 px, .int .i64 py, .int .i64 pt] 84)).heap.size := by
            rcases hat6 with e | e
            · exact .inl e.symm
            · exact .inr (by rw [e]; simp [Value.ownBlock])
          have hmid := HAF.out.midF hgr6
          have mF : w6F.cell? ⟨s, 2, none⟩ = some (.slice oF nF kF) := hmid.at' 2 (by omega)
          have mfF := hmid.fz 2
          have HRF := Lib.hid (HAF.out.addF hown6 hgr6 hat)
          obtain ⟨wy, hwy⟩ : ∃ wy, wy = w6F.setCell ⟨s, 2, none⟩ (.slice (some ⟨g5F, 0, none⟩) (nF + 1) cap5F) := ⟨_, rfl⟩
          rw [← hwy] at HRF
          have HEY : Hid (FTab (fun v : Value => v) wy g13 4 (shF (.int .i64 pa) (.int .i64 px) (.int .i64 py) (.int .i64 pt))) := by
            have hzz := HBZ.out.size
            have hg := HGS.out
            have hg1 := HG11.out
            have h := HEZ.out.alloc (by omega) (.cells #[.int .i64 pa, .int .i64 px, .int .i64 py, .int .i64 pt] 84)
            exact h.heap (HRF.out.2.1 g13 (by rw [World.size_alloc]; omega) (by omega) (fun e => by have := (HS1.out.opF.blk e).2; omega))
          have HSY := Lib.hid HRF.out.1
          have HWY := Lib.hid hwy
          clear hown6 hgr6 hat6 hat hmid HNF HRF hwy c0 c1 c2 c3 c4 c5 c6 c7 c8 c9 c10 e0 e1 e2 e3 s2
          go_upto_region 22 with fail
          rw [← HWY.out]
          clear HWY mF mfF
          obtain ⟨c0, c1, c2, c3, c4, c5, c6, c7, c8, c9, c10⟩ := HCE.out wy (HB3.out.trans (HSY.out.bel.mono HB3.out.size))
          have e0 : wy.cell? ⟨g13, 0, none⟩ = some (.int .i64 pa) := HEY.out.at' 0 (by omega)
          have e1 : wy.cell? ⟨g13, 1, none⟩ = some (.int .i64 px) := HEY.out.at' 1 (by omega)
          have e2 : wy.cell? ⟨g13, 2, none⟩ = some (.int .i64 py) := HEY.out.at' 2 (by omega)
          have e3 : wy.cell? ⟨g13, 3, none⟩ = some (.int .i64 pt) := HEY.out.at' 3 (by omega)
          have s3 : wy.cell? ⟨s, 3, none⟩ = some (.slice oB nB kB) := HSY.out.tab.at' 3 (by omega)
          have HAB := Lib.hid (HSY.out.below (balloc (Below.refl _ wy) (.cells #[.int .i64 pa, .int .i64 px, .int .i64 py, .int .i64 pt] 84)))
          have HNB : Hid (∀ (j : Nat) (u : Value), (encPl ⟨pa, px, py, pt⟩)[j]? = some u → (wy.alloc (.cells #[.int .i64 pa, .int .i64 px, .int .i64 py, .int .i64 pt] 84)).cell? ((⟨wy.heap.size, 0, none⟩ : Addr).add j) = some u) := World.news_of_block (cs := #[.int .i64 pa, .int .i64 px, .int .i64 py, .int .i64 pt]) (t := 84) (fr := (0, 0)) (heap_alloc_new wy _)
          go_wp2_with (at_builtin; refine wpList_app1L rfl (.tmp 129) (.tmp 131) 69 rfl elemPl Try.underlying69 w3.heap.size (.slice oB nB kB) xB encPl rfl HAB.out.opB ⟨pa, px, py, pt⟩ ⟨wy.heap.size, 0, none⟩ 1 rfl rfl HNB.out ?c1 ?c2 ?c3 ?c4 ?_)
          case c1 => simp [encPl, Value.oneCell']
          case c2 => have := HLN.out; omega
          case c3 => have := HLN.out; unfold maxLen; omega
          case c4 => have := HAB.out.bel.size; omega
          rw [← HLN.out.2.1]
          intro g5B cap5B w6B hown6 hgr6 hat6
          have hat : (Value.slice (some ⟨g5B, 0, none⟩) (nB + 1) cap5B).ownBlock = (Value.slice oB nB kB).ownBlock ∨ (Value.slice (some ⟨g5B, 0, none⟩) (nB + 1) cap5B).ownBlock = some (wy.alloc (.cells #[.int .i64 pa, .int .i64 px, .int .i64 py, .int .i64 pt] 84)).heap.size := by
            rcases hat6 with e | e
            · exact .inl e.symm
            · exact .inr (by rw [e]; simp [Value.ownBlock])
          have hmid := HAB.out.midB hgr6
          have mB : w6B.cell? ⟨s, 3, none⟩ = some (.slice oB nB kB) := hmid.at' 3 (by omega)
          have mfB := hmid.fz 3
          have HRB := Lib.hid (HAB.out.addB hown6 hgr6 hat)
          have HNX : Hid (ShU w3 (w6B.setCell ⟨s, 3, none⟩ (.slice (some ⟨g5B, 0, none⟩) (nB + 1) cap5B)) s FW FH (.slice (some ⟨g5F, 0, none⟩) (nF + 1) cap5F) (.slice (some ⟨g5B, 0, none⟩) (nB + 1) cap5B) (frV l 0 (Ps.take (k + 1))) (bkV l 0 (Ps.take (k + 1)))) := by
            show ShU _ _ _ _ _ _ _ _ _
            rw [HFN.out, HBN.out]
            exact HRB.out
          clear hown6 hgr6 hat6 hat hmid HNB HRB c0 c1 c2 c3 c4 c5 c6 c7 c8 c9 c10 e0 e1 e2 e3 s3
          go_wp2_with fail
          go_roundw
          case rel => exact ⟨k + 1, by omega, by go_num, _, _, HNX.out⟩
          case measure => simp [intOf]; omega
        | true =>
          have HEV : Hid (plV l k (Ps[k]'hkl) = ⟨(k : Int) + 1, (turnB B 2).x, oneH l + (turnB B 2).y, (pt0 + 2) % 4⟩) := by
            show _ = _
            unfold plV
            rw [if_neg (fun h => absurd (HST.out.trans h.1) (by decide)), if_pos ⟨HST.out.symm, HBK.out.symm⟩, HBB.out, HPT.out]
          have HFN : Hid (frV l 0 (Ps.take (k + 1)) = xF ++ [plV l k (Ps[k]'hkl)]) := by
            have h := HSF.out
            have e : onF l (Ps[k]'hkl) = true := by unfold onF; rw [← HST.out, ← HBK.out]; rfl
            rw [e] at h; exact h
          have HBN : Hid (bkV l 0 (Ps.take (k + 1)) = xB ++ [plV l k (Ps[k]'hkl)]) := by
            have h := HSB.out
            have e : onB l (Ps[k]'hkl) = true := by unfold onB; rw [← HST.out, ← HBK.out]; rfl
            rw [e] at h; exact h
          clear HSF HSB
          have q1 : FH = OH * 2 := HST3.out HST.out.symm
          have q2 : (0 : Int) ≤ FH := by omega
          have q3 : FH / 2 = OH := by omega
          have q4 : IntKind.i64.wrap (FH.tdiv 2) = OH := by rw [Int.tdiv_eq_ediv_of_nonneg q2, q3]; exact IntWalk.i64_in _ (by omega)
          have hbd := HBD.out.turnB 2
          have HTU : Hid (Calls Try.prog 43 #[bxV B, .int .i64 2] w9 fun e w' => e = .returned (bxV (turnB B 2)) ∧ Below w9.heap.size w9 w') := turned_any B HBD.out 2 (by omega) w9
          obtain ⟨C, hC⟩ : ∃ C, C = turnB B 2 := ⟨_, rfl⟩
          rw [← hC] at HTU HEV hbd
          have q5 : IntKind.i64.wrap (OH + C.y) = OH + C.y := IntWalk.i64_in _ (by have := hbd.i.y0; have := hbd.i.y1; have := hbd.h; have := hbd.fh; omega)
          have q6 : IntKind.i64.wrap (pt0 + 2) = pt0 + 2 := IntWalk.i64_in _ (by omega)
          clear hbd q1 hC
          go_wp2_with fail
          refine HTU.out.mono ?_
          rintro e w10 ⟨rfl, hb10⟩
          clear c0 c1 c2 c3 c4 c5 c6 c7 c8 c9 c10 p0 x0 x1 x2 x3 x4 x5 e0 e1 e2 e3 s0 s1 s2 s3 ef xf HTU
          have hX10 := HX9.out.below hb10 (by have := HGS.out; omega)
          have hE10 := HE9.out.below hb10 (by have := HGS.out; omega)
          have hS10 := HS9.out.below hb10
          have x0 : w10.cell? ⟨g12, 0, none⟩ = some (.int .i64 B.fw) := hX10.at' 0 (by omega)
          have x1 : w10.cell? ⟨g12, 1, none⟩ = some (.int .i64 B.fh) := hX10.at' 1 (by omega)
          have x2 : w10.cell? ⟨g12, 2, none⟩ = some (.int .i64 B.x) := hX10.at' 2 (by omega)
          have x3 : w10.cell? ⟨g12, 3, none⟩ = some (.int .i64 B.y) := hX10.at' 3 (by omega)
          have x4 : w10.cell? ⟨g12, 4, none⟩ = some (.int .i64 B.w) := hX10.at' 4 (by omega)
          have x5 : w10.cell? ⟨g12, 5, none⟩ = some (.int .i64 B.h) := hX10.at' 5 (by omega)
          have xf := hX10.fz
          obtain ⟨w11, hw11⟩ : ∃ w11, w11 = setB w10 g12 C := ⟨_, rfl⟩
          have hX11 : BxAt w11 g12 C := by rw [hw11]; exact BxAt.setB hX10 C
          have hE11 : FTab (fun v : Value => v) w11 g13 4 (shF (.int .i64 ((k : Int) + 1)) (.int .i64 B.x) (.int .i64 B.y) (.int .i64 pt0)) := by
            have hne : g12 ≠ g13 := by have := HGS.out; omega
            rw [hw11]
            exact (((((hE10.other hne _).other hne _).other hne _).other hne _).other hne _).other hne _
          have hb11 : Below wa.heap.size w9 w11 := by
            rw [hw11]
            exact below_setB (hb10.mono (by have := HGS.out; have := HG11.out; omega)) (by have := HGS.out; have := HG11.out; omega) C
          have hT11 : FTab (fun v : Value => v) w11 g11 4 (pgF (.bool true) (.int .i64 pc) (.int .i64 pr) (.int .i64 pt0)) := by
            have hne : g12 ≠ g11 := by have := HGS.out; omega
            have h := HT9.out.below hb10 (by have := HGS.out; omega)
            rw [hw11]
            exact (((((h.other hne _).other hne _).other hne _).other hne _).other hne _).other hne _
          have hs1 : w11.cell? ⟨s, 1, none⟩ = some (.int .i64 FH) := by
            rw [hb11.cell (p := ⟨s, 1, none⟩) HS1.out.lt]; exact HS9.out.tab.at' 1 (by omega)
          have HW11 : Hid ((((((w10.setCell ⟨g12, 0, none⟩ (.int .i64 C.fw)).setCell ⟨g12, 1, none⟩ (.int .i64 C.fh)).setCell ⟨g12, 2, none⟩ (.int .i64 C.x)).setCell ⟨g12, 3, none⟩ (.int .i64 C.y)).setCell ⟨g12, 4, none⟩ (.int .i64 C.w)).setCell ⟨g12, 5, none⟩ (.int .i64 C.h) = w11) := hw11.symm
          have HE11 := Lib.hid hE11
          have HB11 := Lib.hid hb11
          have y2 : w11.cell? ⟨g12, 2, none⟩ = some (.int .i64 C.x) := hX11.at' 2 (by omega)
          have y3 : w11.cell? ⟨g12, 3, none⟩ = some (.int .i64 C.y) := hX11.at' 3 (by omega)
          have y4 : w11.cell? ⟨g11, 3, none⟩ = some (.int .i64 pt0) := hT11.at' 3 (by omega)
          have HHS := Lib.hid hs1
          clear hw11 hX11 hE11 hb11 hT11 hX10 hE10 hS10 hb10 hs1
          dsimp only
          go_upto_region 20 with fail
          rw [HW11.out]
          clear HW11 x0 x1 x2 x3 x4 x5 xf
          have s1 := HHS.out
          have e0 : w11.cell? ⟨g13, 0, none⟩ = some (.int .i64 ((k : Int) + 1)) := HE11.out.at' 0 (by omega)
          have e1 : w11.cell? ⟨g13, 1, none⟩ = some (.int .i64 B.x) := HE11.out.at' 1 (by omega)
          have e2 : w11.cell? ⟨g13, 2, none⟩ = some (.int .i64 B.y) := HE11.out.at' 2 (by omega)
          have e3 : w11.cell? ⟨g13, 3, none⟩ = some (.int .i64 pt0) := HE11.out.at' 3 (by omega)
          have ef := HE11.out.fz
          obtain ⟨wz, hwz⟩ : ∃ wz, wz = setS w11 g13 (.int .i64 ((k : Int) + 1)) (.int .i64 C.x) (.int .i64 (OH + C.y)) (.int .i64 ((pt0 + 2) % 4)) := ⟨_, rfl⟩
          have hsa := setS_at HE11.out (.int .i64 ((k : Int) + 1)) (.int .i64 C.x) (.int .i64 (OH + C.y)) (.int .i64 ((pt0 + 2) % 4))
          have HEZ : Hid (FTab (fun v : Value => v) wz g13 4 (shF (.int .i64 ((k : Int) + 1)) (.int .i64 C.x) (.int .i64 (OH + C.y)) (.int .i64 ((pt0 + 2) % 4)))) := by rw [hwz]; exact hsa.1
          have HBZ : Hid (Below wa.heap.size w9 wz) := by rw [hwz]; exact hsa.2.2.2 HB11.out (by have := HGS.out; have := HG11.out; omega)
          have HWZ : Hid ((((w11.setCell ⟨g13, 0, none⟩ (.int .i64 ((k : Int) + 1))).setCell ⟨g13, 1, none⟩ (.int .i64 C.x)).setCell ⟨g13, 2, none⟩ (.int .i64 (OH + C.y))).setCell ⟨g13, 3, none⟩ (.int .i64 ((pt0 + 2) % 4)) = wz) := hwz.symm
          clear hwz hsa
          go_upto_region 21 with fail
          rw [HWZ.out]
          clear HWZ q2 q3 q4 q5 q6 y2 y3 y4
          obtain ⟨pa, hpa⟩ : ∃ q, q = (k : Int) + 1 := ⟨_, rfl⟩
          obtain ⟨px, hpx⟩ : ∃ q, q = C.x := ⟨_, rfl⟩
          obtain ⟨py, hpy⟩ : ∃ q, q = OH + C.y := ⟨_, rfl⟩
          obtain ⟨pt, hpt⟩ : ∃ q, q = (pt0 + 2) % 4 := ⟨_, rfl⟩
          rw [← HNM.out.2.2.2] at HEV
          rw [← hpa, ← hpx, ← hpy, ← hpt] at HEV HEZ
          rw [HEV.out] at HFN HBN
          clear hpa hpx hpy hpt
          have HSZ : Hid (ShU w3 wz s FW FH (.slice oF nF kF) (.slice oB nB kB) xF xB) := HS1.out.below ((HBB9.out).trans HBZ.out)
          clear e0 e1 e2 e3 ef s1
          obtain ⟨c0, c1, c2, c3, c4, c5, c6, c7, c8, c9, c10⟩ := HCE.out wz (HB3.out.trans (HSZ.out.bel.mono HB3.out.size))
          have e0 : wz.cell? ⟨g13, 0, none⟩ = some (.int .i64 pa) := HEZ.out.at' 0 (by omega)
          have e1 : wz.cell? ⟨g13, 1, none⟩ = some (.int .i64 px) := HEZ.out.at' 1 (by omega)
          have e2 : wz.cell? ⟨g13, 2, none⟩ = some (.int .i64 py) := HEZ.out.at' 2 (by omega)
          have e3 : wz.cell? ⟨g13, 3, none⟩ = some (.int .i64 pt) := HEZ.out.at' 3 (by omega)
          have s2 : wz.cell? ⟨s, 2, none⟩ = some (.slice oF nF kF) := HSZ.out.tab.at' 2 (by omega)
          have HAF := Lib.hid (HSZ.out.below (balloc (Below.refl _ wz) (.cells #[.int .i64 pa, .int .i64 px, .int .i64 py, .int .i64 pt] 84)))
          have HNF : Hid (∀ (j : Nat) (u : Value), (encPl ⟨pa, px, py, pt⟩)[j]? = some u → (wz.alloc (.cells #[.int .i64 pa, .int .i64 px, .int .i64 py, .int .i64 pt] 84)).cell? ((⟨wz.heap.size, 0, none⟩ : Addr).add j) = some u) := World.news_of_block (cs := #[.int .i64 pa, .int .i64 px, .int .i64 py, .int .i64 pt]) (t := 84) (fr := (0, 0)) (heap_alloc_new wz _)
          go_wp2_with (at_builtin; refine wpList_app1L rfl (.tmp 120) (.tmp 122) 69 rfl elemPl Try.underlying69 w3.heap.size (.slice oF nF kF) xF encPl rfl HAF.out.opF ⟨pa, px, py, pt⟩ ⟨wz.heap.size, 0, none⟩ 1 rfl rfl HNF.out ?c1 ?c2 ?c3 ?c4 ?_)
          case c1 => simp [encPl, Value.oneCell']
          case c2 => have := HLN.out; omega
          case c3 => have := HLN.out; unfold maxLen; omega
          case c4 => have := HAF.out.bel.size; omega
          rw [← HLN.out.1]
          intro g5F cap5F w6F hown6 hgr6 hat6
          have hat : (Value.slice (some ⟨g5F, 0, none⟩) (nF + 1) cap5F).ownBlock = (Value.slice oF nF kF).ownBlock ∨ (Value.slice (some ⟨g5F, 0, none⟩) (nF + 1) cap5F).ownBlock = some (wz.alloc (.cells #[.int .i64 pa, .int .i64 px, .int .i64 py, .int .i64 pt] 84)).heap.size := by
            rcases hat6 with e | e
            · exact .inl e.symm
            · exact .inr (by rw [e]; simp [Value.ownBlock])
          have hmid := HAF.out.midF hgr6
          have mF : w6F.cell? ⟨s, 2, none⟩ = some (.slice oF nF kF) := hmid.at' 2 (by omega)
          have mfF := hmid.fz 2
          have HRF := Lib.hid (HAF.out.addF hown6 hgr6 hat)
          obtain ⟨wy, hwy⟩ : ∃ wy, wy = w6F.setCell ⟨s, 2, none⟩ (.slice (some ⟨g5F, 0, none⟩) (nF + 1) cap5F) := ⟨_, rfl⟩
          rw [← hwy] at HRF
          have HEY : Hid (FTab (fun v : Value => v) wy g13 4 (shF (.int .i64 pa) (.int .i64 px) (.int .i64 py) (.int .i64 pt))) := by
            have hzz := HBZ.out.size
            have hg := HGS.out
            have hg1 := HG11.out
            have h := HEZ.out.alloc (by omega) (.cells #[.int .i64 pa, .int .i64 px, .int .i64 py, .int .i64 pt] 84)
            exact h.heap (HRF.out.2.1 g13 (by rw [World.size_alloc]; omega) (by omega) (fun e => by have := (HS1.out.opF.blk e).2; omega))
          have HSY := Lib.hid HRF.out.1
          have HWY := Lib.hid hwy
          clear hown6 hgr6 hat6 hat hmid HNF HRF hwy c0 c1 c2 c3 c4 c5 c6 c7 c8 c9 c10 e0 e1 e2 e3 s2
          go_upto_region 22 with fail
          rw [← HWY.out]
          clear HWY mF mfF
          obtain ⟨c0, c1, c2, c3, c4, c5, c6, c7, c8, c9, c10⟩ := HCE.out wy (HB3.out.trans (HSY.out.bel.mono HB3.out.size))
          have e0 : wy.cell? ⟨g13, 0, none⟩ = some (.int .i64 pa) := HEY.out.at' 0 (by omega)
          have e1 : wy.cell? ⟨g13, 1, none⟩ = some (.int .i64 px) := HEY.out.at' 1 (by omega)
          have e2 : wy.cell? ⟨g13, 2, none⟩ = some (.int .i64 py) := HEY.out.at' 2 (by omega)
          have e3 : wy.cell? ⟨g13, 3, none⟩ = some (.int .i64 pt) := HEY.out.at' 3 (by omega)
          have s3 : wy.cell? ⟨s, 3, none⟩ = some (.slice oB nB kB) := HSY.out.tab.at' 3 (by omega)
          have HAB := Lib.hid (HSY.out.below (balloc (Below.refl _ wy) (.cells #[.int .i64 pa, .int .i64 px, .int .i64 py, .int .i64 pt] 84)))
          have HNB : Hid (∀ (j : Nat) (u : Value), (encPl ⟨pa, px, py, pt⟩)[j]? = some u → (wy.alloc (.cells #[.int .i64 pa, .int .i64 px, .int .i64 py, .int .i64 pt] 84)).cell? ((⟨wy.heap.size, 0, none⟩ : Addr).add j) = some u) := World.news_of_block (cs := #[.int .i64 pa, .int .i64 px, .int .i64 py, .int .i64 pt]) (t := 84) (fr := (0, 0)) (heap_alloc_new wy _)
          go_wp2_with (at_builtin; refine wpList_app1L rfl (.tmp 129) (.tmp 131) 69 rfl elemPl Try.underlying69 w3.heap.size (.slice oB nB kB) xB encPl rfl HAB.out.opB ⟨pa, px, py, pt⟩ ⟨wy.heap.size, 0, none⟩ 1 rfl rfl HNB.out ?c1 ?c2 ?c3 ?c4 ?_)
          case c1 => simp [encPl, Value.oneCell']
          case c2 => have := HLN.out; omega
          case c3 => have := HLN.out; unfold maxLen; omega
          case c4 => have := HAB.out.bel.size; omega
          rw [← HLN.out.2.1]
          intro g5B cap5B w6B hown6 hgr6 hat6
          have hat : (Value.slice (some ⟨g5B, 0, none⟩) (nB + 1) cap5B).ownBlock = (Value.slice oB nB kB).ownBlock ∨ (Value.slice (some ⟨g5B, 0, none⟩) (nB + 1) cap5B).ownBlock = some (wy.alloc (.cells #[.int .i64 pa, .int .i64 px, .int .i64 py, .int .i64 pt] 84)).heap.size := by
            rcases hat6 with e | e
            · exact .inl e.symm
            · exact .inr (by rw [e]; simp [Value.ownBlock])
          have hmid := HAB.out.midB hgr6
          have mB : w6B.cell? ⟨s, 3, none⟩ = some (.slice oB nB kB) := hmid.at' 3 (by omega)
          have mfB := hmid.fz 3
          have HRB := Lib.hid (HAB.out.addB hown6 hgr6 hat)
          have HNX : Hid (ShU w3 (w6B.setCell ⟨s, 3, none⟩ (.slice (some ⟨g5B, 0, none⟩) (nB + 1) cap5B)) s FW FH (.slice (some ⟨g5F, 0, none⟩) (nF + 1) cap5F) (.slice (some ⟨g5B, 0, none⟩) (nB + 1) cap5B) (frV l 0 (Ps.take (k + 1))) (bkV l 0 (Ps.take (k + 1)))) := by
            show ShU _ _ _ _ _ _ _ _ _
            rw [HFN.out, HBN.out]
            exact HRB.out
          clear hown6 hgr6 hat6 hat hmid HNB HRB c0 c1 c2 c3 c4 c5 c6 c7 c8 c9 c10 e0 e1 e2 e3 s3
          go_wp2_with fail
          go_roundw
          case rel => exact ⟨k + 1, by omega, by go_num, _, _, HNX.out⟩
          case measure => simp [intOf]; omega
    · obtain rfl : n = k := by omega
      have hS := HS1.out
      have HRB : Hid (Below w.heap.size w wa) := bthen HB1.out (HB3.out.trans (hS.bel.mono HB3.out.size))
      have ht4 := HT2.out.below (HB3.out.trans (hS.bel.mono HB3.out.size)) (by rw [HZ1.out]; omega)
      have hsa := setS_at ht4 (.int .i64 FW) (.int .i64 FH) (.slice oF nF kF) (.slice oB nB kB)
      have hb13 := HB3.out.size
      have hz1 := HZ1.out
      have hFl : ∀ (xs : List Pl) (o : Option Addr) (q c : Nat), OwnPl wa w3.heap.size (.slice o q c) xs → Flat (setS wa (w.heap.size + 1) (.int .i64 FW) (.int .i64 FH) (.slice oF nF kF) (.slice oB nB kB)) 4 encPl o xs := fun xs o q c h => by
        have h2 : OwnPl (setS wa (w.heap.size + 1) (.int .i64 FW) (.int .i64 FH) (.slice oF nF kF) (.slice oB nB kB)) w3.heap.size (.slice o q c) xs := h.heap fun g e => hsa.2.1 g (by have h3 := (h.blk e).1; omega)
        obtain ⟨oa, cap, e1, -, h1⟩ := h2.flat (fun _ => rfl)
        simp only [Value.slice.injEq] at e1
        rw [e1.1]
        exact h1
      have HF : Hid (RetSheet l (frV l 0 (Ps.take n)) (bkV l 0 (Ps.take n)) w (.returned (.tuple #[.agg #[.int .i64 FW, .int .i64 FH, .slice oF nF kF, .slice oB nB kB], .int .i64 0])) (setS wa (w.heap.size + 1) (.int .i64 FW) (.int .i64 FH) (.slice oF nF kF) (.slice oB nB kB))) :=
        ⟨oF, kF, oB, kB, by rw [HLN.out.1, HLN.out.2.1, HNM.out.1, HNM.out.2.1], hFl _ _ _ _ hS.opF, hFl _ _ _ _ hS.opB, hsa.2.2.2 HRB.out (by omega)⟩
      have s0 : wa.cell? ⟨s, 0, none⟩ = some (.int .i64 FW) := hS.tab.at' 0 (by omega)
      have s1 : wa.cell? ⟨s, 1, none⟩ = some (.int .i64 FH) := hS.tab.at' 1 (by omega)
      have s2 : wa.cell? ⟨s, 2, none⟩ = some (.slice oF nF kF) := hS.tab.at' 2 (by omega)
      have s3 : wa.cell? ⟨s, 3, none⟩ = some (.slice oB nB kB) := hS.tab.at' 3 (by omega)
      have r0 : wa.cell? ⟨w.heap.size + 1, 0, none⟩ = some (.int .i64 0) := ht4.at' 0 (by omega)
      have r1 : wa.cell? ⟨w.heap.size + 1, 1, none⟩ = some (.int .i64 0) := ht4.at' 1 (by omega)
      have r2 : wa.cell? ⟨w.heap.size + 1, 2, none⟩ = some (.slice none 0 0) := ht4.at' 2 (by omega)
      have r3 : wa.cell? ⟨w.heap.size + 1, 3, none⟩ = some (.slice none 0 0) := ht4.at' 3 (by omega)
      have rf := ht4.fz
      have HR := Lib.hid hsa.1
      clear hsa hFl hb13 hz1 ht4 hS
      repeat (first | go_values | go_skip | go_guarded | go_step | go_upon)
      obtain ⟨W9, hW9⟩ : ∃ W9, W9 = setS wa (w.heap.size + 1) (.int .i64 FW) (.int .i64 FH) (.slice oF nF kF) (.slice oB nB kB) := ⟨_, rfl⟩
      rw [← hW9] at HF HR
      unfold setS at hW9
      rw [← hW9]
      have e0 : W9.cell? ⟨w.heap.size + 1, 0, none⟩ = some (.int .i64 FW) := HR.out.at' 0 (by omega)
      have e1 : W9.cell? ⟨w.heap.size + 1, 1, none⟩ = some (.int .i64 FH) := HR.out.at' 1 (by omega)
      have e2 : W9.cell? ⟨w.heap.size + 1, 2, none⟩ = some (.slice oF nF kF) := HR.out.at' 2 (by omega)
      have e3 : W9.cell? ⟨w.heap.size + 1, 3, none⟩ = some (.slice oB nB kB) := HR.out.at' 3 (by omega)
      clear hW9
      refine bodyPost_ret (v := .tuple #[.agg #[.int .i64 FW, .int .i64 FH, .slice oF nF kF, .slice oB nB kB], .int .i64 0]) (by simp only [results, sheetRes]; go_simp) rfl ?_
      exact HF.out
end Go.Proofs.Ytdblibjmgamjeaa
