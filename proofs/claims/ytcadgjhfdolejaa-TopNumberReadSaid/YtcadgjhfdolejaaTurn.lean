/-
  The walk of bitmap.Turned. Own text.
-/
import Derived.Test.YtcadgjhfdolejaaGrow
namespace Go.Proofs.Ytcadgjhfdolejaa
open Go.RowKit
set_option linter.unusedVariables false
/-- A quarter turn of a bitmap: its sizes, its bits. -/
structure Bm where
  W : Nat
  H : Nat
  p : Plane
def turnS (s : Bm) : Bm := ⟨s.H, s.W, cutP s.H s.W (quarP s.H s.p)⟩
def turnN (s : Bm) : Nat → Bm
  | 0 => s
  | n + 1 => turnS (turnN s n)
def BmOk (s : Bm) : Prop := (1 ≤ s.W ∧ s.W ≤ 1024) ∧ 1 ≤ s.H ∧ s.H ≤ 1024
theorem turnN_ok {s : Bm} (h : BmOk s) : ∀ n, BmOk (turnN s n)
  | 0 => h
  | n + 1 => by
    obtain ⟨h1, h2⟩ := turnN_ok h n
    exact ⟨h2, h1⟩
def RetBm (s : Bm) (w : World) (e : Ending) (w' : World) : Prop := RetBits s.W s.H s.p w e w'
theorem turnedRes : Try.f24.results = #[.cell 4 29] := rfl
set_option maxRecDepth 100000 in
set_option maxHeartbeats 8000000 in
theorem turned_any (g0 d0 c0 W H : Nat) (p : Plane) (hW : 1 ≤ W ∧ W ≤ 1024) (hH : 1 ≤ H ∧ H ≤ 1024) (N : Nat) (hN : N < 4) (w : World) (h : BitsAt w g0 d0 c0 W H p) :
    Calls Try.prog 24 #[.pointer (some ⟨g0, 0, none⟩), .int .i64 N] w (RetBm (turnN ⟨W, H, p⟩ N) w) := by
  have hml : 0 < strV W * H ∧ strV W * H ≤ 128 * 1024 := ⟨Nat.mul_pos (by unfold strV; omega) (by omega), Nat.mul_le_mul (str_bd hW.2) hH.2⟩
  obtain ⟨wa, hwa⟩ : ∃ wa, wa = (w.alloc (.cells #[.pointer (some ⟨g0, 0, none⟩)] 59)).alloc (.cells #[.int .i64 0, .int .i64 0, .slice none 0 0] 29) := ⟨_, rfl⟩
  have HWA : Hid ((w.alloc (.cells #[.pointer (some ⟨g0, 0, none⟩)] 59)).alloc (.cells #[.int .i64 0, .int .i64 0, .slice none 0 0] 29) = wa) := hwa.symm
  have hba : Below w.heap.size w wa := by rw [hwa]; exact balloc (balloc (Below.refl _ w) _) _
  have hza : wa.heap.size = w.heap.size + 1 + 1 := by rw [hwa]; simp
  have hta : T3 wa (w.heap.size + 1) (.int .i64 0) (.int .i64 0) (.slice none 0 0) := by
    have h := T3.new (w.alloc (.cells #[.pointer (some ⟨g0, 0, none⟩)] 59)) (.int .i64 0) (.int .i64 0) (.slice none 0 0) 29
    rw [World.size_alloc] at h
    rw [hwa]; exact h
  have hpa : wa.cell? ⟨w.heap.size, 0, none⟩ = some (.pointer (some ⟨g0, 0, none⟩)) := by
    rw [hwa]
    exact keepCell (balloc (Below.refl _ _) _) (by rw [cell_of_row _ w.heap.size 0 _ _ (0, 0) (heap_alloc_new w _)]; rfl)
  have hat := h.below hba (by omega) (by omega)
  obtain ⟨m, hm⟩ : ∃ m, m = strV W * H := ⟨_, rfl⟩
  obtain ⟨a0, a1, a2, had⟩ := hat
  rw [← hm] at a2
  obtain ⟨wb, hwb⟩ : ∃ wb, wb = wa.alloc (.cells #[.int .i64 W, .int .i64 H, .slice (some ⟨d0, 0, none⟩) m c0] 29) := ⟨_, rfl⟩
  have HWB : Hid (wa.alloc (.cells #[.int .i64 W, .int .i64 H, .slice (some ⟨d0, 0, none⟩) m c0] 29) = wb) := hwb.symm
  have hbb : Below wa.heap.size wa wb := by rw [hwb]; exact balloc (Below.refl _ wa) _
  have hpb := keepCell (balloc (Below.refl _ wa) (.cells #[.int .i64 W, .int .i64 H, .slice (some ⟨d0, 0, none⟩) m c0] 29)) hpa
  rw [← hwb] at hpb
  have hzb : wb.heap.size = w.heap.size + 1 + 1 + 1 := by rw [hwb]; simp; omega
  have htb : T3 wb (w.heap.size + 1 + 1) (.int .i64 W) (.int .i64 H) (.slice (some ⟨d0, 0, none⟩) m c0) := by rw [hwb, ← hza]; exact T3.new wa _ _ _ _
  have hrb := hta.below hbb
  have hdb := had.below hbb (had.lt (by omega) (by omega))
  obtain ⟨xs, hsl, hxl, hdx⟩ := hdb.row (by unfold maxLen; omega) c0
  rw [← hm] at hsl hxl
  have b2 := keepCell hbb a2
  have HSL := Lib.hid hsl
  have HXL := Lib.hid hxl
  have HB : Hid (Below w.heap.size w wb) := bthen hba hbb
  have HT : Hid (T3 wb (w.heap.size + 1 + 1) (.int .i64 W) (.int .i64 H) (.slice (some ⟨d0, 0, none⟩) m c0) ∧ T3 wb (w.heap.size + 1) (.int .i64 0) (.int .i64 0) (.slice none 0 0) ∧ wb.heap.size = w.heap.size + 1 + 1 + 1) := ⟨htb, hrb, hzb⟩
  have HM : Hid (m = strV W * H ∧ 0 < m ∧ m ≤ 128 * 1024) := ⟨hm, by omega, by omega⟩
  have hown : Own wb wb.heap.size 5 1 (enc1 encB) (.slice none 0 0) ([] : List Nat) := Own.nil _ _ _ _ _
  have ZA : Hid (wa.heap.size = w.heap.size + 1 + 1) := hza
  clear hwa hwb hta hba hbb hsl hxl htb hrb had hml h hm hza hzb hdb
  go_enter Try.func24, Try.ntmps24
  go_upto_region 1 with fail
  rw [HWA.out]
  clear HWA
  go_upto_region 2 with fail
  rw [HWB.out, ZA.out]
  clear HWB a0 a1 a2 hpa
  go_wp2_with (at_builtin; go_must (refine wpList_appRow rfl (.const (.slice none 0 0)) (.tmp 13) 27 rfl elemU8 Try.underlying27 wb.heap.size _ [] (enc1 encB) rfl hown xs _ rfl HSL.out (fun _ => rfl) ?c1 ?c2 ?c3 ?c4 ?_))
  case c1 => intro y; simp [enc1, encB, Value.oneCell']
  case c2 => have := HXL.out; have := HM.out; simp; omega
  case c3 => have := HXL.out; have := HM.out; simp; unfold maxLen; omega
  case c4 => exact Nat.le_refl _
  intro v' w3 hown3 hg3
  have hown4 : Own w3 wb.heap.size 5 1 (enc1 encB) v' xs := by simpa using hown3
  obtain ⟨d1, k1, rfl, ha, hk1, hd1, hd2⟩ := own_arr hown4 (by have := HXL.out; have := HM.out; omega)
  rw [HXL.out] at hk1 ⊢
  have hbz := hown.grown HB.out (by have := HB.out.size; exact this) hg3
  obtain ⟨ht5, ht4, hzb⟩ := HT.out
  have t5 : T3 w3 (w.heap.size + 1 + 1) (.int .i64 W) (.int .i64 H) (.slice (some ⟨d0, 0, none⟩) m c0) := ht5.heap (hg3.block _ ht5.lt (fun e => by cases e))
  have t4 : T3 w3 (w.heap.size + 1) (.int .i64 0) (.int .i64 0) (.slice none 0 0) := ht4.heap (hg3.block _ ht4.lt (fun e => by cases e))
  have hs3 := hg3.size
  have hd3 := hdx w3 wb.heap.size _ d1 k1 ha
  obtain ⟨W5, hW5⟩ : ∃ W5, W5 = w3.setCell ⟨w.heap.size + 1 + 1, 2, none⟩ (.slice (some ⟨d1, 0, none⟩) m k1) := ⟨_, rfl⟩
  have ho := Only.set w3 (w.heap.size + 1 + 1) 2 (.slice (some ⟨d1, 0, none⟩) m k1)
  have HU : Hid (GnU w (w.heap.size + 1) (w.heap.size + 1 + 1) d1 k1 W H W5 p) := by
    have e := HM.out.1
    rw [← hW5] at ho
    refine ⟨ho.bel hbz (by omega), by rw [hW5, ← e]; exact t5.set2 _, t4.heap (ho.hp _ (by omega)), hd3.heap (ho.hp _ (by omega)), by omega, by rw [ho.sz]; omega, by omega, by rw [ho.sz]; omega, by omega, by rw [ho.sz]; omega, by omega, by omega, by omega, by rw [← e]; exact hk1⟩
  have f2 := t5.c2
  have ff := t5.fr
  have HW5 : Hid (w3.setCell ⟨w.heap.size + 1 + 1, 2, none⟩ (.slice (some ⟨d1, 0, none⟩) m k1) = W5) := hW5.symm
  have HM1 := HM
  have HMS : Hid (strV W * H = m) := HM.out.1.symm
  clear hown3 hown4 hg3 ha hk1 hd1 hd2 hbz ht5 ht4 hzb t5 t4 hs3 hd3 hW5 ho hown HSL HXL hdx HT HM b2 HB ZA hpb
  go_upto_region 3 with fail
  rw [HW5.out]
  clear HW5 f2 ff
  obtain ⟨g, hg⟩ : ∃ g, g = w.heap.size + 1 + 1 := ⟨_, rfl⟩
  rw [← hg] at HU ⊢
  obtain ⟨r, hr⟩ : ∃ r, r = w.heap.size + 1 := ⟨_, rfl⟩
  rw [← hr] at HU ⊢
  have HR := Lib.hid hr
  have n4 : ¬ (4 : Int) ≤ (N : Int) := by omega
  have n4' : decide ((4 : Int) ≤ (N : Int)) = false := decide_eq_false n4
  have r4 : (N : Int) % 4 = (N : Int) := by omega
  have r4' : (N : Int).tmod 4 = (N : Int) := by rw [Int.tmod_eq_emod_of_nonneg (by omega)]; exact r4
  obtain ⟨S, hS⟩ : ∃ S : Bm, S = ⟨W, H, p⟩ := ⟨_, rfl⟩
  have HSO : Hid (BmOk S) := by show BmOk S; rw [hS]; exact ⟨hW, hH⟩
  have HU0 : Hid (GnU w r g d1 k1 (turnN S 0).W (turnN S 0).H W5 (turnN S 0).p) := by rw [hS]; exact HU.out
  have HSS := Lib.hid hS
  clear hr hg HU hS HM1 HMS
  go_wp2_with fail
  go_loopw [30] (fun i wr => ∃ k : Nat, k ≤ N ∧ i = .int .i64 k ∧ Hid (∃ d c, GnU w r g d c (turnN S k).W (turnN S k).H wr (turnN S k).p)) (fun i _ => N - (intOf i).toNat)
  case atStart => exact ⟨0, by omega, rfl, d1, k1, HU0.out⟩
  case round =>
    clear HU0
    obtain ⟨k, hk, rfl, HX⟩ := hrel
    obtain ⟨wq, rfl⟩ : ∃ wb : World, wb = wr := ⟨_, rfl⟩
    obtain ⟨d, c, hx⟩ := HX.out
    have hok := turnN_ok HSO.out k
    obtain ⟨V, G, q, hV⟩ : ∃ V G q, turnN S k = ⟨V, G, q⟩ := ⟨_, _, _, rfl⟩
    rw [hV] at hx hok
    obtain ⟨hVV, hGG⟩ := hok
    simp only at hx hVV hGG
    obtain ⟨m2, hm2⟩ : ∃ m2, m2 = strV V * G := ⟨_, rfl⟩
    have HMS : Hid (strV V * G = m2) := hm2.symm
    have HVN := Lib.hid hV
    clear hm2 hV
    by_cases hlt : k < N
    · have kd : (k : Int) < (N : Int) := by omega
      have e0 := hx.tab.c0
      have e1 := hx.tab.c1
      have e2 := hx.tab.c2
      rw [HMS.out] at e2
      obtain ⟨w6, hw6⟩ : ∃ w6, w6 = wq.alloc (.cells #[.int .i64 V, .int .i64 G, .slice (some ⟨d, 0, none⟩) m2 c] 29) := ⟨_, rfl⟩
      have hb6 : Below wq.heap.size wq w6 := by rw [hw6]; exact balloc (Below.refl _ _) _
      have t6 : T3 w6 wq.heap.size (.int .i64 V) (.int .i64 G) (.slice (some ⟨d, 0, none⟩) m2 c) := by rw [hw6]; exact T3.new wq _ _ _ _
      have hx6 := hx.below hb6
      have HFR : Hid (Calls Try.prog 37 #[.int .i64 G, .int .i64 V, .func (.func 40) #[] #[.pointer (some ⟨wq.heap.size, 0, none⟩)]] w6 (RetBits G V (cutP G V (quarP G q)) w6)) := by
        refine fromT_any G V hGG hVV _ wq.heap.size w6 fun Wd x y hx' hy' hbd => quar_any wq.heap.size d c V G _ hVV.2 hGG x y hx' hy' Wd ?_
        have t7 := t6.below hbd
        rw [← HMS.out] at t7
        exact ⟨t7.c0, t7.c1, t7.c2, hx6.dat.below hbd hx6.lt.2.2.2.2.2.1⟩
      have HX6 := Lib.hid hx6
      have f0 := t6.c0
      have f1 := t6.c1
      have f2 := t6.c2
      have HW6 : Hid (wq.alloc (.cells #[.int .i64 V, .int .i64 G, .slice (some ⟨d, 0, none⟩) m2 c] 29) = w6) := hw6.symm
      clear hx hx6 hb6 t6 HX hw6
      go_upto_region 8 with fail
      rw [HW6.out]
      clear HW6 e0 e1 e2
      go_wp2_with fail
      refine HFR.out.mono ?_
      intro e w7 hret
      obtain ⟨d', c', rfl, hd', hd1', hd2', hc', hb7⟩ := hret
      have hU := HX6.out.put hb7 hd' hd1' hd2' hc'
      have t7 := HX6.out.tab.below hb7
      obtain ⟨m3, hm3⟩ : ∃ m3, m3 = strV G * V := ⟨_, rfl⟩
      have r0 := t7.c0
      have r1 := t7.c1
      have r2 := t7.c2
      have rf := t7.fr
      have HNX : Hid (∃ d c, GnU w r g d c (turnN S (k + 1)).W (turnN S (k + 1)).H (resW w7 g (.int .i64 G) (.int .i64 V) (.slice (some ⟨d', 0, none⟩) m3 c')) (turnN S (k + 1)).p) := by
        have e : turnN S (k + 1) = ⟨G, V, cutP G V (quarP G q)⟩ := by show turnS (turnN S k) = _; rw [HVN.out]; rfl
        rw [e, hm3]; exact ⟨d', c', hU⟩
      rw [HMS.out] at r2
      rw [← hm3]
      unfold resW at HNX
      clear hU t7 hd' hd1' hd2' hc' hb7 HX6 HFR f0 f1 f2 hm3
      dsimp only
      go_upto_region 9 with fail
      go_wp2_with fail
      go_roundw
      case rel => exact ⟨k + 1, by omega, by go_num, HNX⟩
      case measure => simp [intOf]; omega
    · obtain rfl : N = k := by omega
      obtain ⟨l1, l2, l3, l4, l5, l6, l7, l8, l9, l10⟩ := hx.lt
      have z0 := hx.tab.c0
      have z1 := hx.tab.c1
      have z2 := hx.tab.c2
      have r0 := hx.res.c0
      have r1 := hx.res.c1
      have r2 := hx.res.c2
      have rf := hx.res.fr
      obtain ⟨hT9, hO9⟩ := res_set (x := .int .i64 V) (y := .int .i64 G) (z := .slice (some ⟨d, 0, none⟩) m2 c) hx.res
      have HF : Hid (RetBm (turnN S N) w (.returned (.agg #[.int .i64 V, .int .i64 G, .slice (some ⟨d, 0, none⟩) m2 c])) (resW wq r (.int .i64 V) (.int .i64 G) (.slice (some ⟨d, 0, none⟩) m2 c))) := by
        rw [HVN.out]
        refine ⟨d, c, by rw [HMS.out], hx.dat.heap (hO9.hp d l8), l5, by rw [hO9.sz]; exact l6, l10, hO9.bel hx.bel l1⟩
      rw [HMS.out] at z2
      have HT9 := Lib.hid hT9
      clear hx HX hT9 hO9 HMS hk hlt l1 l2 l3 l4 l5 l6 l7 l8 l9 l10
      repeat (first | go_values | go_skip | go_guarded | go_step | go_upon)
      obtain ⟨W9, hW9⟩ : ∃ W9, W9 = resW wq r (.int .i64 V) (.int .i64 G) (.slice (some ⟨d, 0, none⟩) m2 c) := ⟨_, rfl⟩
      rw [← hW9] at HF HT9
      unfold resW at hW9
      rw [← hW9]
      have e0 := HT9.out.c0
      have e1 := HT9.out.c1
      have e2 := HT9.out.c2
      clear hW9
      rw [HSS.out] at HF
      refine bodyPost_ret (v := .agg #[.int .i64 V, .int .i64 G, .slice (some ⟨d, 0, none⟩) m2 c]) (by simp only [results, turnedRes]; go_simp) rfl ?_
      exact HF.out
end Go.Proofs.Ytcadgjhfdolejaa
