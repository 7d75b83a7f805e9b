/-
  Turn by four quarters; bindery.part with a turn of 0 to 4. Printed by gen_part5.py. Own text.
-/
import Derived.Test.YtdblibjmgamjeaaPart
namespace Go.Proofs.Ytdblibjmgamjeaa
open Go.RowKit
set_option linter.unusedVariables false
set_option maxRecDepth 100000 in
set_option maxHeartbeats 8000000 in
theorem turn4_any (m : Img) (hm : Sized m) (o : Option Addr) (cap : Nat) (w : World) (hx : PxAt w o (listI m).length cap (listI m)) :
    Calls Try.prog 27 #[.agg #[.int .i64 m.W, .int .i64 m.H, .slice o (listI m).length cap], .int .i64 4] w (RetGrid0 m w) := by
  obtain ⟨W1, hW1⟩ : ∃ W1, W1 = (w.alloc (.cells #[.int .i64 m.W, .int .i64 m.H, .slice o (listI m).length cap] 74)).alloc (.cells #[.int .i64 0, .int .i64 0, .slice none 0 0] 74) := ⟨_, rfl⟩
  have hb1 : Below w.heap.size w W1 := by rw [hW1]; exact ((Below.refl _ w).alloc (Nat.le_refl _) _).alloc (by simp) _
  have hz1 : W1.heap.size = w.heap.size + 1 + 1 := by rw [hW1]; simp
  have hg1 : BoxG W1 w.heap.size m o cap := by rw [hW1]; exact (boxG_new m o cap w _ hx).below (balloc (Below.refl _ _) _)
  have ht2 : FTab (fun v : Value => v) W1 (w.heap.size + 1) 3 (outF (.int .i64 0) (.int .i64 0) (.slice none 0 0)) := by
    have h := outF_new (w.alloc (.cells #[.int .i64 m.W, .int .i64 m.H, .slice o (listI m).length cap] 74)) (.int .i64 0) (.int .i64 0) (.slice none 0 0) 74
    rw [World.size_alloc] at h
    rw [hW1]; exact h
  have HCK : Hid (Calls Try.prog 48 #[.agg #[.int .i64 m.W, .int .i64 m.H, .slice o (listI m).length cap]] W1 fun e w' => e = .returned (.int .i64 0) ∧ Below W1.heap.size W1 w') := gcheck_any m hm o cap W1
  have HCL : Hid (∀ W, Below W1.heap.size W1 W → Calls Try.prog 49 #[.slice o (listI m).length cap] W (fun e w' => ∃ o' cap', e = .returned (.slice o' (listI m).length cap') ∧ OwnPx w' W.heap.size (.slice o' (listI m).length cap') (listI m) ∧ Below W.heap.size W w')) := fun W hb => clonePx (listI m) o cap W (px_len hm).1 (by have := (px_len hm).2.1; omega) (hg1.px.below hb)
  have HRG : Hid (∀ e w', (∃ o cap, e = .returned (.tuple #[.agg #[.int .i64 m.W, .int .i64 m.H, .slice o (listI m).length cap], .int .i64 0]) ∧ OwnPx w' w.heap.size (.slice o (listI m).length cap) (listI m) ∧ Below w.heap.size w w') → RetGrid0 m w e w') := fun e w' h => h
  have c0 := hg1.c0
  have c1 := hg1.c1
  have c2 := hg1.c2
  have HG1 := Lib.hid hg1
  have HW1 : Hid ((w.alloc (.cells #[.int .i64 m.W, .int .i64 m.H, .slice o (listI m).length cap] 74)).alloc (.cells #[.int .i64 0, .int .i64 0, .slice none 0 0] 74) = W1) := hW1.symm
  have HB1 := Lib.hid hb1
  have HZ1 := Lib.hid hz1
  have HT2 := Lib.hid ht2
  have HPL := Lib.hid (px_len hm).2.1
  clear hW1 hb1 hz1 ht2 hx hg1 hm
  obtain ⟨n, hn⟩ : ∃ n, n = (listI m).length := ⟨_, rfl⟩
  obtain ⟨Wd, hWd⟩ : ∃ W, W = m.W := ⟨_, rfl⟩
  obtain ⟨Hd, hHd⟩ : ∃ H, H = m.H := ⟨_, rfl⟩
  rw [← hn] at HW1 c2 HCK HCL HRG ⊢
  rw [← hWd] at HW1 c0 HCK HRG ⊢
  rw [← hHd] at HW1 c1 HCK HRG ⊢
  have HM : Hid (Wd = m.W ∧ Hd = m.H) := ⟨hWd, hHd⟩
  clear hn hWd hHd HPL
  go_enter Try.func27, Try.ntmps27
  go_upto_region 1 with fail
  rw [HW1.out]
  clear HW1
  go_wp2_with fail
  refine HCK.out.mono ?_
  rintro e w2 ⟨rfl, hb2⟩
  have d0 := keepCell hb2 c0
  have d1 := keepCell hb2 c1
  have d2 := keepCell hb2 c2
  have HB2 := Lib.hid hb2
  have da00 := keepCell (balloc (Below.refl _ w2) (.cells #[.int .i64 0] 3)) d0
  have da01 := keepCell (balloc (Below.refl _ w2) (.cells #[.int .i64 0] 3)) d1
  have daWd0 := keepCell (balloc (Below.refl _ w2) (.cells #[.int .i64 Wd] 3)) d0
  have daWd1 := keepCell (balloc (Below.refl _ w2) (.cells #[.int .i64 Wd] 3)) d1
  have daHd0 := keepCell (balloc (Below.refl _ w2) (.cells #[.int .i64 Hd] 3)) d0
  have daHd1 := keepCell (balloc (Below.refl _ w2) (.cells #[.int .i64 Hd] 3)) d1
  have db000 := keepCell (balloc (Below.refl _ (w2.alloc (.cells #[.int .i64 0] 3))) (.cells #[.int .i64 0] 3)) da00
  have db001 := keepCell (balloc (Below.refl _ (w2.alloc (.cells #[.int .i64 0] 3))) (.cells #[.int .i64 0] 3)) da01
  have db0Wd0 := keepCell (balloc (Below.refl _ (w2.alloc (.cells #[.int .i64 0] 3))) (.cells #[.int .i64 Wd] 3)) da00
  have db0Wd1 := keepCell (balloc (Below.refl _ (w2.alloc (.cells #[.int .i64 0] 3))) (.cells #[.int .i64 Wd] 3)) da01
  have db0Hd0 := keepCell (balloc (Below.refl _ (w2.alloc (.cells #[.int .i64 0] 3))) (.cells #[.int .i64 Hd] 3)) da00
  have db0Hd1 := keepCell (balloc (Below.refl _ (w2.alloc (.cells #[.int .i64 0] 3))) (.cells #[.int .i64 Hd] 3)) da01
  have dbWd00 := keepCell (balloc (Below.refl _ (w2.alloc (.cells #[.int .i64 Wd] 3))) (.cells #[.int .i64 0] 3)) daWd0
  have dbWd01 := keepCell (balloc (Below.refl _ (w2.alloc (.cells #[.int .i64 Wd] 3))) (.cells #[.int .i64 0] 3)) daWd1
  have dbWdWd0 := keepCell (balloc (Below.refl _ (w2.alloc (.cells #[.int .i64 Wd] 3))) (.cells #[.int .i64 Wd] 3)) daWd0
  have dbWdWd1 := keepCell (balloc (Below.refl _ (w2.alloc (.cells #[.int .i64 Wd] 3))) (.cells #[.int .i64 Wd] 3)) daWd1
  have dbWdHd0 := keepCell (balloc (Below.refl _ (w2.alloc (.cells #[.int .i64 Wd] 3))) (.cells #[.int .i64 Hd] 3)) daWd0
  have dbWdHd1 := keepCell (balloc (Below.refl _ (w2.alloc (.cells #[.int .i64 Wd] 3))) (.cells #[.int .i64 Hd] 3)) daWd1
  have dbHd00 := keepCell (balloc (Below.refl _ (w2.alloc (.cells #[.int .i64 Hd] 3))) (.cells #[.int .i64 0] 3)) daHd0
  have dbHd01 := keepCell (balloc (Below.refl _ (w2.alloc (.cells #[.int .i64 Hd] 3))) (.cells #[.int .i64 0] 3)) daHd1
  have dbHdWd0 := keepCell (balloc (Below.refl _ (w2.alloc (.cells #[.int .i64 Hd] 3))) (.cells #[.int .i64 Wd] 3)) daHd0
  have dbHdWd1 := keepCell (balloc (Below.refl _ (w2.alloc (.cells #[.int .i64 Hd] 3))) (.cells #[.int .i64 Wd] 3)) daHd1
  have dbHdHd0 := keepCell (balloc (Below.refl _ (w2.alloc (.cells #[.int .i64 Hd] 3))) (.cells #[.int .i64 Hd] 3)) daHd0
  have dbHdHd1 := keepCell (balloc (Below.refl _ (w2.alloc (.cells #[.int .i64 Hd] 3))) (.cells #[.int .i64 Hd] 3)) daHd1
  clear hb2 HCK c0 c1 c2
  go_upto_region 4 with fail
  go_cut [7, 8] from 15 to 14 (fun s7 s8 wx => ∃ p7 p8 : Nat, s7 = .pointer (some ⟨p7, 0, none⟩) ∧ s8 = .pointer (some ⟨p8, 0, none⟩) ∧ Hid (Below w2.heap.size w2 wx ∧ wx.cell? ⟨p7, 0, none⟩ = some (.int .i64 Wd) ∧ wx.cell? ⟨p8, 0, none⟩ = some (.int .i64 Hd)))
  case first =>
    go_region
    all_goals
      go_wp2_with fail
      go_meet
    · have h := two_at w2 (.int .i64 Wd) (.int .i64 Hd) 3
      exact ⟨_, _, rfl, rfl, Lib.hid ⟨h.1, h.2.1, h.2.2⟩⟩
    · have h := two_at w2 (.int .i64 Hd) (.int .i64 Wd) 3
      exact ⟨_, _, rfl, rfl, Lib.hid ⟨h.1, h.2.2, h.2.1⟩⟩
  case rest =>
    obtain ⟨p7, p8, rfl, rfl, HX⟩ := hcut
    have e7 := HX.out.2.1
    have e8 := HX.out.2.2
    have HBX := Lib.hid (bthen HB2.out HX.out.1)
    have HLT : Hid (w.heap.size + 1 < W1.heap.size) := Lib.hid (by have := HZ1.out; omega)
    have e2 := keepCell HX.out.1 d2
    obtain ⟨wx, rfl⟩ : ∃ wx, wx = wc := ⟨_, rfl⟩
    obtain ⟨N, hN⟩ : ∃ N, N = n := ⟨_, rfl⟩
    clear HX d0 d1 d2 da00 da01 daWd0 daWd1 daHd0 daHd1 db000 db001 db0Wd0 db0Wd1 db0Hd0 db0Hd1 dbWd00 dbWd01 dbWdWd0 dbWdWd1 dbWdHd0 dbWdHd1 dbHd00 dbHd01 dbHdWd0 dbHdWd1 dbHdHd0 dbHdHd1 HB2
    go_upto_region 12 with fail
    go_region_law (first | (go_simp; go_at_call 49; refine (HCL.out _ (HBX.out.trans (by first | exact (Below.refl _ wx).drew.mono HBX.out.size | exact (Below.refl _ wx).mono HBX.out.size))).mono ?_; rintro e w3 ⟨o3, k3, rfl, hown3, hb3⟩; have hz3 : Below wx.heap.size wx w3 := bthen (w1 := wx.drew) (Below.refl _ wx).drew hb3; have e7b := keepCell hz3 e7; have e8b := keepCell hz3 e8; have e2b := keepCell hz3 e2; have ht3 := HT2.out.below (bthen HBX.out hz3) HLT.out; have r0 : w3.cell? ⟨w.heap.size + 1, 0, none⟩ = some (.int .i64 0) := ht3.at' 0 (by omega); have r1 : w3.cell? ⟨w.heap.size + 1, 1, none⟩ = some (.int .i64 0) := ht3.at' 1 (by omega); have r2 : w3.cell? ⟨w.heap.size + 1, 2, none⟩ = some (.slice none 0 0) := ht3.at' 2 (by omega); have rf := ht3.fz; have HT3 := Lib.hid ht3; have HZ3 := Lib.hid hz3; have HOWN3 := Lib.hid hown3; clear ht3 hz3 hown3 hb3))
    all_goals
      have hrs := res_set (x := .int .i64 Wd) (y := .int .i64 Hd) (z := .slice o3 n k3) HT3.out
      have HF : Hid (RetGrid0 m w (.returned (.tuple #[.agg #[.int .i64 Wd, .int .i64 Hd, .slice o3 n k3], .int .i64 0])) (resW w3 (w.heap.size + 1) (.int .i64 Wd) (.int .i64 Hd) (.slice o3 n k3))) := by
        refine HRG.out _ _ ⟨o3, k3, rfl, ?_, hrs.bel (bthen (bthen HB1.out HBX.out) HZ3.out) (by omega)⟩
        have h1 : OwnPx w3 wx.heap.size (.slice o3 n k3) (listI m) := HOWN3.out
        have h2 : OwnPx (resW w3 (w.heap.size + 1) (.int .i64 Wd) (.int .i64 Hd) (.slice o3 n k3)) wx.heap.size (.slice o3 n k3) (listI m) := h1.heap fun k e => hrs.hp k (by have h3 := (h1.blk e).1; have h4 := HLT.out; have h5 := HBX.out.size; omega)
        exact h2.rebase (Nat.le_trans HB1.out.size HBX.out.size)
      have HRS := Lib.hid hrs
      clear hrs e7 e8 e2 e7b e8b e2b
      try dsimp only
      repeat (first | go_values | go_skip | go_guarded | go_step | go_upon)
      obtain ⟨W9, hW9⟩ : ∃ W9, W9 = resW w3 (w.heap.size + 1) (.int .i64 Wd) (.int .i64 Hd) (.slice o3 n k3) := ⟨_, rfl⟩
      rw [← hW9] at HF HRS
      unfold resW at hW9
      rw [← hW9]
      have e0 := HRS.out.c0
      have e1 := HRS.out.c1
      have e2 := HRS.out.c2
      clear hW9
      refine bodyPost_ret (v := .tuple #[.agg #[.int .i64 Wd, .int .i64 Hd, .slice o3 n k3], .int .i64 0]) (by simp only [results, turnRes]; go_simp) rfl ?_
      exact HF.out
theorem turn5_any (m : Img) (hm : Sized m) (o : Option Addr) (cap : Nat) (k : Int) (hk : 0 ≤ k ∧ k < 5) (w : World) (hx : PxAt w o (listI m).length cap (listI m)) :
    Calls Try.prog 27 #[.agg #[.int .i64 m.W, .int .i64 m.H, .slice o (listI m).length cap], .int .i64 k] w (RetGrid0 (turnI m k) w) := by
  by_cases h : k = 4
  · subst h
    have e : turnI m 4 = m := rfl
    rw [e]
    exact turn4_any m hm o cap w hx
  · exact turn_any m hm o cap k (by omega) w hx
set_option maxRecDepth 100000 in
set_option maxHeartbeats 8000000 in
theorem part5_any (m : Img) (hm : Sized m) (o : Option Addr) (cap : Nat) (a b W' H' : Nat) (h1 : 1 ≤ W') (h2 : 1 ≤ H') (h3 : a + W' ≤ m.W) (h4 : b + H' ≤ m.H) (k : Int) (hk : 0 ≤ k ∧ k < 5) (w : World) (hx : PxAt w o (listI m).length cap (listI m)) :
    Calls Try.prog 30 #[.agg #[.int .i64 m.W, .int .i64 m.H, .slice o (listI m).length cap], .int .i64 a, .int .i64 b, .int .i64 W', .int .i64 H', .int .i64 k] w (RetGrid (turnI (cropI m a b W' H') k) w) := by
  have hs' : Sized (cropI m a b W' H') := by
    obtain ⟨s1, s2, s3, s4⟩ := hm
    exact ⟨h1, by show W' ≤ _; omega, h2, by show H' ≤ _; omega⟩
  have ht' := turn_sized hs' k
  obtain ⟨W1, hW1⟩ : ∃ W1, W1 = (w.alloc (.cells #[.int .i64 m.W, .int .i64 m.H, .slice o (listI m).length cap] 37)).alloc (.cells #[.int .i64 0, .int .i64 0, .slice none 0 0] 37) := ⟨_, rfl⟩
  have hb1 : Below w.heap.size w W1 := by rw [hW1]; exact balloc (balloc (Below.refl _ w) _) _
  have hz1 : W1.heap.size = w.heap.size + 1 + 1 := by rw [hW1]; simp
  have hg1 : BoxG W1 w.heap.size m o cap := by rw [hW1]; exact (boxG_new m o cap w _ hx).below (balloc (Below.refl _ _) _)
  have ht2 : FTab (fun v : Value => v) W1 (w.heap.size + 1) 3 (outF (.int .i64 0) (.int .i64 0) (.slice none 0 0)) := by
    have h := outF_new (w.alloc (.cells #[.int .i64 m.W, .int .i64 m.H, .slice o (listI m).length cap] 37)) (.int .i64 0) (.int .i64 0) (.slice none 0 0) 37
    rw [World.size_alloc] at h
    rw [hW1]; exact h
  have HOF : Hid (Calls Try.prog 26 #[.agg #[.int .i64 m.W, .int .i64 m.H, .slice o (listI m).length cap]] W1 (RetGrid m W1)) := of_any m hm o cap W1 hg1.px
  have HCR : Hid (∀ W o k, PxAt W o (listI m).length k (listI m) → Calls Try.prog 53 #[.agg #[.int .i64 m.W, .int .i64 m.H, .slice o (listI m).length k], .int .i64 a, .int .i64 b, .int .i64 W', .int .i64 H'] W (RetGrid0 (cropI m a b W' H') W)) := fun W o k h => crop_any m hm o k a b W' H' h1 h2 h3 h4 W h
  obtain ⟨C, hC⟩ : ∃ C, C = cropI m a b W' H' := ⟨_, rfl⟩
  have hCW : C.W = W' ∧ C.H = H' := by rw [hC]; exact ⟨rfl, rfl⟩
  rw [← hC] at HCR hs' ht' ⊢
  have HTU : Hid (∀ W o c, PxAt W o (listI C).length c (listI C) → Calls Try.prog 27 #[.agg #[.int .i64 C.W, .int .i64 C.H, .slice o (listI C).length c], .int .i64 k] W (RetGrid0 (turnI C k) W)) := fun W o c h => turn5_any C hs' o c k hk W h
  obtain ⟨T, hT⟩ : ∃ T, T = turnI C k := ⟨_, rfl⟩
  rw [← hT] at HTU ht' ⊢
  have HPL : Hid (∀ W o c, PxAt W o (listI T).length c (listI T) → Calls Try.prog 28 #[.agg #[.int .i64 T.W, .int .i64 T.H, .slice o (listI T).length c]] W (RetGrid T W)) := fun W o c h => plate_any T ht' o c W h
  have c0 := hg1.c0
  have c1 := hg1.c1
  have c2 := hg1.c2
  have HW1 : Hid ((w.alloc (.cells #[.int .i64 m.W, .int .i64 m.H, .slice o (listI m).length cap] 37)).alloc (.cells #[.int .i64 0, .int .i64 0, .slice none 0 0] 37) = W1) := hW1.symm
  have HB1 := Lib.hid hb1
  have HZ1 := Lib.hid hz1
  have HT2 := Lib.hid ht2
  clear hW1 hb1 hz1 ht2 hx hg1 hm hs' ht' hC hCW hT h1 h2 h3 h4 hk
  obtain ⟨n, hn⟩ : ∃ n, n = (listI m).length := ⟨_, rfl⟩
  obtain ⟨nC, hnC⟩ : ∃ n, n = (listI C).length := ⟨_, rfl⟩
  obtain ⟨nT, hnT⟩ : ∃ n, n = (listI T).length := ⟨_, rfl⟩
  rw [← hn] at HW1 c2 HOF HCR ⊢
  rw [← hnC] at HTU
  rw [← hnT] at HPL
  have HNN : Hid (n = (listI m).length ∧ nC = (listI C).length ∧ nT = (listI T).length) := ⟨hn, hnC, hnT⟩
  clear hn hnC hnT
  go_enter Try.func30, Try.ntmps30
  go_upto_region 1 with fail
  rw [HW1.out]
  clear HW1
  go_wp2_with fail
  refine HOF.out.mono ?_
  intro e w2 hret
  obtain ⟨o2, k2, he, hown2, hb2⟩ := hret
  rw [← HNN.out.1] at he hown2
  subst he
  have HCR2 := Lib.hid (HCR.out w2 o2 k2 (by have h := hown2.at; exact h))
  have HB2 := Lib.hid hb2
  clear hown2 hb2 HCR HOF c0 c1 c2
  dsimp only
  go_wp2_with fail
  refine HCR2.out.mono ?_
  intro e w3 hret
  obtain ⟨o3, k3, he, hown3, hb3⟩ := hret
  rw [← HNN.out.2.1] at he hown3
  subst he
  have hg4 := outF_new w3 (.int .i64 C.W) (.int .i64 C.H) (.slice o3 nC k3) 74
  obtain ⟨w4, hw4⟩ : ∃ w4, w4 = w3.alloc (.cells #[.int .i64 C.W, .int .i64 C.H, .slice o3 nC k3] 74) := ⟨_, rfl⟩
  rw [← hw4] at hg4
  have hb4 : Below w3.heap.size w3 w4 := by rw [hw4]; exact balloc (Below.refl _ w3) _
  have hz4 : w4.heap.size = w3.heap.size + 1 := by rw [hw4]; simp
  have HTU4 := Lib.hid (HTU.out w4 o3 k3 (OwnPx.at (Own.below hown3 hb4)))
  have HW4 := Lib.hid hw4
  have HB4 := Lib.hid (bthen HB2.out (bthen hb3 hb4))
  have HG4 := Lib.hid hg4
  have HZ4 : Hid (w3.heap.size < w4.heap.size ∧ w2.heap.size ≤ w3.heap.size) := ⟨by omega, hb3.size⟩
  clear hown3 hb3 HCR2 HTU hg4 hw4 hb4 hz4
  dsimp only
  go_upto_region 2 with fail
  rw [← HW4.out]
  clear HW4
  have c0 : w4.cell? ⟨w3.heap.size, 0, none⟩ = some (.int .i64 C.W) := HG4.out.at' 0 (by omega)
  have c1 : w4.cell? ⟨w3.heap.size, 1, none⟩ = some (.int .i64 C.H) := HG4.out.at' 1 (by omega)
  have c2 : w4.cell? ⟨w3.heap.size, 2, none⟩ = some (.slice o3 nC k3) := HG4.out.at' 2 (by omega)
  go_wp2_with fail
  refine HTU4.out.mono ?_
  intro e w5 hret
  obtain ⟨o5, k5, he, hown5, hb5⟩ := hret
  rw [← HNN.out.2.2] at he hown5
  subst he
  have ht5 := HG4.out.below hb5 HZ4.out.1
  have hrs := res_set (x := .int .i64 T.W) (y := .int .i64 T.H) (z := .slice o5 nT k5) ht5
  obtain ⟨w6, hw6⟩ : ∃ w6, w6 = resW w5 w3.heap.size (.int .i64 T.W) (.int .i64 T.H) (.slice o5 nT k5) := ⟨_, rfl⟩
  rw [← hw6] at hrs
  have hown6 : OwnPx w6 w4.heap.size (.slice o5 nT k5) (listI T) := hown5.heap fun g e => hrs.hp g (by have h3 := (hown5.blk e).1; have := HZ4.out.1; omega)
  have HPL6 := Lib.hid (HPL.out w6 o5 k5 hown6.at)
  have HB6 : Hid (Below W1.heap.size W1 w6) := hrs.bel (bthen HB4.out hb5) (by have := HZ4.out.2; have := HB2.out.size; omega)
  have HRS := Lib.hid hrs
  have HW6 : Hid (((w5.setCell ⟨w3.heap.size, 0, none⟩ (.int .i64 T.W)).setCell ⟨w3.heap.size, 1, none⟩ (.int .i64 T.H)).setCell ⟨w3.heap.size, 2, none⟩ (.slice o5 nT k5) = w6) := hw6.symm
  have r0 : w5.cell? ⟨w3.heap.size, 0, none⟩ = some (.int .i64 C.W) := ht5.at' 0 (by omega)
  have r1 : w5.cell? ⟨w3.heap.size, 1, none⟩ = some (.int .i64 C.H) := ht5.at' 1 (by omega)
  have r2 : w5.cell? ⟨w3.heap.size, 2, none⟩ = some (.slice o3 nC k3) := ht5.at' 2 (by omega)
  have rf := ht5.fz
  clear ht5 hrs hw6 hown5 hown6 HPL HTU4 c0 c1 c2 hb5
  dsimp only
  go_upto_region 3 with fail
  rw [HW6.out]
  clear HW6 r0 r1 r2 rf
  have c0 := HRS.out.c0
  have c1 := HRS.out.c1
  have c2 := HRS.out.c2
  go_wp2_with fail
  refine HPL6.out.mono ?_
  intro e w7 hret
  obtain ⟨o7, k7, he, hown7, hb7⟩ := hret
  rw [← HNN.out.2.2] at he hown7
  subst he
  have ht7 := HT2.out.below (bthen HB6.out hb7) (by rw [HZ1.out]; omega)
  have hrs := res_set (x := .int .i64 T.W) (y := .int .i64 T.H) (z := .slice o7 nT k7) ht7
  have HF : Hid (RetGrid T w (.returned (.agg #[.int .i64 T.W, .int .i64 T.H, .slice o7 nT k7])) (resW w7 (w.heap.size + 1) (.int .i64 T.W) (.int .i64 T.H) (.slice o7 nT k7))) := by
    have hz := HZ1.out
    have hs6 := HB6.out.size
    have h2 : OwnPx (resW w7 (w.heap.size + 1) (.int .i64 T.W) (.int .i64 T.H) (.slice o7 nT k7)) w6.heap.size (.slice o7 nT k7) (listI T) := hown7.heap fun g e => hrs.hp g (by have h3 := (hown7.blk e).1; omega)
    refine ⟨o7, k7, by rw [← HNN.out.2.2], ?_, hrs.bel (bthen (bthen HB1.out HB6.out) hb7) (by omega)⟩
    rw [← HNN.out.2.2]
    exact h2.rebase (Nat.le_trans HB1.out.size hs6)
  have r0 : w7.cell? ⟨w.heap.size + 1, 0, none⟩ = some (.int .i64 0) := ht7.at' 0 (by omega)
  have r1 : w7.cell? ⟨w.heap.size + 1, 1, none⟩ = some (.int .i64 0) := ht7.at' 1 (by omega)
  have r2 : w7.cell? ⟨w.heap.size + 1, 2, none⟩ = some (.slice none 0 0) := ht7.at' 2 (by omega)
  have rf := ht7.fz
  have HRS7 := Lib.hid hrs
  clear hrs ht7 hown7 hb7 c0 c1 c2
  dsimp only
  repeat (first | go_values | go_skip | go_guarded | go_step | go_upon)
  obtain ⟨W9, hW9⟩ : ∃ W9, W9 = resW w7 (w.heap.size + 1) (.int .i64 T.W) (.int .i64 T.H) (.slice o7 nT k7) := ⟨_, rfl⟩
  rw [← hW9] at HF HRS7
  unfold resW at hW9
  rw [← hW9]
  have e0 := HRS7.out.c0
  have e1 := HRS7.out.c1
  have e2 := HRS7.out.c2
  clear hW9
  refine bodyPost_ret (v := .agg #[.int .i64 T.W, .int .i64 T.H, .slice o7 nT k7]) (by simp only [results, partRes]; go_simp) rfl ?_
  exact HF.out
end Go.Proofs.Ytdblibjmgamjeaa
