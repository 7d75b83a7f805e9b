/-
  The walk of raster's Plate. The walk of bindery.part. Own text.
-/
import Derived.Test.YtdblibjmgamjeaaRas
import Derived.Test.YtdblibjmgamjeaaPasteV
import Derived.Test.YtdblibjmgamjeaaCrop
namespace Go.Proofs.Ytdblibjmgamjeaa
open Go.RowKit
set_option linter.unusedVariables false
set_option maxRecDepth 100000 in
set_option maxHeartbeats 8000000 in
theorem plate_any (m : Img) (hm : Sized m) (o : Option Addr) (cap : Nat) (w : World) (hx : PxAt w o (listI m).length cap (listI m)) :
    Calls Try.prog 28 #[.agg #[.int .i64 m.W, .int .i64 m.H, .slice o (listI m).length cap]] w (RetGrid m w) := by
  obtain ⟨p1, p2, p3⟩ := px_len hm
  obtain ⟨xs, hxs⟩ : ∃ xs, xs = listI m := ⟨_, rfl⟩
  have HRG : Hid (∀ e w', (∃ o cap, e = .returned (.agg #[.int .i64 m.W, .int .i64 m.H, .slice o xs.length cap]) ∧ OwnPx w' w.heap.size (.slice o xs.length cap) xs ∧ Below w.heap.size w w') → RetGrid m w e w') := fun e w' h => by
    unfold RetGrid
    rw [← hxs]; exact h
  rw [← hxs] at p1 p2 hx ⊢
  have HCL : Hid (∀ W, Below w.heap.size w W → Calls Try.prog 49 #[.slice o xs.length cap] W (fun e w' => ∃ o' cap', e = .returned (.slice o' xs.length cap') ∧ OwnPx w' W.heap.size (.slice o' xs.length cap') xs ∧ Below W.heap.size W w')) := fun W hb => clonePx xs o cap W p1 (by omega) (hx.below hb)
  obtain ⟨n, hn⟩ : ∃ n, n = xs.length := ⟨_, rfl⟩
  obtain ⟨Wd, hWd⟩ : ∃ W, W = m.W := ⟨_, rfl⟩
  obtain ⟨Hd, hHd⟩ : ∃ H, H = m.H := ⟨_, rfl⟩
  rw [← hn] at HCL HRG ⊢
  rw [← hWd] at HRG ⊢
  rw [← hHd] at HRG ⊢
  have HNN := Lib.hid hn
  clear p1 p2 p3 hx hxs hn hWd hHd hm
  obtain ⟨W2, hW2⟩ : ∃ W2, W2 = (w.alloc (.cells #[.int .i64 Wd, .int .i64 Hd, .slice o n cap] 74)).alloc (.cells #[.int .i64 0, .int .i64 0, .slice none 0 0] 37) := ⟨_, rfl⟩
  have hb2 : Below w.heap.size w W2 := by rw [hW2]; exact ((Below.refl _ w).alloc (Nat.le_refl _) _).alloc (by simp) _
  have hz2 : W2.heap.size = w.heap.size + 1 + 1 := by rw [hW2]; simp
  have ht1 : FTab (fun v : Value => v) W2 w.heap.size 3 (outF (.int .i64 Wd) (.int .i64 Hd) (.slice o n cap)) := by rw [hW2]; exact (outF_new w _ _ _ _).alloc (by simp) _
  have ht2 : FTab (fun v : Value => v) W2 (w.heap.size + 1) 3 (outF (.int .i64 0) (.int .i64 0) (.slice none 0 0)) := by
    have h := outF_new (w.alloc (.cells #[.int .i64 Wd, .int .i64 Hd, .slice o n cap] 74)) (.int .i64 0) (.int .i64 0) (.slice none 0 0) 37
    rw [World.size_alloc] at h
    rw [hW2]; exact h
  have HW2 : Hid ((w.alloc (.cells #[.int .i64 Wd, .int .i64 Hd, .slice o n cap] 74)).alloc (.cells #[.int .i64 0, .int .i64 0, .slice none 0 0] 37) = W2) := hW2.symm
  have HB2 := Lib.hid hb2
  have HT2 := Lib.hid ht2
  have hS : Hid (∀ W, Below W2.heap.size W2 W → Below W2.heap.size W2 W ∧ W.cell? ⟨w.heap.size, 0, none⟩ = some (.int .i64 Wd) ∧ W.cell? ⟨w.heap.size, 1, none⟩ = some (.int .i64 Hd) ∧ W.cell? ⟨w.heap.size, 2, none⟩ = some (.slice o n cap)) := fun W hb =>
    ⟨hb, (ht1.below hb (by omega)).at' 0 (by omega), (ht1.below hb (by omega)).at' 1 (by omega), (ht1.below hb (by omega)).at' 2 (by omega)⟩
  have HZ2 := Lib.hid hz2
  have c0 : W2.cell? ⟨w.heap.size, 0, none⟩ = some (.int .i64 Wd) := ht1.at' 0 (by omega)
  have c1 : W2.cell? ⟨w.heap.size, 1, none⟩ = some (.int .i64 Hd) := ht1.at' 1 (by omega)
  have c2 : W2.cell? ⟨w.heap.size, 2, none⟩ = some (.slice o n cap) := ht1.at' 2 (by omega)
  clear hW2 hb2 hz2 ht1 ht2
  go_enter Try.func28, Try.ntmps28
  go_upto_region 1 with fail
  rw [HW2.out]
  clear HW2
  go_region_law (first | (go_simp; go_at_call 49; refine (HCL.out _ (HB2.out.trans (by first | exact (Below.refl _ W2).drew.mono HB2.out.size | exact (Below.refl _ W2).mono HB2.out.size))).mono ?_; rintro e w3 ⟨o3, k3, rfl, hown3, hb3⟩; have hz3 : Below W2.heap.size W2 w3 := bthen (w1 := W2.drew) (Below.refl _ W2).drew hb3; obtain ⟨c0b, c1b, c2b⟩ := (hS.out w3 hz3).2; have ht3 := HT2.out.below hz3 (by rw [HZ2.out]; omega); have r0 : w3.cell? ⟨w.heap.size + 1, 0, none⟩ = some (.int .i64 0) := ht3.at' 0 (by omega); have r1 : w3.cell? ⟨w.heap.size + 1, 1, none⟩ = some (.int .i64 0) := ht3.at' 1 (by omega); have r2 : w3.cell? ⟨w.heap.size + 1, 2, none⟩ = some (.slice none 0 0) := ht3.at' 2 (by omega); have rf := ht3.fz; have HT3 := Lib.hid ht3; have HZ3 := Lib.hid hz3; have HOWN3 := Lib.hid hown3; clear ht3 hz3 hown3 hb3))
  all_goals
    have hrs := res_set (x := .int .i64 Wd) (y := .int .i64 Hd) (z := .slice o3 n k3) HT3.out
    have HF : Hid (RetGrid m w (.returned (.agg #[.int .i64 Wd, .int .i64 Hd, .slice o3 n k3])) (resW w3 (w.heap.size + 1) (.int .i64 Wd) (.int .i64 Hd) (.slice o3 n k3))) := by
      refine HRG.out _ _ ⟨o3, k3, rfl, ?_, hrs.bel (bthen HB2.out HZ3.out) (by omega)⟩
      have h1 : OwnPx w3 W2.heap.size (.slice o3 n k3) xs := HOWN3.out
      have h2 : OwnPx (resW w3 (w.heap.size + 1) (.int .i64 Wd) (.int .i64 Hd) (.slice o3 n k3)) W2.heap.size (.slice o3 n k3) xs := h1.heap fun k e => hrs.hp k (by have h3 := (h1.blk e).1; rw [HZ2.out] at h3; omega)
      exact h2.rebase (by rw [HZ2.out]; omega)
    have HRS := Lib.hid hrs
    clear hrs r0 r1 r2 rf c0 c1 c2 c0b c1b c2b
    obtain ⟨W9, hW9⟩ : ∃ W9, W9 = resW w3 (w.heap.size + 1) (.int .i64 Wd) (.int .i64 Hd) (.slice o3 n k3) := ⟨_, rfl⟩
    rw [← hW9] at HF HRS
    unfold resW at hW9
    rw [← hW9]
    have e0 := HRS.out.c0
    have e1 := HRS.out.c1
    have e2 := HRS.out.c2
    clear hW9
    repeat (first | go_values | go_skip | go_guarded | go_step | go_upon)
    refine bodyPost_ret (v := .agg #[.int .i64 Wd, .int .i64 Hd, .slice o3 n k3]) (by simp only [results, plateRes]; go_simp) rfl ?_
    exact HF.out
end Go.Proofs.Ytdblibjmgamjeaa
namespace Go.Proofs.Ytdblibjmgamjeaa
open Go.RowKit
set_option linter.unusedVariables false
theorem partRes : Try.f30.results = #[.cell 12 37] := rfl
theorem OwnPx.at {w : World} {base : Nat} {o : Option Addr} {n cap : Nat} {xs : List Int} (h : OwnPx w base (.slice o n cap) xs) : PxAt w o n cap xs := Own.isSlice h (fun _ => rfl)
set_option maxRecDepth 100000 in
set_option maxHeartbeats 8000000 in
theorem part_any (m : Img) (hm : Sized m) (o : Option Addr) (cap : Nat) (a b W' H' : Nat) (h1 : 1 ≤ W') (h2 : 1 ≤ H') (h3 : a + W' ≤ m.W) (h4 : b + H' ≤ m.H) (k : Int) (hk : 0 ≤ k ∧ k < 4) (w : World) (hx : PxAt w o (listI m).length cap (listI m)) :
    Calls Try.prog 30 #[.agg #[.int .i64 m.W, .int .i64 m.H, .slice o (listI m).length cap], .int .i64 a, .int .i64 b, .int .i64 W', .int .i64 H', .int .i64 k] w (RetGrid (turnI (cropI m a b W' H') k) w) := by
  have hs' : Sized (cropI m a b W' H') := by
    obtain ⟨s1, s2, s3, s4⟩ := hm
    exact ⟨h1, by show W' ≤ _; omega, h2, by show H' ≤ _; omega⟩
  have ht' := turn_sized hs' k
  obtain ⟨W1, hW1⟩ : ∃ W1, W1 = (w.alloc (.cells #[.int .i64 m.W, .int .i64 m.H, .slice o (listI m).length cap] 37)).alloc (.cells #[.int .i64 0, .int .i64 0, .slice none 0 0] 37) := ⟨_, rfl⟩
  have hb1 : Below w.heap.size w W1 := by rw [hW1]; exact balloc (balloc (Below.refl _ w) _) _
  have hz1 : W1.heap.size = w.heap.size + 1 + 1 := by rw [hW1]; simp
  have hg1 : BoxG W1 w.heap.size m o cap := by rw [hW1]; exact (boxG_new m o cap w _ hx).below (balloc (Below.refl _ _) _)
  have ht2 : FTab (fun v : Value => v) W1 (w.heap.size + 1) 3 (outF (.int .i64 0) (.int .i64 0) (.slice none 0 0)) := by
    have h := outF_new (w.alloc (.cells #[.int .i64 m.W, .int .i64 m.H, .slice o (listI m).length cap] 37)) (.int .i64 0) (.int .i64 0) (.slice none 0 0) 37
    rw [World.size_alloc] at h
    rw [hW1]; exact h
  have HOF : Hid (Calls Try.prog 26 #[.agg #[.int .i64 m.W, .int .i64 m.H, .slice o (listI m).length cap]] W1 (RetGrid m W1)) := of_any m hm o cap W1 hg1.px
  have HCR : Hid (∀ W o k, PxAt W o (listI m).length k (listI m) → Calls Try.prog 53 #[.agg #[.int .i64 m.W, .int .i64 m.H, .slice o (listI m).length k], .int .i64 a, .int .i64 b, .int .i64 W', .int .i64 H'] W (RetGrid0 (cropI m a b W' H') W)) := fun W o k h => crop_any m hm o k a b W' H' h1 h2 h3 h4 W h
  obtain ⟨C, hC⟩ : ∃ C, C = cropI m a b W' H' := ⟨_, rfl⟩
  have hCW : C.W = W' ∧ C.H = H' := by rw [hC]; exact ⟨rfl, rfl⟩
  rw [← hC] at HCR hs' ht' ⊢
  have HTU : Hid (∀ W o c, PxAt W o (listI C).length c (listI C) → Calls Try.prog 27 #[.agg #[.int .i64 C.W, .int .i64 C.H, .slice o (listI C).length c], .int .i64 k] W (RetGrid0 (turnI C k) W)) := fun W o c h => turn_any C hs' o c k hk W h
  obtain ⟨T, hT⟩ : ∃ T, T = turnI C k := ⟨_, rfl⟩
  rw [← hT] at HTU ht' ⊢
  have HPL : Hid (∀ W o c, PxAt W o (listI T).length c (listI T) → Calls Try.prog 28 #[.agg #[.int .i64 T.W, .int .i64 T.H, .slice o (listI T).length c]] W (RetGrid T W)) := fun W o c h => plate_any T ht' o c W h
  have c0 := hg1.c0
  have c1 := hg1.c1
  have c2 := hg1.c2
  have HW1 : Hid ((w.alloc (.cells #[.int .i64 m.W, .int .i64 m.H, .slice o (listI m).length cap] 37)).alloc (.cells #[.int .i64 0, .int .i64 0, .slice none 0 0] 37) = W1) := hW1.symm
  have HB1 := Lib.hid hb1
  have HZ1 := Lib.hid hz1
  have HT2 := Lib.hid ht2
  clear hW1 hb1 hz1 ht2 hx hg1 hm hs' ht' hC hCW hT h1 h2 h3 h4 hk
  obtain ⟨n, hn⟩ : ∃ n, n = (listI m).length := ⟨_, rfl⟩
  obtain ⟨nC, hnC⟩ : ∃ n, n = (listI C).length := ⟨_, rfl⟩
  obtain ⟨nT, hnT⟩ : ∃ n, n = (listI T).length := ⟨_, rfl⟩
  rw [← hn] at HW1 c2 HOF HCR ⊢
  rw [← hnC] at HTU
  rw [← hnT] at HPL
  have HNN : Hid (n = (listI m).length ∧ nC = (listI C).length ∧ nT = (listI T).length) := ⟨hn, hnC, hnT⟩
  clear hn hnC hnT
  go_enter Try.func30, Try.ntmps30
  go_upto_region 1 with fail
  rw [HW1.out]
  clear HW1
  go_wp2_with fail
  refine HOF.out.mono ?_
  intro e w2 hret
  obtain ⟨o2, k2, he, hown2, hb2⟩ := hret
  rw [← HNN.out.1] at he hown2
  subst he
  have HCR2 := Lib.hid (HCR.out w2 o2 k2 (by have h := hown2.at; exact h))
  have HB2 := Lib.hid hb2
  clear hown2 hb2 HCR HOF c0 c1 c2
  dsimp only
  go_wp2_with fail
  refine HCR2.out.mono ?_
  intro e w3 hret
  obtain ⟨o3, k3, he, hown3, hb3⟩ := hret
  rw [← HNN.out.2.1] at he hown3
  subst he
  have hg4 := outF_new w3 (.int .i64 C.W) (.int .i64 C.H) (.slice o3 nC k3) 74
  obtain ⟨w4, hw4⟩ : ∃ w4, w4 = w3.alloc (.cells #[.int .i64 C.W, .int .i64 C.H, .slice o3 nC k3] 74) := ⟨_, rfl⟩
  rw [← hw4] at hg4
  have hb4 : Below w3.heap.size w3 w4 := by rw [hw4]; exact balloc (Below.refl _ w3) _
  have hz4 : w4.heap.size = w3.heap.size + 1 := by rw [hw4]; simp
  have HTU4 := Lib.hid (HTU.out w4 o3 k3 (OwnPx.at (Own.below hown3 hb4)))
  have HW4 := Lib.hid hw4
  have HB4 := Lib.hid (bthen HB2.out (bthen hb3 hb4))
  have HG4 := Lib.hid hg4
  have HZ4 : Hid (w3.heap.size < w4.heap.size ∧ w2.heap.size ≤ w3.heap.size) := ⟨by omega, hb3.size⟩
  clear hown3 hb3 HCR2 HTU hg4 hw4 hb4 hz4
  dsimp only
  go_upto_region 2 with fail
  rw [← HW4.out]
  clear HW4
  have c0 : w4.cell? ⟨w3.heap.size, 0, none⟩ = some (.int .i64 C.W) := HG4.out.at' 0 (by omega)
  have c1 : w4.cell? ⟨w3.heap.size, 1, none⟩ = some (.int .i64 C.H) := HG4.out.at' 1 (by omega)
  have c2 : w4.cell? ⟨w3.heap.size, 2, none⟩ = some (.slice o3 nC k3) := HG4.out.at' 2 (by omega)
  go_wp2_with fail
  refine HTU4.out.mono ?_
  intro e w5 hret
  obtain ⟨o5, k5, he, hown5, hb5⟩ := hret
  rw [← HNN.out.2.2] at he hown5
  subst he
  have ht5 := HG4.out.below hb5 HZ4.out.1
  have hrs := res_set (x := .int .i64 T.W) (y := .int .i64 T.H) (z := .slice o5 nT k5) ht5
  obtain ⟨w6, hw6⟩ : ∃ w6, w6 = resW w5 w3.heap.size (.int .i64 T.W) (.int .i64 T.H) (.slice o5 nT k5) := ⟨_, rfl⟩
  rw [← hw6] at hrs
  have hown6 : OwnPx w6 w4.heap.size (.slice o5 nT k5) (listI T) := hown5.heap fun g e => hrs.hp g (by have h3 := (hown5.blk e).1; have := HZ4.out.1; omega)
  have HPL6 := Lib.hid (HPL.out w6 o5 k5 hown6.at)
  have HB6 : Hid (Below W1.heap.size W1 w6) := hrs.bel (bthen HB4.out hb5) (by have := HZ4.out.2; have := HB2.out.size; omega)
  have HRS := Lib.hid hrs
  have HW6 : Hid (((w5.setCell ⟨w3.heap.size, 0, none⟩ (.int .i64 T.W)).setCell ⟨w3.heap.size, 1, none⟩ (.int .i64 T.H)).setCell ⟨w3.heap.size, 2, none⟩ (.slice o5 nT k5) = w6) := hw6.symm
  have r0 : w5.cell? ⟨w3.heap.size, 0, none⟩ = some (.int .i64 C.W) := ht5.at' 0 (by omega)
  have r1 : w5.cell? ⟨w3.heap.size, 1, none⟩ = some (.int .i64 C.H) := ht5.at' 1 (by omega)
  have r2 : w5.cell? ⟨w3.heap.size, 2, none⟩ = some (.slice o3 nC k3) := ht5.at' 2 (by omega)
  have rf := ht5.fz
  clear ht5 hrs hw6 hown5 hown6 HPL HTU4 c0 c1 c2 hb5
  dsimp only
  go_upto_region 3 with fail
  rw [HW6.out]
  clear HW6 r0 r1 r2 rf
  have c0 := HRS.out.c0
  have c1 := HRS.out.c1
  have c2 := HRS.out.c2
  go_wp2_with fail
  refine HPL6.out.mono ?_
  intro e w7 hret
  obtain ⟨o7, k7, he, hown7, hb7⟩ := hret
  rw [← HNN.out.2.2] at he hown7
  subst he
  have ht7 := HT2.out.below (bthen HB6.out hb7) (by rw [HZ1.out]; omega)
  have hrs := res_set (x := .int .i64 T.W) (y := .int .i64 T.H) (z := .slice o7 nT k7) ht7
  have HF : Hid (RetGrid T w (.returned (.agg #[.int .i64 T.W, .int .i64 T.H, .slice o7 nT k7])) (resW w7 (w.heap.size + 1) (.int .i64 T.W) (.int .i64 T.H) (.slice o7 nT k7))) := by
    have hz := HZ1.out
    have hs6 := HB6.out.size
    have h2 : OwnPx (resW w7 (w.heap.size + 1) (.int .i64 T.W) (.int .i64 T.H) (.slice o7 nT k7)) w6.heap.size (.slice o7 nT k7) (listI T) := hown7.heap fun g e => hrs.hp g (by have h3 := (hown7.blk e).1; omega)
    refine ⟨o7, k7, by rw [← HNN.out.2.2], ?_, hrs.bel (bthen (bthen HB1.out HB6.out) hb7) (by omega)⟩
    rw [← HNN.out.2.2]
    exact h2.rebase (Nat.le_trans HB1.out.size hs6)
  have r0 : w7.cell? ⟨w.heap.size + 1, 0, none⟩ = some (.int .i64 0) := ht7.at' 0 (by omega)
  have r1 : w7.cell? ⟨w.heap.size + 1, 1, none⟩ = some (.int .i64 0) := ht7.at' 1 (by omega)
  have r2 : w7.cell? ⟨w.heap.size + 1, 2, none⟩ = some (.slice none 0 0) := ht7.at' 2 (by omega)
  have rf := ht7.fz
  have HRS7 := Lib.hid hrs
  clear hrs ht7 hown7 hb7 c0 c1 c2
  dsimp only
  repeat (first | go_values | go_skip | go_guarded | go_step | go_upon)
  obtain ⟨W9, hW9⟩ : ∃ W9, W9 = resW w7 (w.heap.size + 1) (.int .i64 T.W) (.int .i64 T.H) (.slice o7 nT k7) := ⟨_, rfl⟩
  rw [← hW9] at HF HRS7
  unfold resW at hW9
  rw [← hW9]
  have e0 := HRS7.out.c0
  have e1 := HRS7.out.c1
  have e2 := HRS7.out.c2
  clear hW9
  refine bodyPost_ret (v := .agg #[.int .i64 T.W, .int .i64 T.H, .slice o7 nT k7]) (by simp only [results, partRes]; go_simp) rfl ?_
  exact HF.out
end Go.Proofs.Ytdblibjmgamjeaa
