/-
  A walk of raster's Crop. Printed by gen_turn.py. Own text.
-/
import Derived.Test.YtdblibjmgamjeaaTurn3
import Derived.Deep.Cut
import Derived.Deep.CutRange
namespace Go.Proofs.Ytdblibjmgamjeaa
open Go.RowKit
set_option linter.unusedVariables false
set_option maxRecDepth 100000 in
set_option maxHeartbeats 8000000 in
theorem crop_any (m : Img) (hm : Sized m) (o : Option Addr) (cap : Nat) (a b W' H' : Nat) (h1 : 1 ≤ W') (h2 : 1 ≤ H') (h3 : a + W' ≤ m.W) (h4 : b + H' ≤ m.H) (w : World) (hx : PxAt w o (listI m).length cap (listI m)) :
    Calls Try.prog 53 #[.agg #[.int .i64 m.W, .int .i64 m.H, .slice o (listI m).length cap], .int .i64 a, .int .i64 b, .int .i64 W', .int .i64 H'] w (RetGrid0 (cropI m a b W' H') w) := by
  have hs' : Sized (cropI m a b W' H') := by
    obtain ⟨s1, s2, s3, s4⟩ := hm
    exact ⟨h1, by show W' ≤ _; omega, h2, by show H' ≤ _; omega⟩
  obtain ⟨W1, hW1⟩ : ∃ W1, W1 = (((w.alloc (.cells #[.int .i64 m.W, .int .i64 m.H, .slice o (listI m).length cap] 74)).alloc (.cells #[.int .i64 a] 3)).alloc (.cells #[.int .i64 b] 3)).alloc (.cells #[.int .i64 0, .int .i64 0, .slice none 0 0] 74) := ⟨_, rfl⟩
  have hb1 : Below w.heap.size w W1 := by rw [hW1]; exact balloc (balloc (balloc (balloc (Below.refl _ w) _) _) _) _
  have hz1 : W1.heap.size = w.heap.size + 1 + 1 + 1 + 1 := by rw [hW1]; simp
  have hg1 : BoxG W1 w.heap.size m o cap := by rw [hW1]; exact (boxG_new m o cap w _ hx).below (balloc (balloc (balloc (Below.refl _ _) _) _) _)
  have g6 : W1.cell? ⟨w.heap.size + 1, 0, none⟩ = some (.int .i64 a) := by
    have h := new1 (w.alloc (.cells #[.int .i64 m.W, .int .i64 m.H, .slice o (listI m).length cap] 74)) (.int .i64 a) 3
    rw [World.size_alloc] at h
    rw [hW1]; exact keepCell (balloc (balloc (Below.refl _ _) _) _) h
  have g7 : W1.cell? ⟨w.heap.size + 1 + 1, 0, none⟩ = some (.int .i64 b) := by
    have h := new1 ((w.alloc (.cells #[.int .i64 m.W, .int .i64 m.H, .slice o (listI m).length cap] 74)).alloc (.cells #[.int .i64 a] 3)) (.int .i64 b) 3
    rw [World.size_alloc, World.size_alloc] at h
    rw [hW1]; exact keepCell (balloc (Below.refl _ _) _) h
  have ht2 : FTab (fun v : Value => v) W1 (w.heap.size + 1 + 1 + 1) 3 (outF (.int .i64 0) (.int .i64 0) (.slice none 0 0)) := by
    have h := outF_new (((w.alloc (.cells #[.int .i64 m.W, .int .i64 m.H, .slice o (listI m).length cap] 74)).alloc (.cells #[.int .i64 a] 3)).alloc (.cells #[.int .i64 b] 3)) (.int .i64 0) (.int .i64 0) (.slice none 0 0) 74
    rw [World.size_alloc, World.size_alloc, World.size_alloc] at h
    rw [hW1]; exact h
  have HCK : Hid (Calls Try.prog 48 #[.agg #[.int .i64 m.W, .int .i64 m.H, .slice o (listI m).length cap]] W1 fun e w' => e = .returned (.int .i64 0) ∧ Below W1.heap.size W1 w') := gcheck_any m hm o cap W1
  have HBF : Hid (∀ (wx : World), Below W1.heap.size W1 wx → Calls Try.prog 45 #[.int .i64 W', .int .i64 H', .func (.func 61) #[] #[.pointer (some ⟨w.heap.size, 0, none⟩), .pointer (some ⟨w.heap.size + 1 + 1, 0, none⟩), .pointer (some ⟨w.heap.size + 1, 0, none⟩)]] wx (RetGrid (cropI m a b W' H') wx)) := fun wx hbx' =>
    buildC_any (cropI m a b W' H') hs' w.heap.size (w.heap.size + 1 + 1) (w.heap.size + 1) wx fun W x y hx hy hb =>
      cropAt_any m hm o cap w.heap.size (w.heap.size + 1 + 1) (w.heap.size + 1) a b x y W (hg1.below (hbx'.trans (hb.mono hbx'.size))) (keepCell (hbx'.trans (hb.mono hbx'.size)) g7) (keepCell (hbx'.trans (hb.mono hbx'.size)) g6) (by have hx' : x < W' := hx; omega) (by have hy' : y < H' := hy; omega)
  have c0 := hg1.c0
  have c1 := hg1.c1
  have c2 := hg1.c2
  have HW1 : Hid ((((w.alloc (.cells #[.int .i64 m.W, .int .i64 m.H, .slice o (listI m).length cap] 74)).alloc (.cells #[.int .i64 a] 3)).alloc (.cells #[.int .i64 b] 3)).alloc (.cells #[.int .i64 0, .int .i64 0, .slice none 0 0] 74) = W1) := hW1.symm
  have HB1 := Lib.hid hb1
  have HZ1 := Lib.hid hz1
  have HT2 := Lib.hid ht2
  have s1 := hm.2.1
  have s2 := hm.2.2.2
  clear hW1 hb1 hz1 ht2 hx hg1 hm hs'
  obtain ⟨n, hn⟩ : ∃ n, n = (listI m).length := ⟨_, rfl⟩
  obtain ⟨Wd, hWd⟩ : ∃ W, W = m.W := ⟨_, rfl⟩
  obtain ⟨Hd, hHd⟩ : ∃ H, H = m.H := ⟨_, rfl⟩
  rw [← hn] at HW1 c2 HCK ⊢
  rw [← hWd] at HW1 c0 HCK s1 h3 ⊢
  rw [← hHd] at HW1 c1 HCK s2 h4 ⊢
  have HM : Hid (Wd = m.W ∧ Hd = m.H) := ⟨hWd, hHd⟩
  have x1 : IntKind.i64.wrap ((Wd : Int) - (W' : Int)) = (Wd : Int) - (W' : Int) := IntWalk.i64_in _ (by omega)
  have x2 : IntKind.i64.wrap ((Hd : Int) - (H' : Int)) = (Hd : Int) - (H' : Int) := IntWalk.i64_in _ (by omega)
  have y1 : (1 : Int) ≤ (W' : Int) := by omega
  have y2 : (1 : Int) ≤ (H' : Int) := by omega
  have y3 : (0 : Int) ≤ (a : Int) := by omega
  have y4 : (0 : Int) ≤ (b : Int) := by omega
  have y5 : (W' : Int) ≤ (Wd : Int) := by omega
  have y6 : (H' : Int) ≤ (Hd : Int) := by omega
  have y7 : (a : Int) ≤ (Wd : Int) - (W' : Int) := by omega
  have y8 : (b : Int) ≤ (Hd : Int) - (H' : Int) := by omega
  clear hn hWd hHd
  go_enter Try.func53, Try.ntmps53
  go_upto_region 1 with fail
  rw [HW1.out]
  clear HW1
  go_wp2_with fail
  refine HCK.out.mono ?_
  rintro e w2 ⟨rfl, hb2⟩
  have d0 := keepCell hb2 c0
  have d1 := keepCell hb2 c1
  have d2 := keepCell hb2 c2
  have f6 := keepCell hb2 g6
  have f7 := keepCell hb2 g7
  have HBX := Lib.hid hb2
  have HBU := Lib.hid (HBF.out w2 hb2)
  have HLT : Hid (w.heap.size + 1 + 1 + 1 < W1.heap.size) := Lib.hid (by have := HZ1.out; omega)
  obtain ⟨wx, rfl⟩ : ∃ wx, wx = w2 := ⟨_, rfl⟩
  clear hb2 HCK c0 c1 c2 g6 g7 HBF h1 h2 h3 h4
  go_wp2_with fail
  refine HBU.out.mono ?_
  intro e w3 hret
  obtain ⟨o3, k3, he, hown3, hb3⟩ := hret
  have he' : e = .returned (.agg #[.int .i64 W', .int .i64 H', .slice o3 (listI (cropI m a b W' H')).length k3]) := by first | exact he | (rw [HM.out.1, HM.out.2]; exact he)
  subst he'
  clear he
  obtain ⟨N, hN⟩ : ∃ n, n = (listI (cropI m a b W' H')).length := ⟨_, rfl⟩
  rw [← hN] at hown3 ⊢
  have ht3 := HT2.out.below (bthen HBX.out hb3) HLT.out
  have hrs := res_set (x := .int .i64 W') (y := .int .i64 H') (z := .slice o3 N k3) ht3
  have HF : Hid (RetGrid0 (cropI m a b W' H') w (.returned (.tuple #[.agg #[.int .i64 W', .int .i64 H', .slice o3 N k3], .int .i64 0])) (resW w3 (w.heap.size + 1 + 1 + 1) (.int .i64 W') (.int .i64 H') (.slice o3 N k3))) := by
    have h2 : OwnPx (resW w3 (w.heap.size + 1 + 1 + 1) (.int .i64 W') (.int .i64 H') (.slice o3 N k3)) wx.heap.size (.slice o3 N k3) (listI (cropI m a b W' H')) := hown3.heap fun k e => hrs.hp k (by have h3 := (hown3.blk e).1; have h4 := HLT.out; have h5 := HBX.out.size; omega)
    exact ⟨o3, k3, by first | (rw [← hN]; rfl) | (rw [← hN, HM.out.1, HM.out.2]; rfl), by rw [← hN]; exact h2.rebase (Nat.le_trans HB1.out.size HBX.out.size), hrs.bel (bthen (bthen HB1.out HBX.out) hb3) (by omega)⟩
  have r0 : w3.cell? ⟨w.heap.size + 1 + 1 + 1, 0, none⟩ = some (.int .i64 0) := ht3.at' 0 (by omega)
  have r1 : w3.cell? ⟨w.heap.size + 1 + 1 + 1, 1, none⟩ = some (.int .i64 0) := ht3.at' 1 (by omega)
  have r2 : w3.cell? ⟨w.heap.size + 1 + 1 + 1, 2, none⟩ = some (.slice none 0 0) := ht3.at' 2 (by omega)
  have rf := ht3.fz
  have HRS := Lib.hid hrs
  clear hrs ht3 hown3 hb3 hN
  dsimp only
  repeat (first | go_values | go_skip | go_guarded | go_step | go_upon)
  obtain ⟨W9, hW9⟩ : ∃ W9, W9 = resW w3 (w.heap.size + 1 + 1 + 1) (.int .i64 W') (.int .i64 H') (.slice o3 N k3) := ⟨_, rfl⟩
  rw [← hW9] at HF HRS
  unfold resW at hW9
  rw [← hW9]
  have e0 := HRS.out.c0
  have e1 := HRS.out.c1
  have e2 := HRS.out.c2
  clear hW9
  refine bodyPost_ret (v := .tuple #[.agg #[.int .i64 W', .int .i64 H', .slice o3 N k3], .int .i64 0]) (by simp only [results, cropRes]; go_simp) rfl ?_
  exact HF.out
end Go.Proofs.Ytdblibjmgamjeaa
