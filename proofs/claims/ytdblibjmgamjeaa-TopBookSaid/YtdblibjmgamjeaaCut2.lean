/-
  The walk of bindery.Cut at style 0. Printed by gen_cut.py. The walk of bindery.Cut at style 1. Printed by gen_cut.py. The walk of bindery.Cut at style 2. Printed by gen_cut.py. Own text.
-/
import Derived.Test.YtdblibjmgamjeaaPlR
import Derived.Deep.DrawnRows
namespace Go.Proofs.Ytdblibjmgamjeaa
open Go.RowKit
set_option linter.unusedVariables false
set_option maxRecDepth 100000 in
set_option maxHeartbeats 16000000 in
theorem cut0_any (m p : Img) (hm : Sized m) (hW : p.W = m.W) (hH : p.H = m.H) (om op : Option Addr) (km kp : Nat) (w : World) (hpm : PxAt w om (listI m).length km (listI m)) (hpp : PxAt w op (listI p).length kp (listI p)) :
    Calls Try.prog 11 #[.agg #[.int .i64 m.W, .int .i64 m.H, .slice om (listI m).length km], .agg #[.int .i64 p.W, .int .i64 p.H, .slice op (listI p).length kp], .int .i64 0] w (RetCut [((cropI m 0 0 m.W m.H), (cropI p 0 0 m.W m.H))] w) := by
  have hp : Sized p := by
    obtain ⟨a, b, c, d⟩ := hm
    exact ⟨by omega, by omega, by omega, by omega⟩
  obtain ⟨W1, hW1⟩ : ∃ W1, W1 = (w.alloc (.cells #[.int .i64 m.W, .int .i64 m.H, .slice om (listI m).length km] 37)).alloc (.cells #[.int .i64 p.W, .int .i64 p.H, .slice op (listI p).length kp] 37) := ⟨_, rfl⟩
  have hb1 : Below w.heap.size w W1 := by rw [hW1]; exact balloc (balloc (Below.refl _ w) _) _
  have hg1 : BoxG W1 w.heap.size m om km := by rw [hW1]; exact (boxG_new m om km w _ hpm).below (balloc (Below.refl _ _) _)
  have hg2 : BoxG W1 (w.heap.size + 1) p op kp := by
    have h := boxG_new p op kp (w.alloc (.cells #[.int .i64 m.W, .int .i64 m.H, .slice om (listI m).length km] 37)) 37 (hpp.below (balloc (Below.refl _ w) _))
    rw [World.size_alloc] at h
    rw [hW1]; exact h
  have HSD : Hid (Calls Try.prog 29 #[.agg #[.int .i64 m.W, .int .i64 m.H, .slice om (listI m).length km], .agg #[.int .i64 p.W, .int .i64 p.H, .slice op (listI p).length kp]] W1 fun e w' => e = .returned (.int .i64 0) ∧ Below W1.heap.size W1 w') := sides_any m p hm hW hH om op km kp W1 hg1.px hg2.px
  have HA : Hid (∀ W, Below W1.heap.size W1 W → Calls Try.prog 30 #[.agg #[.int .i64 m.W, .int .i64 m.H, .slice om (listI m).length km], .int .i64 0, .int .i64 0, .int .i64 m.W, .int .i64 m.H, .int .i64 0] W (fun e w' => ∃ o c, e = .returned (.agg #[.int .i64 m.W, .int .i64 m.H, .slice o (listI (cropI m 0 0 m.W m.H)).length c]) ∧ PxAt w' o (listI (cropI m 0 0 m.W m.H)).length c (listI (cropI m 0 0 m.W m.H)) ∧ Below W.heap.size W w' ∧ ∀ g, (Value.slice o (listI (cropI m 0 0 m.W m.H)).length c).ownBlock = some g → W.heap.size ≤ g)) := fun W hb => (part_any m hm om km 0 0 m.W m.H (by first | exact hm.1 | omega) (by first | exact hm.2.2.1 | omega) (by first | omega | (have := hm.1; omega)) (by first | omega | (have := hm.1; omega)) 0 (by omega) W (hg1.px.below hb)).mono fun e w' ⟨o, c, he, ho, hb'⟩ => ⟨o, c, he, OwnPx.at ho, hb', fun g hg => (ho.blk hg).1⟩
  have HB : Hid (∀ W, Below W1.heap.size W1 W → Calls Try.prog 30 #[.agg #[.int .i64 p.W, .int .i64 p.H, .slice op (listI p).length kp], .int .i64 0, .int .i64 0, .int .i64 m.W, .int .i64 m.H, .int .i64 0] W (fun e w' => ∃ o c, e = .returned (.agg #[.int .i64 m.W, .int .i64 m.H, .slice o (listI (cropI p 0 0 m.W m.H)).length c]) ∧ PxAt w' o (listI (cropI p 0 0 m.W m.H)).length c (listI (cropI p 0 0 m.W m.H)) ∧ Below W.heap.size W w' ∧ ∀ g, (Value.slice o (listI (cropI p 0 0 m.W m.H)).length c).ownBlock = some g → W.heap.size ≤ g)) := fun W hb => (part_any p hp op kp 0 0 m.W m.H (by first | exact hm.1 | omega) (by first | exact hm.2.2.1 | omega) (by first | omega | (have := hm.1; omega)) (by first | omega | (have := hm.1; omega)) 0 (by omega) W (hg2.px.below hb)).mono fun e w' ⟨o, c, he, ho, hb'⟩ => ⟨o, c, he, OwnPx.at ho, hb', fun g hg => (ho.blk hg).1⟩
  obtain ⟨IA, hIA⟩ : ∃ I, I = (cropI m 0 0 m.W m.H) := ⟨_, rfl⟩
  have hzA : IA.W = m.W ∧ IA.H = m.H := by rw [hIA]; exact ⟨rfl, rfl⟩
  have HSSA : Hid (Sized IA) := by
    show Sized _
    obtain ⟨a, b, c, d⟩ := hm
    exact ⟨by rw [hzA.1]; omega, by rw [hzA.1]; omega, by rw [hzA.2]; omega, by rw [hzA.2]; omega⟩
  obtain ⟨IB, hIB⟩ : ∃ I, I = (cropI p 0 0 m.W m.H) := ⟨_, rfl⟩
  have hzB : IB.W = m.W ∧ IB.H = m.H := by rw [hIB]; exact ⟨rfl, rfl⟩
  have HSSB : Hid (Sized IB) := by
    show Sized _
    obtain ⟨a, b, c, d⟩ := hm
    exact ⟨by rw [hzB.1]; omega, by rw [hzB.1]; omega, by rw [hzB.2]; omega, by rw [hzB.2]; omega⟩
  rw [← hIA] at HA ⊢
  rw [← hIB] at HB ⊢
  have HIZ : Hid ((IA.W = m.W ∧ IA.H = m.H) ∧ (IB.W = m.W ∧ IB.H = m.H)) := ⟨hzA, hzB⟩
  have c0 := hg1.c0
  have c1 := hg1.c1
  have c2 := hg1.c2
  have d0 := hg2.c0
  have d1 := hg2.c1
  have d2 := hg2.c2
  have hmr := hm
  obtain ⟨hm1, hm2, hm3, hm4⟩ := hmr
  clear hg1 hg2 hpm hpp hm hp hIA hzA hIB hzB
  rw [hW] at d0 hW1 HSD ⊢
  rw [hH] at d1 hW1 HSD ⊢
  rw [hW, hH] at HB
  clear hW hH
  obtain ⟨nm, hnm⟩ : ∃ n, n = (listI m).length := ⟨_, rfl⟩
  obtain ⟨np, hnp⟩ : ∃ n, n = (listI p).length := ⟨_, rfl⟩
  rw [← hnm] at c2 hW1 HSD ⊢
  rw [← hnp] at d2 hW1 HSD ⊢
  rw [← hnm] at HA
  rw [← hnp] at HB
  clear hnm hnp
  obtain ⟨Wd, hWd⟩ : ∃ q, q = m.W := ⟨_, rfl⟩
  obtain ⟨Hd, hHd⟩ : ∃ q, q = m.H := ⟨_, rfl⟩
  rw [← hWd] at c0 d0 hW1 HSD hm1 hm2 ⊢
  rw [← hHd] at c1 d1 hW1 HSD hm3 hm4 ⊢
  rw [← hWd, ← hHd] at HA
  rw [← hWd, ← hHd] at HB
  rw [← hWd, ← hHd] at HIZ
  clear hWd hHd
  obtain ⟨nA, hnA⟩ : ∃ n, n = (listI IA).length := ⟨_, rfl⟩
  rw [← hnA] at HA
  obtain ⟨nB, hnB⟩ : ∃ n, n = (listI IB).length := ⟨_, rfl⟩
  rw [← hnB] at HB
  have HNN : Hid (nA = (listI IA).length ∧ nB = (listI IB).length) := ⟨hnA, hnB⟩
  clear hnA hnB
  have HW1 : Hid ((w.alloc (.cells #[.int .i64 Wd, .int .i64 Hd, .slice om nm km] 37)).alloc (.cells #[.int .i64 Wd, .int .i64 Hd, .slice op np kp] 37) = W1) := hW1.symm
  have HB1 := Lib.hid hb1
  have hS : Hid (∀ W, Below W1.heap.size W1 W → Below W1.heap.size W1 W ∧ W.cell? ⟨w.heap.size, 0, none⟩ = some (.int .i64 Wd) ∧ W.cell? ⟨w.heap.size, 1, none⟩ = some (.int .i64 Hd) ∧ W.cell? ⟨w.heap.size, 2, none⟩ = some (.slice om nm km) ∧ W.cell? ⟨w.heap.size + 1, 0, none⟩ = some (.int .i64 Wd) ∧ W.cell? ⟨w.heap.size + 1, 1, none⟩ = some (.int .i64 Hd) ∧ W.cell? ⟨w.heap.size + 1, 2, none⟩ = some (.slice op np kp)) := fun W hb => ⟨hb, keepCell hb c0, keepCell hb c1, keepCell hb c2, keepCell hb d0, keepCell hb d1, keepCell hb d2⟩
  clear hW1 hb1
  go_enter Try.func11, Try.ntmps11
  go_upto_region 1 with fail
  rw [HW1.out]
  clear HW1
  go_wp2_with fail
  refine HSD.out.mono ?_
  rintro e w2 ⟨rfl, hb2⟩
  have HB2 := Lib.hid hb2
  clear c0 c1 c2 d0 d1 d2 HSD hb2
  obtain ⟨-, c0, c1, c2, d0, d1, d2⟩ := hS.out w2 HB2.out
  go_upto_region 4 with fail
  go_quiet (fail)
  have HB3 := Lib.hid (bdrewN HB2.out nq)
  clear c0 c1 c2 d0 d1 d2
  generalize w2.drewN nq = w3 at *
  obtain ⟨-, c0, c1, c2, d0, d1, d2⟩ := hS.out w3 HB3.out
  go_upto_region 16 with fail
  clear c0 c1 c2 d0 d1 d2
  go_region_held3 (fun w' => Below W1.heap.size W1 w' ∧ w'.cell? ⟨w.heap.size, 0, none⟩ = some (.int .i64 Wd) ∧ w'.cell? ⟨w.heap.size, 1, none⟩ = some (.int .i64 Hd) ∧ w'.cell? ⟨w.heap.size, 2, none⟩ = some (.slice om nm km) ∧ w'.cell? ⟨w.heap.size + 1, 0, none⟩ = some (.int .i64 Wd) ∧ w'.cell? ⟨w.heap.size + 1, 1, none⟩ = some (.int .i64 Hd) ∧ w'.cell? ⟨w.heap.size + 1, 2, none⟩ = some (.slice op np kp))
    (first | (refine hS.out _ ?_; (first | assumption | exact HB3.out.drew | exact balloc (by assumption) _ | go_grown)))
    (first | fail | (go_simp; go_at_call 30; (with_reducible refine (HA.out _ (And.left (by assumption))).mono ?_); rintro e w4 ⟨oA, kA, rfl, hpA, hbA, hfA⟩; have hzA : Below W1.heap.size W1 w4 := bthen (And.left (by assumption)) hbA; have HPA := Lib.hid hpA; have HBA := Lib.hid hbA; have HQA : Hid (∀ g, (Value.slice oA nA kA).ownBlock = some g → W1.heap.size ≤ g) := fun g hg => Nat.le_trans (Below.size (And.left (by assumption))) (hfA g hg); clear hpA hbA hfA) | (go_simp; go_at_call 30; (with_reducible refine (HB.out _ (And.left (by assumption))).mono ?_); rintro e w5 ⟨oB, kB, rfl, hpB, hbB, hfB⟩; have hzB : Below W1.heap.size W1 w5 := bthen (And.left (by assumption)) hbB; have HPB := Lib.hid hpB; have HBB := Lib.hid hbB; have HQB : Hid (∀ g, (Value.slice oB nB kB).ownBlock = some g → W1.heap.size ≤ g) := fun g hg => Nat.le_trans (Below.size (And.left (by assumption))) (hfB g hg); clear hpB hbB hfB))
  have HF : Hid (RetCut [(IA, IB)] w (.returned (.tuple #[.slice (some ⟨w5.heap.size, 0, none⟩) 1 1, .int .i64 0])) (w5.alloc (.cells #[.int .i64 Wd, .int .i64 Hd, .slice oA nA kA, .int .i64 Wd, .int .i64 Hd, .slice oB nB kB] 45))) := by
    have h := bsAt_new1 W1.heap.size w5 IA IB oA oB kA kB (by rw [← HNN.out.1]; exact ((HPA.out.below HBB.out))) (by rw [← HNN.out.2]; exact (HPB.out)) HSSA.out HSSB.out hzB.size (by rw [← HNN.out.1]; exact HQA.out) (by rw [← HNN.out.2]; exact HQB.out)
    obtain ⟨us, h, hf⟩ := h
    rw [HIZ.out.1.1, HIZ.out.1.2, ← HNN.out.1, HIZ.out.2.1, HIZ.out.2.2, ← HNN.out.2] at h
    exact ⟨us, _, _, rfl, h, Nat.le_refl _, HB1.out.trans ((balloc hzB _).mono HB1.out.size), fun a e => Nat.le_trans HB1.out.size (hf.1 a e), fun u hu g hg => Nat.le_trans HB1.out.size (hf.2 u hu g hg)⟩
  clear hS hzA hzB
  go_wp2_with fail
  go_ret2
  exact HF.out
end Go.Proofs.Ytdblibjmgamjeaa
namespace Go.Proofs.Ytdblibjmgamjeaa
open Go.RowKit
set_option linter.unusedVariables false
set_option maxRecDepth 100000 in
set_option maxHeartbeats 16000000 in
theorem cut1_any (m p : Img) (hm : Sized m) (hW : p.W = m.W) (hH : p.H = m.H) (V : Nat) (hV1 : 1 ≤ V) (hV : m.W = 2 * V) (om op : Option Addr) (km kp : Nat) (w : World) (hpm : PxAt w om (listI m).length km (listI m)) (hpp : PxAt w op (listI p).length kp (listI p)) :
    Calls Try.prog 11 #[.agg #[.int .i64 m.W, .int .i64 m.H, .slice om (listI m).length km], .agg #[.int .i64 p.W, .int .i64 p.H, .slice op (listI p).length kp], .int .i64 1] w (RetCut [((cropI m 0 0 V m.H), (cropI p V 0 V m.H)), ((cropI p 0 0 V m.H), (cropI m V 0 V m.H))] w) := by
  have hp : Sized p := by
    obtain ⟨a, b, c, d⟩ := hm
    exact ⟨by omega, by omega, by omega, by omega⟩
  obtain ⟨W1, hW1⟩ : ∃ W1, W1 = (w.alloc (.cells #[.int .i64 m.W, .int .i64 m.H, .slice om (listI m).length km] 37)).alloc (.cells #[.int .i64 p.W, .int .i64 p.H, .slice op (listI p).length kp] 37) := ⟨_, rfl⟩
  have hb1 : Below w.heap.size w W1 := by rw [hW1]; exact balloc (balloc (Below.refl _ w) _) _
  have hg1 : BoxG W1 w.heap.size m om km := by rw [hW1]; exact (boxG_new m om km w _ hpm).below (balloc (Below.refl _ _) _)
  have hg2 : BoxG W1 (w.heap.size + 1) p op kp := by
    have h := boxG_new p op kp (w.alloc (.cells #[.int .i64 m.W, .int .i64 m.H, .slice om (listI m).length km] 37)) 37 (hpp.below (balloc (Below.refl _ w) _))
    rw [World.size_alloc] at h
    rw [hW1]; exact h
  have HSD : Hid (Calls Try.prog 29 #[.agg #[.int .i64 m.W, .int .i64 m.H, .slice om (listI m).length km], .agg #[.int .i64 p.W, .int .i64 p.H, .slice op (listI p).length kp]] W1 fun e w' => e = .returned (.int .i64 0) ∧ Below W1.heap.size W1 w') := sides_any m p hm hW hH om op km kp W1 hg1.px hg2.px
  have HA : Hid (∀ W, Below W1.heap.size W1 W → Calls Try.prog 30 #[.agg #[.int .i64 m.W, .int .i64 m.H, .slice om (listI m).length km], .int .i64 0, .int .i64 0, .int .i64 V, .int .i64 m.H, .int .i64 0] W (fun e w' => ∃ o c, e = .returned (.agg #[.int .i64 V, .int .i64 m.H, .slice o (listI (cropI m 0 0 V m.H)).length c]) ∧ PxAt w' o (listI (cropI m 0 0 V m.H)).length c (listI (cropI m 0 0 V m.H)) ∧ Below W.heap.size W w' ∧ ∀ g, (Value.slice o (listI (cropI m 0 0 V m.H)).length c).ownBlock = some g → W.heap.size ≤ g)) := fun W hb => (part_any m hm om km 0 0 V m.H (by first | exact hm.1 | omega) (by first | exact hm.2.2.1 | omega) (by first | omega | (have := hm.1; omega)) (by first | omega | (have := hm.1; omega)) 0 (by omega) W (hg1.px.below hb)).mono fun e w' ⟨o, c, he, ho, hb'⟩ => ⟨o, c, he, OwnPx.at ho, hb', fun g hg => (ho.blk hg).1⟩
  have HB : Hid (∀ W, Below W1.heap.size W1 W → Calls Try.prog 30 #[.agg #[.int .i64 p.W, .int .i64 p.H, .slice op (listI p).length kp], .int .i64 V, .int .i64 0, .int .i64 V, .int .i64 m.H, .int .i64 0] W (fun e w' => ∃ o c, e = .returned (.agg #[.int .i64 V, .int .i64 m.H, .slice o (listI (cropI p V 0 V m.H)).length c]) ∧ PxAt w' o (listI (cropI p V 0 V m.H)).length c (listI (cropI p V 0 V m.H)) ∧ Below W.heap.size W w' ∧ ∀ g, (Value.slice o (listI (cropI p V 0 V m.H)).length c).ownBlock = some g → W.heap.size ≤ g)) := fun W hb => (part_any p hp op kp V 0 V m.H (by first | exact hm.1 | omega) (by first | exact hm.2.2.1 | omega) (by first | omega | (have := hm.1; omega)) (by first | omega | (have := hm.1; omega)) 0 (by omega) W (hg2.px.below hb)).mono fun e w' ⟨o, c, he, ho, hb'⟩ => ⟨o, c, he, OwnPx.at ho, hb', fun g hg => (ho.blk hg).1⟩
  have HC : Hid (∀ W, Below W1.heap.size W1 W → Calls Try.prog 30 #[.agg #[.int .i64 p.W, .int .i64 p.H, .slice op (listI p).length kp], .int .i64 0, .int .i64 0, .int .i64 V, .int .i64 m.H, .int .i64 0] W (fun e w' => ∃ o c, e = .returned (.agg #[.int .i64 V, .int .i64 m.H, .slice o (listI (cropI p 0 0 V m.H)).length c]) ∧ PxAt w' o (listI (cropI p 0 0 V m.H)).length c (listI (cropI p 0 0 V m.H)) ∧ Below W.heap.size W w' ∧ ∀ g, (Value.slice o (listI (cropI p 0 0 V m.H)).length c).ownBlock = some g → W.heap.size ≤ g)) := fun W hb => (part_any p hp op kp 0 0 V m.H (by first | exact hm.1 | omega) (by first | exact hm.2.2.1 | omega) (by first | omega | (have := hm.1; omega)) (by first | omega | (have := hm.1; omega)) 0 (by omega) W (hg2.px.below hb)).mono fun e w' ⟨o, c, he, ho, hb'⟩ => ⟨o, c, he, OwnPx.at ho, hb', fun g hg => (ho.blk hg).1⟩
  have HD : Hid (∀ W, Below W1.heap.size W1 W → Calls Try.prog 30 #[.agg #[.int .i64 m.W, .int .i64 m.H, .slice om (listI m).length km], .int .i64 V, .int .i64 0, .int .i64 V, .int .i64 m.H, .int .i64 0] W (fun e w' => ∃ o c, e = .returned (.agg #[.int .i64 V, .int .i64 m.H, .slice o (listI (cropI m V 0 V m.H)).length c]) ∧ PxAt w' o (listI (cropI m V 0 V m.H)).length c (listI (cropI m V 0 V m.H)) ∧ Below W.heap.size W w' ∧ ∀ g, (Value.slice o (listI (cropI m V 0 V m.H)).length c).ownBlock = some g → W.heap.size ≤ g)) := fun W hb => (part_any m hm om km V 0 V m.H (by first | exact hm.1 | omega) (by first | exact hm.2.2.1 | omega) (by first | omega | (have := hm.1; omega)) (by first | omega | (have := hm.1; omega)) 0 (by omega) W (hg1.px.below hb)).mono fun e w' ⟨o, c, he, ho, hb'⟩ => ⟨o, c, he, OwnPx.at ho, hb', fun g hg => (ho.blk hg).1⟩
  obtain ⟨IA, hIA⟩ : ∃ I, I = (cropI m 0 0 V m.H) := ⟨_, rfl⟩
  have hzA : IA.W = V ∧ IA.H = m.H := by rw [hIA]; exact ⟨rfl, rfl⟩
  have HSSA : Hid (Sized IA) := by
    show Sized _
    obtain ⟨a, b, c, d⟩ := hm
    exact ⟨by rw [hzA.1]; omega, by rw [hzA.1]; omega, by rw [hzA.2]; omega, by rw [hzA.2]; omega⟩
  obtain ⟨IB, hIB⟩ : ∃ I, I = (cropI p V 0 V m.H) := ⟨_, rfl⟩
  have hzB : IB.W = V ∧ IB.H = m.H := by rw [hIB]; exact ⟨rfl, rfl⟩
  have HSSB : Hid (Sized IB) := by
    show Sized _
    obtain ⟨a, b, c, d⟩ := hm
    exact ⟨by rw [hzB.1]; omega, by rw [hzB.1]; omega, by rw [hzB.2]; omega, by rw [hzB.2]; omega⟩
  obtain ⟨IC, hIC⟩ : ∃ I, I = (cropI p 0 0 V m.H) := ⟨_, rfl⟩
  have hzC : IC.W = V ∧ IC.H = m.H := by rw [hIC]; exact ⟨rfl, rfl⟩
  have HSSC : Hid (Sized IC) := by
    show Sized _
    obtain ⟨a, b, c, d⟩ := hm
    exact ⟨by rw [hzC.1]; omega, by rw [hzC.1]; omega, by rw [hzC.2]; omega, by rw [hzC.2]; omega⟩
  obtain ⟨ID, hID⟩ : ∃ I, I = (cropI m V 0 V m.H) := ⟨_, rfl⟩
  have hzD : ID.W = V ∧ ID.H = m.H := by rw [hID]; exact ⟨rfl, rfl⟩
  have HSSD : Hid (Sized ID) := by
    show Sized _
    obtain ⟨a, b, c, d⟩ := hm
    exact ⟨by rw [hzD.1]; omega, by rw [hzD.1]; omega, by rw [hzD.2]; omega, by rw [hzD.2]; omega⟩
  rw [← hIA] at HA ⊢
  rw [← hIB] at HB ⊢
  rw [← hIC] at HC ⊢
  rw [← hID] at HD ⊢
  have HIZ : Hid ((IA.W = V ∧ IA.H = m.H) ∧ (IB.W = V ∧ IB.H = m.H) ∧ (IC.W = V ∧ IC.H = m.H) ∧ (ID.W = V ∧ ID.H = m.H)) := ⟨hzA, hzB, hzC, hzD⟩
  have c0 := hg1.c0
  have c1 := hg1.c1
  have c2 := hg1.c2
  have d0 := hg2.c0
  have d1 := hg2.c1
  have d2 := hg2.c2
  have hmr := hm
  obtain ⟨hm1, hm2, hm3, hm4⟩ := hmr
  clear hg1 hg2 hpm hpp hm hp hIA hzA hIB hzB hIC hzC hID hzD
  rw [hW] at d0 hW1 HSD ⊢
  rw [hH] at d1 hW1 HSD ⊢
  rw [hW, hH] at HB
  rw [hW, hH] at HC
  clear hW hH
  obtain ⟨nm, hnm⟩ : ∃ n, n = (listI m).length := ⟨_, rfl⟩
  obtain ⟨np, hnp⟩ : ∃ n, n = (listI p).length := ⟨_, rfl⟩
  rw [← hnm] at c2 hW1 HSD ⊢
  rw [← hnp] at d2 hW1 HSD ⊢
  rw [← hnm] at HA
  rw [← hnp] at HB
  rw [← hnp] at HC
  rw [← hnm] at HD
  clear hnm hnp
  obtain ⟨Wd, hWd⟩ : ∃ q, q = m.W := ⟨_, rfl⟩
  obtain ⟨Hd, hHd⟩ : ∃ q, q = m.H := ⟨_, rfl⟩
  rw [← hWd] at c0 d0 hW1 HSD hm1 hm2 hV ⊢
  rw [← hHd] at c1 d1 hW1 HSD hm3 hm4 ⊢
  rw [← hWd, ← hHd] at HA
  rw [← hWd, ← hHd] at HB
  rw [← hWd, ← hHd] at HC
  rw [← hWd, ← hHd] at HD
  rw [← hHd] at HIZ
  clear hWd hHd
  obtain ⟨nA, hnA⟩ : ∃ n, n = (listI IA).length := ⟨_, rfl⟩
  rw [← hnA] at HA
  obtain ⟨nB, hnB⟩ : ∃ n, n = (listI IB).length := ⟨_, rfl⟩
  rw [← hnB] at HB
  obtain ⟨nC, hnC⟩ : ∃ n, n = (listI IC).length := ⟨_, rfl⟩
  rw [← hnC] at HC
  obtain ⟨nD, hnD⟩ : ∃ n, n = (listI ID).length := ⟨_, rfl⟩
  rw [← hnD] at HD
  have HNN : Hid (nA = (listI IA).length ∧ nB = (listI IB).length ∧ nC = (listI IC).length ∧ nD = (listI ID).length) := ⟨hnA, hnB, hnC, hnD⟩
  clear hnA hnB hnC hnD
  have xq : (Wd : Int) / 2 = (V : Int) := by omega
  have xr : ((Wd : Int) % 2 == 1) = false := by
    have e : (Wd : Int) % 2 = 0 := by omega
    rw [e]; rfl
  have xr2 : ¬ ((Wd : Int) % 2 = 1) := by omega
  clear hV
  have HW1 : Hid ((w.alloc (.cells #[.int .i64 Wd, .int .i64 Hd, .slice om nm km] 37)).alloc (.cells #[.int .i64 Wd, .int .i64 Hd, .slice op np kp] 37) = W1) := hW1.symm
  have HB1 := Lib.hid hb1
  have hS : Hid (∀ W, Below W1.heap.size W1 W → Below W1.heap.size W1 W ∧ W.cell? ⟨w.heap.size, 0, none⟩ = some (.int .i64 Wd) ∧ W.cell? ⟨w.heap.size, 1, none⟩ = some (.int .i64 Hd) ∧ W.cell? ⟨w.heap.size, 2, none⟩ = some (.slice om nm km) ∧ W.cell? ⟨w.heap.size + 1, 0, none⟩ = some (.int .i64 Wd) ∧ W.cell? ⟨w.heap.size + 1, 1, none⟩ = some (.int .i64 Hd) ∧ W.cell? ⟨w.heap.size + 1, 2, none⟩ = some (.slice op np kp)) := fun W hb => ⟨hb, keepCell hb c0, keepCell hb c1, keepCell hb c2, keepCell hb d0, keepCell hb d1, keepCell hb d2⟩
  clear hW1 hb1
  go_enter Try.func11, Try.ntmps11
  go_upto_region 1 with fail
  rw [HW1.out]
  clear HW1
  go_wp2_with fail
  refine HSD.out.mono ?_
  rintro e w2 ⟨rfl, hb2⟩
  have HB2 := Lib.hid hb2
  clear c0 c1 c2 d0 d1 d2 HSD hb2
  obtain ⟨-, c0, c1, c2, d0, d1, d2⟩ := hS.out w2 HB2.out
  go_upto_region 4 with fail
  go_quiet (fail)
  have HB3 := Lib.hid (bdrewN HB2.out nq)
  clear c0 c1 c2 d0 d1 d2
  generalize w2.drewN nq = w3 at *
  obtain ⟨-, c0, c1, c2, d0, d1, d2⟩ := hS.out w3 HB3.out
  go_upto_region 12 with fail
  clear c0 c1 c2 d0 d1 d2
  go_region_held3 (fun w' => Below W1.heap.size W1 w' ∧ w'.cell? ⟨w.heap.size, 0, none⟩ = some (.int .i64 Wd) ∧ w'.cell? ⟨w.heap.size, 1, none⟩ = some (.int .i64 Hd) ∧ w'.cell? ⟨w.heap.size, 2, none⟩ = some (.slice om nm km) ∧ w'.cell? ⟨w.heap.size + 1, 0, none⟩ = some (.int .i64 Wd) ∧ w'.cell? ⟨w.heap.size + 1, 1, none⟩ = some (.int .i64 Hd) ∧ w'.cell? ⟨w.heap.size + 1, 2, none⟩ = some (.slice op np kp))
    (first | (refine hS.out _ ?_; (first | assumption | exact HB3.out.drew | exact balloc (by assumption) _ | go_grown)))
    (first | fail | (go_simp; go_at_call 30; (with_reducible refine (HA.out _ (And.left (by assumption))).mono ?_); rintro e w4 ⟨oA, kA, rfl, hpA, hbA, hfA⟩; have hzA : Below W1.heap.size W1 w4 := bthen (And.left (by assumption)) hbA; have HPA := Lib.hid hpA; have HBA := Lib.hid hbA; have HQA : Hid (∀ g, (Value.slice oA nA kA).ownBlock = some g → W1.heap.size ≤ g) := fun g hg => Nat.le_trans (Below.size (And.left (by assumption))) (hfA g hg); clear hpA hbA hfA) | (go_simp; go_at_call 30; (with_reducible refine (HB.out _ (And.left (by assumption))).mono ?_); rintro e w5 ⟨oB, kB, rfl, hpB, hbB, hfB⟩; have hzB : Below W1.heap.size W1 w5 := bthen (And.left (by assumption)) hbB; have HPB := Lib.hid hpB; have HBB := Lib.hid hbB; have HQB : Hid (∀ g, (Value.slice oB nB kB).ownBlock = some g → W1.heap.size ≤ g) := fun g hg => Nat.le_trans (Below.size (And.left (by assumption))) (hfB g hg); clear hpB hbB hfB) | (go_simp; go_at_call 30; (with_reducible refine (HC.out _ (And.left (by assumption))).mono ?_); rintro e w6 ⟨oC, kC, rfl, hpC, hbC, hfC⟩; have hzC : Below W1.heap.size W1 w6 := bthen (And.left (by assumption)) hbC; have HPC := Lib.hid hpC; have HBC := Lib.hid hbC; have HQC : Hid (∀ g, (Value.slice oC nC kC).ownBlock = some g → W1.heap.size ≤ g) := fun g hg => Nat.le_trans (Below.size (And.left (by assumption))) (hfC g hg); clear hpC hbC hfC) | (go_simp; go_at_call 30; (with_reducible refine (HD.out _ (And.left (by assumption))).mono ?_); rintro e w7 ⟨oD, kD, rfl, hpD, hbD, hfD⟩; have hzD : Below W1.heap.size W1 w7 := bthen (And.left (by assumption)) hbD; have HPD := Lib.hid hpD; have HBD := Lib.hid hbD; have HQD : Hid (∀ g, (Value.slice oD nD kD).ownBlock = some g → W1.heap.size ≤ g) := fun g hg => Nat.le_trans (Below.size (And.left (by assumption))) (hfD g hg); clear hpD hbD hfD))
  have HF : Hid (RetCut [(IA, IB), (IC, ID)] w (.returned (.tuple #[.slice (some ⟨w7.heap.size, 0, none⟩) 2 2, .int .i64 0])) (w7.alloc (.cells #[.int .i64 V, .int .i64 Hd, .slice oA nA kA, .int .i64 V, .int .i64 Hd, .slice oB nB kB, .int .i64 V, .int .i64 Hd, .slice oC nC kC, .int .i64 V, .int .i64 Hd, .slice oD nD kD] 45))) := by
    have h := bsAt_new2 W1.heap.size w7 IA IB IC ID oA oB oC oD kA kB kC kD (by rw [← HNN.out.1]; exact ((((HPA.out.below HBB.out).below HBC.out).below HBD.out))) (by rw [← HNN.out.2.1]; exact (((HPB.out.below HBC.out).below HBD.out))) (by rw [← HNN.out.2.2.1]; exact ((HPC.out.below HBD.out))) (by rw [← HNN.out.2.2.2]; exact (HPD.out)) HSSA.out HSSB.out HSSC.out HSSD.out hzD.size (by rw [← HNN.out.1]; exact HQA.out) (by rw [← HNN.out.2.1]; exact HQB.out) (by rw [← HNN.out.2.2.1]; exact HQC.out) (by rw [← HNN.out.2.2.2]; exact HQD.out)
    obtain ⟨us, h, hf⟩ := h
    rw [HIZ.out.1.1, HIZ.out.1.2, ← HNN.out.1, HIZ.out.2.1.1, HIZ.out.2.1.2, ← HNN.out.2.1, HIZ.out.2.2.1.1, HIZ.out.2.2.1.2, ← HNN.out.2.2.1, HIZ.out.2.2.2.1, HIZ.out.2.2.2.2, ← HNN.out.2.2.2] at h
    exact ⟨us, _, _, rfl, h, Nat.le_refl _, HB1.out.trans ((balloc hzD _).mono HB1.out.size), fun a e => Nat.le_trans HB1.out.size (hf.1 a e), fun u hu g hg => Nat.le_trans HB1.out.size (hf.2 u hu g hg)⟩
  clear hS hzA hzB hzC hzD
  go_wp2_with fail
  go_ret2
  exact HF.out
end Go.Proofs.Ytdblibjmgamjeaa
namespace Go.Proofs.Ytdblibjmgamjeaa
open Go.RowKit
set_option linter.unusedVariables false
set_option maxRecDepth 100000 in
set_option maxHeartbeats 16000000 in
theorem cut2_any (m p : Img) (hm : Sized m) (hW : p.W = m.W) (hH : p.H = m.H) (V : Nat) (hV1 : 1 ≤ V) (hV : m.H = 2 * V) (om op : Option Addr) (km kp : Nat) (w : World) (hpm : PxAt w om (listI m).length km (listI m)) (hpp : PxAt w op (listI p).length kp (listI p)) :
    Calls Try.prog 11 #[.agg #[.int .i64 m.W, .int .i64 m.H, .slice om (listI m).length km], .agg #[.int .i64 p.W, .int .i64 p.H, .slice op (listI p).length kp], .int .i64 2] w (RetCut [((cropI m 0 0 m.W V), (turnI (cropI p 0 V m.W V) 2)), ((cropI p 0 0 m.W V), (turnI (cropI m 0 V m.W V) 2))] w) := by
  have hp : Sized p := by
    obtain ⟨a, b, c, d⟩ := hm
    exact ⟨by omega, by omega, by omega, by omega⟩
  obtain ⟨W1, hW1⟩ : ∃ W1, W1 = (w.alloc (.cells #[.int .i64 m.W, .int .i64 m.H, .slice om (listI m).length km] 37)).alloc (.cells #[.int .i64 p.W, .int .i64 p.H, .slice op (listI p).length kp] 37) := ⟨_, rfl⟩
  have hb1 : Below w.heap.size w W1 := by rw [hW1]; exact balloc (balloc (Below.refl _ w) _) _
  have hg1 : BoxG W1 w.heap.size m om km := by rw [hW1]; exact (boxG_new m om km w _ hpm).below (balloc (Below.refl _ _) _)
  have hg2 : BoxG W1 (w.heap.size + 1) p op kp := by
    have h := boxG_new p op kp (w.alloc (.cells #[.int .i64 m.W, .int .i64 m.H, .slice om (listI m).length km] 37)) 37 (hpp.below (balloc (Below.refl _ w) _))
    rw [World.size_alloc] at h
    rw [hW1]; exact h
  have HSD : Hid (Calls Try.prog 29 #[.agg #[.int .i64 m.W, .int .i64 m.H, .slice om (listI m).length km], .agg #[.int .i64 p.W, .int .i64 p.H, .slice op (listI p).length kp]] W1 fun e w' => e = .returned (.int .i64 0) ∧ Below W1.heap.size W1 w') := sides_any m p hm hW hH om op km kp W1 hg1.px hg2.px
  have HA : Hid (∀ W, Below W1.heap.size W1 W → Calls Try.prog 30 #[.agg #[.int .i64 m.W, .int .i64 m.H, .slice om (listI m).length km], .int .i64 0, .int .i64 0, .int .i64 m.W, .int .i64 V, .int .i64 0] W (fun e w' => ∃ o c, e = .returned (.agg #[.int .i64 m.W, .int .i64 V, .slice o (listI (cropI m 0 0 m.W V)).length c]) ∧ PxAt w' o (listI (cropI m 0 0 m.W V)).length c (listI (cropI m 0 0 m.W V)) ∧ Below W.heap.size W w' ∧ ∀ g, (Value.slice o (listI (cropI m 0 0 m.W V)).length c).ownBlock = some g → W.heap.size ≤ g)) := fun W hb => (part_any m hm om km 0 0 m.W V (by first | exact hm.1 | omega) (by first | exact hm.2.2.1 | omega) (by first | omega | (have := hm.1; omega)) (by first | omega | (have := hm.1; omega)) 0 (by omega) W (hg1.px.below hb)).mono fun e w' ⟨o, c, he, ho, hb'⟩ => ⟨o, c, he, OwnPx.at ho, hb', fun g hg => (ho.blk hg).1⟩
  have HB : Hid (∀ W, Below W1.heap.size W1 W → Calls Try.prog 30 #[.agg #[.int .i64 p.W, .int .i64 p.H, .slice op (listI p).length kp], .int .i64 0, .int .i64 V, .int .i64 m.W, .int .i64 V, .int .i64 2] W (fun e w' => ∃ o c, e = .returned (.agg #[.int .i64 m.W, .int .i64 V, .slice o (listI (turnI (cropI p 0 V m.W V) 2)).length c]) ∧ PxAt w' o (listI (turnI (cropI p 0 V m.W V) 2)).length c (listI (turnI (cropI p 0 V m.W V) 2)) ∧ Below W.heap.size W w' ∧ ∀ g, (Value.slice o (listI (turnI (cropI p 0 V m.W V) 2)).length c).ownBlock = some g → W.heap.size ≤ g)) := fun W hb => (part_any p hp op kp 0 V m.W V (by first | exact hm.1 | omega) (by first | exact hm.2.2.1 | omega) (by first | omega | (have := hm.1; omega)) (by first | omega | (have := hm.1; omega)) 2 (by omega) W (hg2.px.below hb)).mono fun e w' ⟨o, c, he, ho, hb'⟩ => ⟨o, c, he, OwnPx.at ho, hb', fun g hg => (ho.blk hg).1⟩
  have HC : Hid (∀ W, Below W1.heap.size W1 W → Calls Try.prog 30 #[.agg #[.int .i64 p.W, .int .i64 p.H, .slice op (listI p).length kp], .int .i64 0, .int .i64 0, .int .i64 m.W, .int .i64 V, .int .i64 0] W (fun e w' => ∃ o c, e = .returned (.agg #[.int .i64 m.W, .int .i64 V, .slice o (listI (cropI p 0 0 m.W V)).length c]) ∧ PxAt w' o (listI (cropI p 0 0 m.W V)).length c (listI (cropI p 0 0 m.W V)) ∧ Below W.heap.size W w' ∧ ∀ g, (Value.slice o (listI (cropI p 0 0 m.W V)).length c).ownBlock = some g → W.heap.size ≤ g)) := fun W hb => (part_any p hp op kp 0 0 m.W V (by first | exact hm.1 | omega) (by first | exact hm.2.2.1 | omega) (by first | omega | (have := hm.1; omega)) (by first | omega | (have := hm.1; omega)) 0 (by omega) W (hg2.px.below hb)).mono fun e w' ⟨o, c, he, ho, hb'⟩ => ⟨o, c, he, OwnPx.at ho, hb', fun g hg => (ho.blk hg).1⟩
  have HD : Hid (∀ W, Below W1.heap.size W1 W → Calls Try.prog 30 #[.agg #[.int .i64 m.W, .int .i64 m.H, .slice om (listI m).length km], .int .i64 0, .int .i64 V, .int .i64 m.W, .int .i64 V, .int .i64 2] W (fun e w' => ∃ o c, e = .returned (.agg #[.int .i64 m.W, .int .i64 V, .slice o (listI (turnI (cropI m 0 V m.W V) 2)).length c]) ∧ PxAt w' o (listI (turnI (cropI m 0 V m.W V) 2)).length c (listI (turnI (cropI m 0 V m.W V) 2)) ∧ Below W.heap.size W w' ∧ ∀ g, (Value.slice o (listI (turnI (cropI m 0 V m.W V) 2)).length c).ownBlock = some g → W.heap.size ≤ g)) := fun W hb => (part_any m hm om km 0 V m.W V (by first | exact hm.1 | omega) (by first | exact hm.2.2.1 | omega) (by first | omega | (have := hm.1; omega)) (by first | omega | (have := hm.1; omega)) 2 (by omega) W (hg1.px.below hb)).mono fun e w' ⟨o, c, he, ho, hb'⟩ => ⟨o, c, he, OwnPx.at ho, hb', fun g hg => (ho.blk hg).1⟩
  obtain ⟨IA, hIA⟩ : ∃ I, I = (cropI m 0 0 m.W V) := ⟨_, rfl⟩
  have hzA : IA.W = m.W ∧ IA.H = V := by rw [hIA]; exact ⟨rfl, rfl⟩
  have HSSA : Hid (Sized IA) := by
    show Sized _
    obtain ⟨a, b, c, d⟩ := hm
    exact ⟨by rw [hzA.1]; omega, by rw [hzA.1]; omega, by rw [hzA.2]; omega, by rw [hzA.2]; omega⟩
  obtain ⟨IB, hIB⟩ : ∃ I, I = (turnI (cropI p 0 V m.W V) 2) := ⟨_, rfl⟩
  have hzB : IB.W = m.W ∧ IB.H = V := by rw [hIB]; exact ⟨rfl, rfl⟩
  have HSSB : Hid (Sized IB) := by
    show Sized _
    obtain ⟨a, b, c, d⟩ := hm
    exact ⟨by rw [hzB.1]; omega, by rw [hzB.1]; omega, by rw [hzB.2]; omega, by rw [hzB.2]; omega⟩
  obtain ⟨IC, hIC⟩ : ∃ I, I = (cropI p 0 0 m.W V) := ⟨_, rfl⟩
  have hzC : IC.W = m.W ∧ IC.H = V := by rw [hIC]; exact ⟨rfl, rfl⟩
  have HSSC : Hid (Sized IC) := by
    show Sized _
    obtain ⟨a, b, c, d⟩ := hm
    exact ⟨by rw [hzC.1]; omega, by rw [hzC.1]; omega, by rw [hzC.2]; omega, by rw [hzC.2]; omega⟩
  obtain ⟨ID, hID⟩ : ∃ I, I = (turnI (cropI m 0 V m.W V) 2) := ⟨_, rfl⟩
  have hzD : ID.W = m.W ∧ ID.H = V := by rw [hID]; exact ⟨rfl, rfl⟩
  have HSSD : Hid (Sized ID) := by
    show Sized _
    obtain ⟨a, b, c, d⟩ := hm
    exact ⟨by rw [hzD.1]; omega, by rw [hzD.1]; omega, by rw [hzD.2]; omega, by rw [hzD.2]; omega⟩
  rw [← hIA] at HA ⊢
  rw [← hIB] at HB ⊢
  rw [← hIC] at HC ⊢
  rw [← hID] at HD ⊢
  have HIZ : Hid ((IA.W = m.W ∧ IA.H = V) ∧ (IB.W = m.W ∧ IB.H = V) ∧ (IC.W = m.W ∧ IC.H = V) ∧ (ID.W = m.W ∧ ID.H = V)) := ⟨hzA, hzB, hzC, hzD⟩
  have c0 := hg1.c0
  have c1 := hg1.c1
  have c2 := hg1.c2
  have d0 := hg2.c0
  have d1 := hg2.c1
  have d2 := hg2.c2
  have hmr := hm
  obtain ⟨hm1, hm2, hm3, hm4⟩ := hmr
  clear hg1 hg2 hpm hpp hm hp hIA hzA hIB hzB hIC hzC hID hzD
  rw [hW] at d0 hW1 HSD ⊢
  rw [hH] at d1 hW1 HSD ⊢
  rw [hW, hH] at HB
  rw [hW, hH] at HC
  clear hW hH
  obtain ⟨nm, hnm⟩ : ∃ n, n = (listI m).length := ⟨_, rfl⟩
  obtain ⟨np, hnp⟩ : ∃ n, n = (listI p).length := ⟨_, rfl⟩
  rw [← hnm] at c2 hW1 HSD ⊢
  rw [← hnp] at d2 hW1 HSD ⊢
  rw [← hnm] at HA
  rw [← hnp] at HB
  rw [← hnp] at HC
  rw [← hnm] at HD
  clear hnm hnp
  obtain ⟨Wd, hWd⟩ : ∃ q, q = m.W := ⟨_, rfl⟩
  obtain ⟨Hd, hHd⟩ : ∃ q, q = m.H := ⟨_, rfl⟩
  rw [← hWd] at c0 d0 hW1 HSD hm1 hm2 ⊢
  rw [← hHd] at c1 d1 hW1 HSD hm3 hm4 hV ⊢
  rw [← hWd, ← hHd] at HA
  rw [← hWd, ← hHd] at HB
  rw [← hWd, ← hHd] at HC
  rw [← hWd, ← hHd] at HD
  rw [← hWd] at HIZ
  clear hWd hHd
  obtain ⟨nA, hnA⟩ : ∃ n, n = (listI IA).length := ⟨_, rfl⟩
  rw [← hnA] at HA
  obtain ⟨nB, hnB⟩ : ∃ n, n = (listI IB).length := ⟨_, rfl⟩
  rw [← hnB] at HB
  obtain ⟨nC, hnC⟩ : ∃ n, n = (listI IC).length := ⟨_, rfl⟩
  rw [← hnC] at HC
  obtain ⟨nD, hnD⟩ : ∃ n, n = (listI ID).length := ⟨_, rfl⟩
  rw [← hnD] at HD
  have HNN : Hid (nA = (listI IA).length ∧ nB = (listI IB).length ∧ nC = (listI IC).length ∧ nD = (listI ID).length) := ⟨hnA, hnB, hnC, hnD⟩
  clear hnA hnB hnC hnD
  have xq : (Hd : Int) / 2 = (V : Int) := by omega
  have xr : ((Hd : Int) % 2 == 1) = false := by
    have e : (Hd : Int) % 2 = 0 := by omega
    rw [e]; rfl
  have xr2 : ¬ ((Hd : Int) % 2 = 1) := by omega
  clear hV
  have HW1 : Hid ((w.alloc (.cells #[.int .i64 Wd, .int .i64 Hd, .slice om nm km] 37)).alloc (.cells #[.int .i64 Wd, .int .i64 Hd, .slice op np kp] 37) = W1) := hW1.symm
  have HB1 := Lib.hid hb1
  have hS : Hid (∀ W, Below W1.heap.size W1 W → Below W1.heap.size W1 W ∧ W.cell? ⟨w.heap.size, 0, none⟩ = some (.int .i64 Wd) ∧ W.cell? ⟨w.heap.size, 1, none⟩ = some (.int .i64 Hd) ∧ W.cell? ⟨w.heap.size, 2, none⟩ = some (.slice om nm km) ∧ W.cell? ⟨w.heap.size + 1, 0, none⟩ = some (.int .i64 Wd) ∧ W.cell? ⟨w.heap.size + 1, 1, none⟩ = some (.int .i64 Hd) ∧ W.cell? ⟨w.heap.size + 1, 2, none⟩ = some (.slice op np kp)) := fun W hb => ⟨hb, keepCell hb c0, keepCell hb c1, keepCell hb c2, keepCell hb d0, keepCell hb d1, keepCell hb d2⟩
  clear hW1 hb1
  go_enter Try.func11, Try.ntmps11
  go_upto_region 1 with fail
  rw [HW1.out]
  clear HW1
  go_wp2_with fail
  refine HSD.out.mono ?_
  rintro e w2 ⟨rfl, hb2⟩
  have HB2 := Lib.hid hb2
  clear c0 c1 c2 d0 d1 d2 HSD hb2
  obtain ⟨-, c0, c1, c2, d0, d1, d2⟩ := hS.out w2 HB2.out
  go_upto_region 4 with fail
  go_quiet (fail)
  have HB3 := Lib.hid (bdrewN HB2.out nq)
  clear c0 c1 c2 d0 d1 d2
  generalize w2.drewN nq = w3 at *
  obtain ⟨-, c0, c1, c2, d0, d1, d2⟩ := hS.out w3 HB3.out
  go_upto_region 15 with fail
  clear c0 c1 c2 d0 d1 d2
  go_region_held3 (fun w' => Below W1.heap.size W1 w' ∧ w'.cell? ⟨w.heap.size, 0, none⟩ = some (.int .i64 Wd) ∧ w'.cell? ⟨w.heap.size, 1, none⟩ = some (.int .i64 Hd) ∧ w'.cell? ⟨w.heap.size, 2, none⟩ = some (.slice om nm km) ∧ w'.cell? ⟨w.heap.size + 1, 0, none⟩ = some (.int .i64 Wd) ∧ w'.cell? ⟨w.heap.size + 1, 1, none⟩ = some (.int .i64 Hd) ∧ w'.cell? ⟨w.heap.size + 1, 2, none⟩ = some (.slice op np kp))
    (first | (refine hS.out _ ?_; (first | assumption | exact HB3.out.drew | exact balloc (by assumption) _ | go_grown)))
    (first | fail | (go_simp; go_at_call 30; (with_reducible refine (HA.out _ (And.left (by assumption))).mono ?_); rintro e w4 ⟨oA, kA, rfl, hpA, hbA, hfA⟩; have hzA : Below W1.heap.size W1 w4 := bthen (And.left (by assumption)) hbA; have HPA := Lib.hid hpA; have HBA := Lib.hid hbA; have HQA : Hid (∀ g, (Value.slice oA nA kA).ownBlock = some g → W1.heap.size ≤ g) := fun g hg => Nat.le_trans (Below.size (And.left (by assumption))) (hfA g hg); clear hpA hbA hfA) | (go_simp; go_at_call 30; (with_reducible refine (HB.out _ (And.left (by assumption))).mono ?_); rintro e w5 ⟨oB, kB, rfl, hpB, hbB, hfB⟩; have hzB : Below W1.heap.size W1 w5 := bthen (And.left (by assumption)) hbB; have HPB := Lib.hid hpB; have HBB := Lib.hid hbB; have HQB : Hid (∀ g, (Value.slice oB nB kB).ownBlock = some g → W1.heap.size ≤ g) := fun g hg => Nat.le_trans (Below.size (And.left (by assumption))) (hfB g hg); clear hpB hbB hfB) | (go_simp; go_at_call 30; (with_reducible refine (HC.out _ (And.left (by assumption))).mono ?_); rintro e w6 ⟨oC, kC, rfl, hpC, hbC, hfC⟩; have hzC : Below W1.heap.size W1 w6 := bthen (And.left (by assumption)) hbC; have HPC := Lib.hid hpC; have HBC := Lib.hid hbC; have HQC : Hid (∀ g, (Value.slice oC nC kC).ownBlock = some g → W1.heap.size ≤ g) := fun g hg => Nat.le_trans (Below.size (And.left (by assumption))) (hfC g hg); clear hpC hbC hfC) | (go_simp; go_at_call 30; (with_reducible refine (HD.out _ (And.left (by assumption))).mono ?_); rintro e w7 ⟨oD, kD, rfl, hpD, hbD, hfD⟩; have hzD : Below W1.heap.size W1 w7 := bthen (And.left (by assumption)) hbD; have HPD := Lib.hid hpD; have HBD := Lib.hid hbD; have HQD : Hid (∀ g, (Value.slice oD nD kD).ownBlock = some g → W1.heap.size ≤ g) := fun g hg => Nat.le_trans (Below.size (And.left (by assumption))) (hfD g hg); clear hpD hbD hfD))
  have HF : Hid (RetCut [(IA, IB), (IC, ID)] w (.returned (.tuple #[.slice (some ⟨w7.heap.size, 0, none⟩) 2 2, .int .i64 0])) (w7.alloc (.cells #[.int .i64 Wd, .int .i64 V, .slice oA nA kA, .int .i64 Wd, .int .i64 V, .slice oB nB kB, .int .i64 Wd, .int .i64 V, .slice oC nC kC, .int .i64 Wd, .int .i64 V, .slice oD nD kD] 45))) := by
    have h := bsAt_new2 W1.heap.size w7 IA IB IC ID oA oB oC oD kA kB kC kD (by rw [← HNN.out.1]; exact ((((HPA.out.below HBB.out).below HBC.out).below HBD.out))) (by rw [← HNN.out.2.1]; exact (((HPB.out.below HBC.out).below HBD.out))) (by rw [← HNN.out.2.2.1]; exact ((HPC.out.below HBD.out))) (by rw [← HNN.out.2.2.2]; exact (HPD.out)) HSSA.out HSSB.out HSSC.out HSSD.out hzD.size (by rw [← HNN.out.1]; exact HQA.out) (by rw [← HNN.out.2.1]; exact HQB.out) (by rw [← HNN.out.2.2.1]; exact HQC.out) (by rw [← HNN.out.2.2.2]; exact HQD.out)
    obtain ⟨us, h, hf⟩ := h
    rw [HIZ.out.1.1, HIZ.out.1.2, ← HNN.out.1, HIZ.out.2.1.1, HIZ.out.2.1.2, ← HNN.out.2.1, HIZ.out.2.2.1.1, HIZ.out.2.2.1.2, ← HNN.out.2.2.1, HIZ.out.2.2.2.1, HIZ.out.2.2.2.2, ← HNN.out.2.2.2] at h
    exact ⟨us, _, _, rfl, h, Nat.le_refl _, HB1.out.trans ((balloc hzD _).mono HB1.out.size), fun a e => Nat.le_trans HB1.out.size (hf.1 a e), fun u hu g hg => Nat.le_trans HB1.out.size (hf.2 u hu g hg)⟩
  clear hS hzA hzB hzC hzD
  go_wp2_with fail
  go_ret2
  exact HF.out
end Go.Proofs.Ytdblibjmgamjeaa
