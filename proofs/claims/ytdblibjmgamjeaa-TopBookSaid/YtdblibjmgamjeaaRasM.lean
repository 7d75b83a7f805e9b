/-
  The walks of raster's sized, Check, Make. Own text.
-/
import Derived.Test.YtdblibjmgamjeaaRas
import Derived.Test.YtdblibjmgamjeaaBuildC
namespace Go.Proofs.Ytdblibjmgamjeaa
open Go.RowKit
set_option linter.unusedVariables false
set_option maxHeartbeats 4000000 in
theorem sized_any (a b : Nat) (h : 1 ≤ a ∧ a ≤ 1024 ∧ 1 ≤ b ∧ b ≤ 1024) (w : World) : Calls Try.prog 44 #[.int .i64 a, .int .i64 b] w fun e w' => e = .returned (.bool true) ∧ w = w' := by
  obtain ⟨a1, a2, b1, b2⟩ := h
  have x1 : (1 : Int) ≤ (a : Int) := by omega
  have x2 : (a : Int) ≤ 1024 := by omega
  have x3 : (1 : Int) ≤ (b : Int) := by omega
  have x4 : (b : Int) ≤ 1024 := by omega
  go_enter Try.func44, Try.ntmps44
  go_wp2
  go_ret
  exact ⟨rfl, rfl⟩
set_option maxHeartbeats 4000000 in
theorem gcheck_any (m : Img) (hm : Sized m) (o : Option Addr) (cap : Nat) (w : World) :
    Calls Try.prog 48 #[.agg #[.int .i64 m.W, .int .i64 m.H, .slice o (listI m).length cap]] w fun e w' => e = .returned (.int .i64 0) ∧ Below w.heap.size w w' := by
  obtain ⟨p1, p2, p3⟩ := px_len hm
  have HSZ : Hid (∀ W, Calls Try.prog 44 #[.int .i64 m.W, .int .i64 m.H] W fun e w' => e = .returned (.bool true) ∧ W = w') := fun W => sized_any m.W m.H hm W
  obtain ⟨n, hn⟩ : ∃ n, n = (listI m).length := ⟨_, rfl⟩
  obtain ⟨Wd, hWd⟩ : ∃ W, W = m.W := ⟨_, rfl⟩
  obtain ⟨Hd, hHd⟩ : ∃ H, H = m.H := ⟨_, rfl⟩
  rw [← hn] at p2 p3 ⊢
  rw [← hWd] at HSZ p3 ⊢
  rw [← hHd] at HSZ p3 ⊢
  have x1 : IntKind.i64.wrap ((Wd : Int) * (Hd : Int)) = (n : Int) := by rw [← Int.natCast_mul, ← p3]; exact IntWalk.i64_in _ (by omega)
  have x2 : ((n : Int) != (n : Int)) = false := by simp
  obtain ⟨W1, hW1⟩ : ∃ W1, W1 = w.alloc (.cells #[.int .i64 Wd, .int .i64 Hd, .slice o n cap] 74) := ⟨_, rfl⟩
  have hb1 : Below w.heap.size w W1 := by rw [hW1]; exact balloc (Below.refl _ w) _
  have ht1 : FTab (fun v : Value => v) W1 w.heap.size 3 (outF (.int .i64 Wd) (.int .i64 Hd) (.slice o n cap)) := by rw [hW1]; exact outF_new w _ _ _ _
  have c0 : W1.cell? ⟨w.heap.size, 0, none⟩ = some (.int .i64 Wd) := ht1.at' 0 (by omega)
  have c1 : W1.cell? ⟨w.heap.size, 1, none⟩ = some (.int .i64 Hd) := ht1.at' 1 (by omega)
  have c2 : W1.cell? ⟨w.heap.size, 2, none⟩ = some (.slice o n cap) := ht1.at' 2 (by omega)
  have HB1 := Lib.hid hb1
  clear hb1 ht1 p1 p3 hn hWd hHd hm
  go_enter Try.func48, Try.ntmps48
  go_upto_region 1 with fail
  rw [← hW1]
  clear hW1
  go_wp2_with fail
  refine (HSZ.out W1).mono ?_
  rintro e w2 ⟨rfl, rfl⟩
  go_wp2_with fail
  go_ret
  exact ⟨rfl, HB1.out⟩
/-- A raster and the code 0. -/
def RetGrid0 (m : Img) (w : World) (e : Ending) (w' : World) : Prop := ∃ o cap, e = .returned (.tuple #[.agg #[.int .i64 m.W, .int .i64 m.H, .slice o (listI m).length cap], .int .i64 0]) ∧ OwnPx w' w.heap.size (.slice o (listI m).length cap) (listI m) ∧ Below w.heap.size w w'
theorem makeRes : Try.f23.results = #[.cell 6 74, .tmp 7] := rfl
set_option maxHeartbeats 4000000 in
theorem makeAt_any (b : Nat) (v : Int) (x y : Nat) (w : World) (h : w.cell? ⟨b, 0, none⟩ = some (.int .u8 v)) :
    Calls Try.prog 46 #[.int .i64 x, .int .i64 y, .pointer (some ⟨b, 0, none⟩)] w fun e w' => e = .returned (.int .u8 v) ∧ Below w.heap.size w w' := by
  have HB := Lib.hid (Below.refl w.heap.size w)
  go_enter Try.func46, Try.ntmps46
  go_wp2
  go_ret
  exact ⟨rfl, HB.out⟩
set_option maxRecDepth 100000 in
set_option maxHeartbeats 8000000 in
theorem make_any (a b : Nat) (h : 1 ≤ a ∧ a ≤ 1024 ∧ 1 ≤ b ∧ b ≤ 1024) (v : Int) (w : World) :
    Calls Try.prog 23 #[.int .i64 a, .int .i64 b, .int .u8 v] w (RetGrid0 (fillI a b v) w) := by
  have HSZ : Hid (∀ W, Calls Try.prog 44 #[.int .i64 a, .int .i64 b] W fun e w' => e = .returned (.bool true) ∧ W = w') := fun W => sized_any a b h W
  obtain ⟨W1, hW1⟩ : ∃ W1, W1 = (w.alloc (.cells #[.int .u8 v] 5)).alloc (.cells #[.int .i64 0, .int .i64 0, .slice none 0 0] 74) := ⟨_, rfl⟩
  have hb1 : Below w.heap.size w W1 := by rw [hW1]; exact ((Below.refl _ w).alloc (Nat.le_refl _) _).alloc (by simp) _
  have hz1 : W1.heap.size = w.heap.size + 1 + 1 := by rw [hW1]; simp
  have c0 : W1.cell? ⟨w.heap.size, 0, none⟩ = some (.int .u8 v) := by
    rw [hW1]
    exact keepCell (balloc (Below.refl _ _) _) (by rw [cell_of_row _ w.heap.size 0 _ _ (0, 0) (heap_alloc_new w _)]; rfl)
  have ht2 : FTab (fun v : Value => v) W1 (w.heap.size + 1) 3 (outF (.int .i64 0) (.int .i64 0) (.slice none 0 0)) := by
    have h := outF_new (w.alloc (.cells #[.int .u8 v] 5)) (.int .i64 0) (.int .i64 0) (.slice none 0 0) 74
    rw [World.size_alloc] at h
    rw [hW1]; exact h
  have HBU : Hid (Calls Try.prog 45 #[.int .i64 a, .int .i64 b, .func (.func 46) #[] #[.pointer (some ⟨w.heap.size, 0, none⟩)]] W1 (RetGrid (fillI a b v) W1)) :=
    buildM_any (fillI a b v) h w.heap.size W1 fun W x y _ _ hb => makeAt_any w.heap.size v x y W (keepCell hb c0)
  have HW1 : Hid ((w.alloc (.cells #[.int .u8 v] 5)).alloc (.cells #[.int .i64 0, .int .i64 0, .slice none 0 0] 74) = W1) := hW1.symm
  have HB1 := Lib.hid hb1
  have HZ1 := Lib.hid hz1
  have HT2 := Lib.hid ht2
  clear hW1 hb1 hz1 ht2 h
  go_enter Try.func23, Try.ntmps23
  go_upto_region 1 with fail
  rw [HW1.out]
  clear HW1
  go_wp2_with fail
  refine (HSZ.out W1).mono ?_
  rintro e w2 ⟨rfl, rfl⟩
  go_wp2_with fail
  refine HBU.out.mono ?_
  intro e w3 hret
  obtain ⟨o3, k3, he, hown3, hb3⟩ := hret
  have he' : e = .returned (.agg #[.int .i64 a, .int .i64 b, .slice o3 (listI (fillI a b v)).length k3]) := he
  subst he'
  clear he
  obtain ⟨n, hn⟩ : ∃ n, n = (listI (fillI a b v)).length := ⟨_, rfl⟩
  rw [← hn] at hown3 ⊢
  have ht3 := HT2.out.below hb3 (by rw [HZ1.out]; omega)
  have hrs := res_set (x := .int .i64 a) (y := .int .i64 b) (z := .slice o3 n k3) ht3
  have HF : Hid (RetGrid0 (fillI a b v) w (.returned (.tuple #[.agg #[.int .i64 a, .int .i64 b, .slice o3 n k3], .int .i64 0])) (resW w3 (w.heap.size + 1) (.int .i64 a) (.int .i64 b) (.slice o3 n k3))) := by
    have h2 : OwnPx (resW w3 (w.heap.size + 1) (.int .i64 a) (.int .i64 b) (.slice o3 n k3)) W1.heap.size (.slice o3 n k3) (listI (fillI a b v)) := hown3.heap fun k e => hrs.hp k (by have h3 := (hown3.blk e).1; rw [HZ1.out] at h3; omega)
    exact ⟨o3, k3, by rw [← hn]; rfl, by rw [← hn]; exact h2.rebase (by rw [HZ1.out]; omega), hrs.bel (bthen HB1.out hb3) (by omega)⟩
  have r0 : w3.cell? ⟨w.heap.size + 1, 0, none⟩ = some (.int .i64 0) := ht3.at' 0 (by omega)
  have r1 : w3.cell? ⟨w.heap.size + 1, 1, none⟩ = some (.int .i64 0) := ht3.at' 1 (by omega)
  have r2 : w3.cell? ⟨w.heap.size + 1, 2, none⟩ = some (.slice none 0 0) := ht3.at' 2 (by omega)
  have rf := ht3.fz
  have HRS := Lib.hid hrs
  clear hrs ht3 hown3 hb3 hn
  dsimp only
  repeat (first | go_values | go_skip | go_guarded | go_step | go_upon)
  obtain ⟨W9, hW9⟩ : ∃ W9, W9 = resW w3 (w.heap.size + 1) (.int .i64 a) (.int .i64 b) (.slice o3 n k3) := ⟨_, rfl⟩
  rw [← hW9] at HF HRS
  unfold resW at hW9
  rw [← hW9]
  have e0 := HRS.out.c0
  have e1 := HRS.out.c1
  have e2 := HRS.out.c2
  clear hW9
  refine bodyPost_ret (v := .tuple #[.agg #[.int .i64 a, .int .i64 b, .slice o3 n k3], .int .i64 0]) (by simp only [results, makeRes]; go_simp) rfl ?_
  exact HF.out
end Go.Proofs.Ytdblibjmgamjeaa
