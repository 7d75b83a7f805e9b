/-
  The walks of sheet.check at one bitmap, and of sheet.Check. Own text.
-/
import Derived.Test.YtcadgjhfdolejaaFRuns
namespace Go.Proofs.Ytcadgjhfdolejaa
open Go.RowKit
set_option linter.unusedVariables false
/-- The arguments of sheet.Print: one bitmap, its growth, its shift. -/
structure PrA (w : World) (bl bg bs d c W H gr : Nat) (sx sy : Int) (p : Plane) : Prop where
  l : BitsAt w bl d c W H p
  g : w.cell? ⟨bg, 0, none⟩ = some (.int .i64 gr)
  s0 : w.cell? ⟨bs, 0, none⟩ = some (.int .i64 sx)
  s1 : w.cell? ⟨bs, 1, none⟩ = some (.int .i64 sy)
theorem PrA.below {w w' : World} {bl bg bs d c W H gr : Nat} {sx sy : Int} {p : Plane} (h : PrA w bl bg bs d c W H gr sx sy p) (hb : Below w.heap.size w w') (h1 : 0 < W) (h2 : 0 < H) : PrA w' bl bg bs d c W H gr sx sy p :=
  ⟨h.l.below hb h1 h2, keepCell hb h.g, keepCell hb h.s0, keepCell hb h.s1⟩
set_option maxRecDepth 100000 in
set_option maxHeartbeats 8000000 in
theorem scheck_any (bl bg bs d c cl cg cs W H gr : Nat) (sx sy : Int) (p : Plane) (hW : 1 ≤ W ∧ W ≤ 1024) (hH : 1 ≤ H ∧ H ≤ 1024) (hgr : gr ≤ 16) (hsx : -1024 ≤ sx ∧ sx ≤ 1024) (hsy : -1024 ≤ sy ∧ sy ≤ 1024) (w : World) (h : PrA w bl bg bs d c W H gr sx sy p) :
    Calls Try.prog 19 #[.slice (some ⟨bl, 0, none⟩) 1 cl, .slice (some ⟨bg, 0, none⟩) 1 cg, .slice (some ⟨bs, 0, none⟩) 1 cs] w fun e w' => e = .returned (.int .i64 0) ∧ Below w.heap.size w w' := by
  obtain ⟨m, hm⟩ : ∃ m, m = strV W * H := ⟨_, rfl⟩
  have HM := Lib.hid hm
  have HP := Lib.hid h
  have hd := h.l.dat
  obtain ⟨W1, hW1⟩ : ∃ W1, W1 = w.alloc (.cells #[.int .i64 W, .int .i64 H, .slice (some ⟨d, 0, none⟩) m c] 29) := ⟨_, rfl⟩
  have hb1 : Below w.heap.size w W1 := by rw [hW1]; exact balloc (Below.refl _ _) _
  have t1 : T3 W1 w.heap.size (.int .i64 W) (.int .i64 H) (.slice (some ⟨d, 0, none⟩) m c) := by rw [hW1]; exact T3.new w _ _ _ _
  have hp1 := h.below hb1 (by omega) (by omega)
  have HCK : Hid (Calls Try.prog 17 #[.agg #[.int .i64 W, .int .i64 H, .slice (some ⟨d, 0, none⟩) m c]] W1 fun e w' => e = .returned (.int .i64 0) ∧ Below W1.heap.size W1 w') := by rw [hm]; exact check_any d c W H p hW hH W1 hp1.l.dat
  have HW1 : Hid (w.alloc (.cells #[.int .i64 W, .int .i64 H, .slice (some ⟨d, 0, none⟩) m c] 29) = W1) := hW1.symm
  have HB1 := Lib.hid hb1
  have HT1 := Lib.hid t1
  have HP1 := Lib.hid hp1
  obtain ⟨c0, c1, c2, -⟩ := h.l
  rw [← hm] at c2
  have e0 := t1.c0
  have e1 := t1.c1
  have e2 := t1.c2
  obtain ⟨hW0, hW2⟩ := hW
  obtain ⟨hH0, hH2⟩ := hH
  clear hm hW1 hb1 t1 hp1 hd h
  go_enter Try.func19, Try.ntmps19
  go_wp2_with fail
  go_loopw [34] (fun i wr => ∃ k : Nat, k ≤ 1 ∧ i = .int .i64 k ∧ (k = 0 → w = wr) ∧ Hid (Below w.heap.size w wr)) (fun i _ => 1 - (intOf i).toNat)
  case atStart => exact ⟨0, by omega, rfl, fun _ => rfl, Below.refl _ _⟩
  case round =>
    obtain ⟨k, hk, rfl, hw0, HR⟩ := hrel
    obtain ⟨wb, rfl⟩ : ∃ wb : World, wb = wr := ⟨_, rfl⟩
    have h01 : k = 0 ∨ k = 1 := by omega
    rcases h01 with rfl | rfl
    · have hwe := hw0 rfl
      clear hw0
      subst hwe
      go_upto_region 10 with fail
      rw [HW1.out]
      clear HW1 c0 c1 c2
      go_wp2_with fail
      refine HCK.out.mono ?_
      rintro e w2 ⟨rfl, hb2⟩
      have hp2 := HP1.out.below hb2 (by omega) (by omega)
      have ht2 := HT1.out.below hb2
      have c0 := hp2.l.c0
      have c1 := hp2.l.c1
      have e0 := ht2.c0
      have e1 := ht2.c1
      have HB2 : Hid (Below w.heap.size w w2) := bthen HB1.out hb2
      have HP2 := Lib.hid hp2
      clear hb2 ht2 hp2
      go_upto_region 13 with fail
      go_quiet (fail)
      have HB3 : Hid (Below w.heap.size w (w2.drewN nq)) := bdrewN HB2.out nq
      obtain ⟨w3, hw3⟩ : ∃ w3, w3 = w2.drewN nq := ⟨_, rfl⟩
      have g0 : w3.cell? ⟨bg, 0, none⟩ = some (.int .i64 gr) := by rw [hw3]; exact HP2.out.g
      have s0 : w3.cell? ⟨bs, 0, none⟩ = some (.int .i64 sx) := by rw [hw3]; exact HP2.out.s0
      have s1 : w3.cell? ⟨bs, 1, none⟩ = some (.int .i64 sy) := by rw [hw3]; exact HP2.out.s1
      rw [← hw3] at HB3 ⊢
      clear hw3 c0 c1 e0 e1
      have n1 : decide ((gr : Int) < 0) = false := decide_eq_false (by omega)
      have n2 : decide (16 < (gr : Int)) = false := decide_eq_false (by omega)
      have n2' : decide (16 < gr) = false := decide_eq_false (by omega)
      go_upto_region 17 with fail
      have n3 : decide (sx < -1024) = false := decide_eq_false (by omega)
      have n4 : decide (1024 < sx) = false := decide_eq_false (by omega)
      have n5 : decide (sy < -1024) = false := decide_eq_false (by omega)
      have n6 : decide (1024 < sy) = false := decide_eq_false (by omega)
      obtain ⟨w4, hw4⟩ : ∃ w4, w4 = w3.alloc (.cells #[.int .i64 sx, .int .i64 sy] 45) := ⟨_, rfl⟩
      have HW4 : Hid (w3.alloc (.cells #[.int .i64 sx, .int .i64 sy] 45) = w4) := hw4.symm
      have q0 : w4.cell? ⟨w3.heap.size, 0, none⟩ = some (.int .i64 sx) := by rw [cell_of_row w4 w3.heap.size 0 _ 45 (0, 0) (by rw [hw4]; exact heap_alloc_new w3 _)]; rfl
      have q1 : w4.cell? ⟨w3.heap.size, 1, none⟩ = some (.int .i64 sy) := by rw [cell_of_row w4 w3.heap.size 1 _ 45 (0, 0) (by rw [hw4]; exact heap_alloc_new w3 _)]; rfl
      have HB4 : Hid (Below w.heap.size w w4) := by rw [hw4]; exact balloc HB3.out _
      clear hw4
      go_upto_region 18 with fail
      rw [HW4.out]
      clear HW4 s0 s1 g0
      go_wp2_with fail
      go_roundw
      case rel => exact ⟨1, by omega, rfl, fun h => by omega, HB4⟩
      case measure => simp [intOf]
    · have HF := HR
      clear hw0 HR
      go_wp2
      go_ret
      exact ⟨rfl, HF.out⟩
set_option maxHeartbeats 2000000 in
theorem mcheck_any (d c W H n : Nat) (hW : 1 ≤ W ∧ W ≤ 1024) (hH : 1 ≤ H ∧ H ≤ 1024) (hn : n = W * H) (w : World) :
    Calls Try.prog 22 #[.agg #[.int .i64 W, .int .i64 H, .slice (some ⟨d, 0, none⟩) n c]] w fun e w' => e = .returned (.int .i64 0) ∧ Below w.heap.size w w' := by
  have hnb : n ≤ 1024 * 1024 := by rw [hn]; exact Nat.mul_le_mul hW.2 hH.2
  have x1 : IntKind.i64.wrap ((W : Int) * (H : Int)) = (n : Int) := by rw [hn, ← Int.natCast_mul]; exact IntWalk.i64_in _ (by rw [← hn]; omega)
  obtain ⟨W1, hW1⟩ : ∃ W1, W1 = w.alloc (.cells #[.int .i64 W, .int .i64 H, .slice (some ⟨d, 0, none⟩) n c] 40) := ⟨_, rfl⟩
  have hb1 : Below w.heap.size w W1 := by rw [hW1]; exact balloc (Below.refl _ _) _
  have t1 : T3 W1 w.heap.size (.int .i64 W) (.int .i64 H) (.slice (some ⟨d, 0, none⟩) n c) := by rw [hW1]; exact T3.new w _ _ _ _
  have HW1 : Hid (w.alloc (.cells #[.int .i64 W, .int .i64 H, .slice (some ⟨d, 0, none⟩) n c] 40) = W1) := hW1.symm
  have HB1 := Lib.hid hb1
  have e0 := t1.c0
  have e1 := t1.c1
  have e2 := t1.c2
  have n1 : decide ((W : Int) < 1) = false := decide_eq_false (by omega)
  have n2 : decide (1024 < (W : Int)) = false := decide_eq_false (by omega)
  have n3 : decide ((H : Int) < 1) = false := decide_eq_false (by omega)
  have n4 : decide (1024 < (H : Int)) = false := decide_eq_false (by omega)
  have n2' : decide (1024 < W) = false := decide_eq_false (by omega)
  have n4' : decide (1024 < H) = false := decide_eq_false (by omega)
  clear hn hW1 hb1 t1 hW hH
  go_enter Try.func22, Try.ntmps22
  go_upto_region 1 with fail
  rw [HW1.out]
  clear HW1
  go_wp2
  go_ret
  exact ⟨rfl, HB1.out⟩
end Go.Proofs.Ytcadgjhfdolejaa
