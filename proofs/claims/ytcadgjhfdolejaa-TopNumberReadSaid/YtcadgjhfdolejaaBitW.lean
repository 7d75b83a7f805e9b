/-
  The walks of bitmap.Blank, Is and Mark. Own text.
-/
import Derived.Test.YtcadgjhfdolejaaBits
namespace Go.Proofs.Ytcadgjhfdolejaa
open Go.RowKit
set_option linter.unusedVariables false
/-- A call that only reads: it may draw. -/
def Quiet (v : Value) (w : World) (e : Ending) (w' : World) : Prop := e = .returned v ∧ ∃ n, w' = w.drewN n
theorem Quiet.below {v : Value} {w : World} {e : Ending} {w' : World} (h : Quiet v w e w') : e = .returned v ∧ Below w.heap.size w w' := by
  obtain ⟨h1, n, rfl⟩ := h
  exact ⟨h1, bdrewN (Below.refl _ _) _⟩
theorem quiet_of {P : Program} {f : FuncId} {args : Array Value} {w : World} {n : Nat} {v : Value} (h : Calls P f args (w.drewN n) (Quiet v (w.drewN n))) : Calls P f args (w.drewN n) fun e w'' => e = .returned v ∧ ∃ m, w'' = w.drewN m :=
  Calls.quiet_of h
/-- The three cells of a bitmap, and its bytes. -/
structure BitsAt (w : World) (g d c W H : Nat) (p : Plane) : Prop where
  c0 : w.cell? ⟨g, 0, none⟩ = some (.int .i64 W)
  c1 : w.cell? ⟨g, 1, none⟩ = some (.int .i64 H)
  c2 : w.cell? ⟨g, 2, none⟩ = some (.slice (some ⟨d, 0, none⟩) (strV W * H) c)
  dat : Dat w d W H p
theorem BitsAt.drewN {w : World} {g d c W H : Nat} {p : Plane} (h : BitsAt w g d c W H p) (n : Nat) : BitsAt (w.drewN n) g d c W H p := ⟨h.c0, h.c1, h.c2, h.dat.drewN n⟩
theorem BitsAt.below {w w' : World} {g d c W H : Nat} {p : Plane} (h : BitsAt w g d c W H p) (hb : Below w.heap.size w w') (h1 : 0 < W) (h2 : 0 < H) : BitsAt w' g d c W H p :=
  ⟨keepCell hb h.c0, keepCell hb h.c1, keepCell hb h.c2, h.dat.below hb (h.dat.lt h1 h2)⟩
set_option maxRecDepth 100000 in
set_option maxHeartbeats 2000000 in
theorem is_any (g d c W H : Nat) (p : Plane) (hW : W ≤ 1024) (hH : H ≤ 1024) (x y : Int) (w : World) (h : BitsAt w g d c W H p) :
    Calls Try.prog 21 #[.pointer (some ⟨g, 0, none⟩), .int .i64 x, .int .i64 y] w (Quiet (.bool (p x y)) w) := by
  obtain ⟨c0, c1, c2, hd⟩ := h
  have HO := Lib.hid hd.out
  by_cases h1 : x < 0
  · have h1' : decide (0 ≤ x) = false := decide_eq_false (by omega)
    go_enter Try.func21, Try.ntmps21
    go_wp2_with fail
    go_quiet (fail)
    go_wp2
    go_ret
    exact ⟨by rw [HO.out x y (by omega)]; rfl, _, rfl⟩
  have h1' : 0 ≤ x := by omega
  by_cases h2 : (W : Int) ≤ x
  · have h2' : decide (x < (W : Int)) = false := decide_eq_false (by omega)
    go_enter Try.func21, Try.ntmps21
    go_wp2_with fail
    go_quiet (fail)
    go_wp2
    go_ret
    exact ⟨by rw [HO.out x y (by omega)]; rfl, _, rfl⟩
  have h2' : x < (W : Int) := by omega
  by_cases h3 : y < 0
  · have h3' : decide (0 ≤ y) = false := decide_eq_false (by omega)
    go_enter Try.func21, Try.ntmps21
    go_wp2_with fail
    go_quiet (fail)
    go_wp2
    go_ret
    exact ⟨by rw [HO.out x y (by omega)]; rfl, _, rfl⟩
  have h3' : 0 ≤ y := by omega
  by_cases h4 : (H : Int) ≤ y
  · have h4' : decide (y < (H : Int)) = false := decide_eq_false (by omega)
    go_enter Try.func21, Try.ntmps21
    go_wp2_with fail
    go_quiet (fail)
    go_wp2
    go_ret
    exact ⟨by rw [HO.out x y (by omega)]; rfl, _, rfl⟩
  have h4' : y < (H : Int) := by omega
  obtain ⟨X, rfl⟩ : ∃ X : Nat, x = X := ⟨x.toNat, by omega⟩
  obtain ⟨Y, rfl⟩ : ∃ Y : Nat, y = Y := ⟨y.toNat, by omega⟩
  have hX : X < W := by omega
  have hY : Y < H := by omega
  obtain ⟨n, hn, hc, hb⟩ := hd.get hX hY
  obtain ⟨s, hs⟩ : ∃ s, s = strV W := ⟨_, rfl⟩
  have hsb := str_bd hW
  have hi := row_lt hY (str_in hX)
  rw [← hs] at hsb hc hi c2
  obtain ⟨m, hm⟩ : ∃ m, m = s * H := ⟨_, rfl⟩
  rw [← hm] at hi c2
  obtain ⟨q, hq⟩ : ∃ q, q = Y * s := ⟨_, rfl⟩
  rw [← hq] at hi hc
  have hqb : q ≤ 1024 * 128 := by rw [hq]; exact Nat.mul_le_mul (by omega) hsb
  have x1 : IntKind.i64.wrap ((Y : Int) * (s : Int)) = (q : Int) := by rw [hq, ← Int.natCast_mul]; exact IntWalk.i64_in _ (by rw [← hq]; omega)
  obtain ⟨k, hk⟩ : ∃ k, k = X / 8 := ⟨_, rfl⟩
  have hk2 : (X : Int) / 8 = (k : Int) := by omega
  rw [← hk] at hi hc
  obtain ⟨r, hr⟩ : ∃ r, r = X % 8 := ⟨_, rfl⟩
  have hr2 : (X : Int) % 8 = (r : Int) := by omega
  have hr8 : r < 8 := by omega
  rw [← hr] at hb
  have hbit := bit_and n hn r hr8
  rw [hb] at hbit
  have HST : Hid (∀ w, Calls Try.prog 35 #[.int .i64 W] w fun e w' => e = .returned (.int .i64 s) ∧ w = w') := fun w => by
    rw [hs]; exact stride_any W (by omega) w
  have x2 : IntKind.i64.wrap ((q : Int) + (k : Int)) = ((q + k : Nat) : Int) := by rw [Int.natCast_add]; exact IntWalk.i64_in _ (by omega)
  have HBT := Lib.hid hbit
  clear hbit hs hm hq hk hr hb HO hd
  go_enter Try.func21, Try.ntmps21
  go_wp2_with fail
  go_quiet ((go_at_call 35; exact quiet_eq (HST.out _)))
  go_wp2
  go_ret
  exact ⟨by rw [← HBT.out]; rfl, _, rfl⟩
/-- A bitmap of the call's own is returned. -/
def RetBits (W H : Nat) (p : Plane) (w : World) (e : Ending) (w' : World) : Prop :=
  ∃ d c, e = .returned (.agg #[.int .i64 W, .int .i64 H, .slice (some ⟨d, 0, none⟩) (strV W * H) c]) ∧ Dat w' d W H p ∧ w.heap.size ≤ d ∧ d < w'.heap.size ∧ strV W * H ≤ c ∧ Below w.heap.size w w'
theorem blankRes : Try.f15.results = #[.cell 4 29] := rfl
set_option maxHeartbeats 2000000 in
theorem blank_any (W H : Nat) (hW : W ≤ 1024) (hH : H ≤ 1024) (w : World) : Calls Try.prog 15 #[.int .i64 W, .int .i64 H] w (RetBits W H noneP w) := by
  obtain ⟨s, hs⟩ : ∃ s, s = strV W := ⟨_, rfl⟩
  have hsb := str_bd hW
  rw [← hs] at hsb
  obtain ⟨m, hm⟩ : ∃ m, m = s * H := ⟨_, rfl⟩
  have hmb : m ≤ 128 * 1024 := by rw [hm]; exact Nat.mul_le_mul hsb hH
  have x1 : IntKind.i64.wrap ((s : Int) * (H : Int)) = (m : Int) := by rw [hm, ← Int.natCast_mul]; exact IntWalk.i64_in _ (by rw [← hm]; omega)
  have HST : Hid (∀ w, Calls Try.prog 35 #[.int .i64 W] w fun e w' => e = .returned (.int .i64 s) ∧ w = w') := fun w => by
    rw [hs]; exact stride_any W (by omega) w
  have mk := run_makeArr (P := Try.prog) elemU8 Try.underlying27 (.int .u8 0) rfl m (by omega) (by omega)
  have HM : Hid (m = strV W * H) := by show _ = _; rw [hm, hs]
  obtain ⟨wa, hwa⟩ : ∃ wa, wa = w.alloc (.cells #[.int .i64 0, .int .i64 0, .slice none 0 0] 29) := ⟨_, rfl⟩
  have HWA : Hid (w.alloc (.cells #[.int .i64 0, .int .i64 0, .slice none 0 0] 29) = wa) := hwa.symm
  have HT : Hid (T3 wa w.heap.size (.int .i64 0) (.int .i64 0) (.slice none 0 0)) := by rw [hwa]; exact T3.new w _ _ _ _
  have HB : Hid (Below w.heap.size w wa ∧ w.heap.size < wa.heap.size) := by rw [hwa]; exact ⟨balloc (Below.refl _ w) _, by simp⟩
  clear hs hm hwa
  go_enter Try.func15, Try.ntmps15
  go_upto_region 1 with fail
  rw [HWA.out]
  clear HWA
  go_wp2_with fail
  refine (HST.out wa).mono ?_
  rintro e w2 ⟨rfl, rfl⟩
  obtain ⟨W3, hW3⟩ : ∃ W3, W3 = wa.alloc (.cells (madeArr (.int .u8 0) m) 5) := ⟨_, rfl⟩
  have h3 : T3 W3 w.heap.size (.int .i64 0) (.int .i64 0) (.slice none 0 0) := by rw [hW3]; exact HT.out.below (balloc (Below.refl _ _) _)
  have hd : Dat W3 wa.heap.size W H noneP := by rw [hW3, HM.out]; exact Dat.made wa W H _
  have hb3 : Below w.heap.size w W3 := by rw [hW3]; exact balloc HB.out.1 _
  have hz3 : wa.heap.size < W3.heap.size := by rw [hW3]; simp
  have mk2 : (Instr.makeSlice 27 (.int .i64 m) (.int .i64 m)).run Try.prog wa = .ok (.slice (some ⟨wa.heap.size, 0, none⟩) m m) W3 := by rw [hW3]; exact mk wa
  obtain ⟨hT9, hO9⟩ := res_set (x := .int .i64 W) (y := .int .i64 H) (z := .slice (some ⟨wa.heap.size, 0, none⟩) m m) h3
  have HF : Hid (RetBits W H noneP w (.returned (.agg #[.int .i64 W, .int .i64 H, .slice (some ⟨wa.heap.size, 0, none⟩) m m])) (resW W3 w.heap.size (.int .i64 W) (.int .i64 H) (.slice (some ⟨wa.heap.size, 0, none⟩) m m))) := by
    refine ⟨wa.heap.size, m, by rw [← HM.out], hd.heap (hO9.hp _ (by have := HB.out.2; omega)), by have := HB.out.2; omega, by rw [hO9.sz]; exact hz3, by rw [← HM.out]; exact Nat.le_refl _, hO9.bel hb3 (Nat.le_refl _)⟩
  have r0 := h3.c0
  have r1 := h3.c1
  have r2 := h3.c2
  have rf := h3.fr
  have HT9 := Lib.hid hT9
  clear hT9 hO9 hd hb3 hz3 h3 hW3 mk
  dsimp only
  repeat (first | go_values | go_skip | go_guarded | go_step | go_upon)
  obtain ⟨W9, hW9⟩ : ∃ W9, W9 = resW W3 w.heap.size (.int .i64 W) (.int .i64 H) (.slice (some ⟨wa.heap.size, 0, none⟩) m m) := ⟨_, rfl⟩
  rw [← hW9] at HF HT9
  unfold resW at hW9
  rw [← hW9]
  have e0 := HT9.out.c0
  have e1 := HT9.out.c1
  have e2 := HT9.out.c2
  clear hW9
  refine bodyPost_ret (v := .agg #[.int .i64 W, .int .i64 H, .slice (some ⟨wa.heap.size, 0, none⟩) m m]) (by simp only [results, blankRes]; go_simp) rfl ?_
  exact HF.out
/-- A bit is set in the bitmap itself. -/
def RetMark (g d c W H : Nat) (p : Plane) (w : World) (e : Ending) (w' : World) : Prop := e = .returned (.tuple #[]) ∧ BitsAt w' g d c W H p ∧ Only d w w'
theorem cell_ne {w : World} {g d o o' : Nat} {v : Value} (h : g ≠ d) : (w.setCell ⟨d, o', none⟩ v).cell? ⟨g, o, none⟩ = w.cell? ⟨g, o, none⟩ :=
  World.cell?_of_block (w := w) (a := ⟨g, o, none⟩) (Below.heap_setCell _ _ _ _ h)
theorem Dat.fz {w : World} {d W H : Nat} {p : Plane} (h : Dat w d W H p) (o : Nat) : w.frozen? ⟨d, o, none⟩ = false := by
  obtain ⟨t, h1, -⟩ := h
  exact h1.fz o
set_option maxRecDepth 100000 in
set_option maxHeartbeats 2000000 in
theorem mark_any (g d c W H : Nat) (p : Plane) (hW : W ≤ 1024) (hH : H ≤ 1024) (hgd : g ≠ d) (X Y : Nat) (hX : X < W) (hY : Y < H) (w : World) (h : BitsAt w g d c W H p) :
    Calls Try.prog 16 #[.pointer (some ⟨g, 0, none⟩), .int .i64 X, .int .i64 Y] w (RetMark g d c W H (markP p X Y) w) := by
  obtain ⟨c0, c1, c2, hd⟩ := h
  obtain ⟨n, hn, hc, -⟩ := hd.get hX hY
  have hm1 := (hd.mark hX hY (n := n) hc).drew
  have HM1 := Lib.hid hm1
  have hfz := hd.drew.fz
  have HC : Hid (w.cell? ⟨g, 0, none⟩ = some (.int .i64 W) ∧ w.cell? ⟨g, 1, none⟩ = some (.int .i64 H) ∧ w.cell? ⟨g, 2, none⟩ = some (.slice (some ⟨d, 0, none⟩) (strV W * H) c)) := ⟨c0, c1, c2⟩
  clear hm1
  obtain ⟨s, hs⟩ : ∃ s, s = strV W := ⟨_, rfl⟩
  have hsb := str_bd hW
  have hi := row_lt hY (str_in hX)
  rw [← hs] at hsb hc hi c2 HM1 HC
  obtain ⟨m, hm⟩ : ∃ m, m = s * H := ⟨_, rfl⟩
  rw [← hm] at hi c2 HC
  obtain ⟨q, hq⟩ : ∃ q, q = Y * s := ⟨_, rfl⟩
  rw [← hq] at hi hc HM1
  have hqb : q ≤ 1024 * 128 := by rw [hq]; exact Nat.mul_le_mul (by omega) hsb
  have x1 : IntKind.i64.wrap ((Y : Int) * (s : Int)) = (q : Int) := by rw [hq, ← Int.natCast_mul]; exact IntWalk.i64_in _ (by rw [← hq]; omega)
  obtain ⟨k, hk⟩ : ∃ k, k = X / 8 := ⟨_, rfl⟩
  have hk2 : (X : Int) / 8 = (k : Int) := by omega
  rw [← hk] at hi hc HM1
  obtain ⟨r, hr⟩ : ∃ r, r = X % 8 := ⟨_, rfl⟩
  have hr2 : (X : Int) % 8 = (r : Int) := by omega
  have hr8 : r < 8 := by omega
  have hr3 : (X : Int).tmod 8 = (r : Int) := by rw [Int.tmod_eq_emod_of_nonneg (by omega)]; exact hr2
  rw [← hr] at HM1
  have hor := bit_or n hn r hr8
  have HST : Hid (∀ w, Calls Try.prog 35 #[.int .i64 W] w fun e w' => e = .returned (.int .i64 s) ∧ w' = w) := fun w => by
    rw [hs]; exact (stride_any W (by omega) w).mono fun e w' ⟨h1, h2⟩ => ⟨h1, h2.symm⟩
  obtain ⟨j, hj⟩ : ∃ j, j = q + k := ⟨_, rfl⟩
  rw [← hj] at hi hc HM1
  have x2 : IntKind.i64.wrap ((q : Int) + (k : Int)) = (j : Int) := by rw [hj, Int.natCast_add]; exact IntWalk.i64_in _ (by omega)
  have x3 : IntKind.i64.wrap (k : Int) = (k : Int) := IntWalk.i64_in _ (by omega)
  have HS : Hid (m = strV W * H) := by show _ = _; rw [hm, hs]
  have hcd : w.drew.cell? ⟨d, j, none⟩ = some (.int .u8 (n : Int)) := hc
  clear hs hm hq hk hr hd hj
  go_enter Try.func16, Try.ntmps16
  refine wp_region_still_tail 21 (by kernel_rfl) (by kernel_rfl) ?_
  simp only [List.take_succ_cons, List.take_zero, List.drop_succ_cons, List.drop_zero]
  repeat (first | still_step | (refine wpStill_step (fun K hK => ?_); go_simp; (with_reducible refine ⟨_, HST.out _, hK _ ?_⟩); clear hK K))
  refine wpStill_nil ?_
  change wpList _ _ _ _ _ w.drew
  go_wp2_with fail
  go_end0
  obtain ⟨e0, e1, e2⟩ := HC.out
  rw [HS.out] at e2
  exact ⟨rfl, ⟨(cell_ne hgd).trans e0, (cell_ne hgd).trans e1, (cell_ne hgd).trans e2, HM1.out⟩, (Only.set w d j _).drew⟩
end Go.Proofs.Ytcadgjhfdolejaa
