/-
  The walk of sheet.Ink, ink 0. Own text.
-/
import Derived.Test.YtcadgjhfdolejaaPrint
namespace Go.Proofs.Ytcadgjhfdolejaa
open Go.RowKit
set_option linter.unusedVariables false
/-- The bits of the first k places. -/
def inkP (W H : Nat) (q : Plane) (k : Nat) : Plane := fun x y => insideV W H x y && decide (y * W + x < k) && q x y
theorem inkP_zero (W H : Nat) (q : Plane) : inkP W H q 0 = noneP := by
  funext x y
  refine bool_ext ⟨fun h => ?_, fun h => by cases h⟩
  simp only [inkP, insideV, Bool.and_eq_true, decide_eq_true_eq] at h
  have : 0 ≤ y * (W : Int) := Int.mul_nonneg h.1.1.2.2.1 (by omega)
  omega
theorem inkP_all (W H : Nat) (q : Plane) : inkP W H q (W * H) = cutP W H q := by
  funext x y
  refine bool_ext ?_
  simp only [inkP, cutP, insideV, Bool.and_eq_true, decide_eq_true_eq]
  constructor
  · rintro ⟨⟨h1, h2⟩, h3⟩
    exact ⟨h1, h3⟩
  · rintro ⟨h1, h3⟩
    refine ⟨⟨h1, ?_⟩, h3⟩
    have h4 : (y + 1) * (W : Int) ≤ (H : Int) * W := Int.mul_le_mul_of_nonneg_right (by omega) (by omega)
    rw [Int.add_mul, Int.one_mul, Int.mul_comm (H : Int)] at h4
    rw [Int.natCast_mul]
    omega
theorem place_eq {W : Nat} (hW : 0 < W) (k : Nat) : ((k / W : Nat) : Int) * (W : Int) + ((k % W : Nat) : Int) = (k : Int) := by
  rw [← Int.natCast_mul, ← Int.natCast_add, Nat.mul_comm, Nat.div_add_mod]
theorem place_one {W : Nat} (hW : 0 < W) {k : Nat} {x y : Int} (h0 : 0 ≤ x) (h1 : x < W) (h2 : 0 ≤ y) (h : y * W + x = k) : x = ((k % W : Nat) : Int) ∧ y = ((k / W : Nat) : Int) := by
  obtain ⟨X, rfl⟩ : ∃ X : Nat, x = X := ⟨x.toNat, by omega⟩
  obtain ⟨Y, rfl⟩ : ∃ Y : Nat, y = Y := ⟨y.toNat, by omega⟩
  have e : k = Y * W + X := by
    have h3 : ((Y * W + X : Nat) : Int) = (k : Int) := by rw [Int.natCast_add, Int.natCast_mul]; exact h
    omega
  obtain ⟨e1, e2⟩ := place_mod (W := W) (x := X) (y := Y) (by omega)
  rw [e, e1, e2]
  exact ⟨rfl, rfl⟩
theorem inkP_no {W H k : Nat} {q : Plane} (hW : 0 < W) (hq : q ((k % W : Nat) : Int) ((k / W : Nat) : Int) = false) : inkP W H q (k + 1) = inkP W H q k := by
  funext x y
  refine bool_ext ?_
  simp only [inkP, insideV, Bool.and_eq_true, decide_eq_true_eq]
  constructor
  · rintro ⟨⟨h1, h2⟩, h3⟩
    refine ⟨⟨h1, ?_⟩, h3⟩
    by_cases e : y * W + x = k
    · obtain ⟨rfl, rfl⟩ := place_one hW h1.1 h1.2.1 h1.2.2.1 e
      rw [hq] at h3; cases h3
    · omega
  · rintro ⟨⟨h1, h2⟩, h3⟩
    exact ⟨⟨h1, by omega⟩, h3⟩
theorem inkP_yes {W H k : Nat} {q : Plane} (hW : 0 < W) (hk : k < W * H) (hq : q ((k % W : Nat) : Int) ((k / W : Nat) : Int) = true) : inkP W H q (k + 1) = markP (inkP W H q k) ((k % W : Nat) : Int) ((k / W : Nat) : Int) := by
  funext x y
  refine bool_ext ?_
  have h8 := place_eq hW k
  have h9 : k % W < W := Nat.mod_lt _ hW
  have h10 : k / W < H := (Nat.div_lt_iff_lt_mul hW).2 (by rw [Nat.mul_comm]; exact hk)
  have hp : ∀ {x y : Int}, 0 ≤ x → x < W → 0 ≤ y → y * W + x = k → x = ((k % W : Nat) : Int) ∧ y = ((k / W : Nat) : Int) := fun h0 h1 h2 h => place_one hW h0 h1 h2 h
  generalize k % W = X at *
  generalize k / W = Y at *
  simp only [inkP, markP, insideV, Bool.and_eq_true, Bool.or_eq_true, decide_eq_true_eq]
  constructor
  · rintro ⟨⟨h1, h2⟩, h3⟩
    by_cases e : y * W + x = k
    · obtain ⟨e1, e2⟩ := hp h1.1 h1.2.1 h1.2.2.1 e
      exact .inr ⟨e1, e2⟩
    · exact .inl ⟨⟨h1, by omega⟩, h3⟩
  · rintro (⟨⟨h1, h2⟩, h3⟩ | ⟨h1, h2⟩)
    · exact ⟨⟨h1, by omega⟩, h3⟩
    · subst h1 h2
      exact ⟨⟨by omega, by omega⟩, hq⟩
theorem inkRes : Try.f10.results = #[.cell 4 29, .tmp 5] := rfl
theorem and_one : bits .and .u8 1 1 = 1 := by decide +kernel
theorem and_zero : bits .and .u8 0 1 = 0 := by decide +kernel
set_option maxRecDepth 100000 in
set_option maxHeartbeats 8000000 in
theorem ink_any (d c W H : Nat) (q : Plane) (hW : 1 ≤ W ∧ W ≤ 1024) (hH : 1 ≤ H ∧ H ≤ 1024) (w : World) (hd : FTab encB w d (W * H) (mskT q W (W * H))) :
    Calls Try.prog 10 #[.agg #[.int .i64 W, .int .i64 H, .slice (some ⟨d, 0, none⟩) (W * H) c], .int .i64 0] w (RetBits0 W H (cutP W H q) w) := by
  have hdl : d < w.heap.size := hd.lt (Nat.mul_pos (by omega) (by omega))
  obtain ⟨n, hn⟩ : ∃ n, n = W * H := ⟨_, rfl⟩
  have hnb : n ≤ 1024 * 1024 := by rw [hn]; exact Nat.mul_le_mul hW.2 hH.2
  obtain ⟨wa, hwa⟩ : ∃ wa, wa = (w.alloc (.cells #[.int .i64 W, .int .i64 H, .slice (some ⟨d, 0, none⟩) n c] 40)).alloc (.cells #[.int .i64 0, .int .i64 0, .slice none 0 0] 29) := ⟨_, rfl⟩
  have HWA : Hid ((w.alloc (.cells #[.int .i64 W, .int .i64 H, .slice (some ⟨d, 0, none⟩) n c] 40)).alloc (.cells #[.int .i64 0, .int .i64 0, .slice none 0 0] 29) = wa) := hwa.symm
  have hba : Below w.heap.size w wa := by rw [hwa]; exact balloc (balloc (Below.refl _ w) _) _
  have hza : wa.heap.size = w.heap.size + 2 := by rw [hwa]; simp
  have hta : T3 wa w.heap.size (.int .i64 W) (.int .i64 H) (.slice (some ⟨d, 0, none⟩) n c) := by rw [hwa]; exact (T3.new w _ _ _ _).below (balloc (Below.refl _ _) _)
  have htr : T3 wa (w.heap.size + 1) (.int .i64 0) (.int .i64 0) (.slice none 0 0) := by
    have h := T3.new (w.alloc (.cells #[.int .i64 W, .int .i64 H, .slice (some ⟨d, 0, none⟩) n c] 40)) (.int .i64 0) (.int .i64 0) (.slice none 0 0) 29
    rw [World.size_alloc] at h
    rw [hwa]; exact h
  have HCK : Hid (Calls Try.prog 22 #[.agg #[.int .i64 W, .int .i64 H, .slice (some ⟨d, 0, none⟩) n c]] wa fun e w' => e = .returned (.int .i64 0) ∧ Below wa.heap.size wa w') := mcheck_any d c W H n hW hH hn wa
  have HBL : Hid (∀ W', Calls Try.prog 15 #[.int .i64 W, .int .i64 H] W' (RetBits W H noneP W')) := fun W' => blank_any W H hW.2 hH.2 W'
  have a0 := hta.c0
  have a1 := hta.c1
  have a2 := hta.c2
  have HBA := Lib.hid hba
  have HTA : Hid (T3 wa w.heap.size (.int .i64 W) (.int .i64 H) (.slice (some ⟨d, 0, none⟩) n c) ∧ T3 wa (w.heap.size + 1) (.int .i64 0) (.int .i64 0) (.slice none 0 0) ∧ wa.heap.size = w.heap.size + 2) := ⟨hta, htr, hza⟩
  have HD := Lib.hid hd
  have HN := Lib.hid hn
  have HDL := Lib.hid hdl
  obtain ⟨m, hm⟩ : ∃ m, m = strV W * H := ⟨_, rfl⟩
  have HM : Hid (strV W * H = m) := hm.symm
  obtain ⟨hW0, hW2⟩ := hW
  obtain ⟨hH0, hH2⟩ := hH
  rw [← hn]
  clear hwa hba hza hta htr hd hn hm hdl
  go_enter Try.func10, Try.ntmps10
  go_upto_region 1 with fail
  rw [HWA.out]
  clear HWA
  go_wp2_with fail
  refine HCK.out.mono ?_
  rintro e w2 ⟨rfl, hb2⟩
  have HT2 : Hid (T3 w2 w.heap.size (.int .i64 W) (.int .i64 H) (.slice (some ⟨d, 0, none⟩) n c) ∧ T3 w2 (w.heap.size + 1) (.int .i64 0) (.int .i64 0) (.slice none 0 0) ∧ w.heap.size + 2 ≤ w2.heap.size) := ⟨HTA.out.1.below hb2, HTA.out.2.1.below hb2, by have := HTA.out.2.2; have := hb2.size; omega⟩
  have HB2 : Hid (Below w.heap.size w w2) := bthen HBA.out hb2
  have HBL2 := Lib.hid (HBL.out w2)
  have a0 := HT2.out.1.c0
  have a1 := HT2.out.1.c1
  clear HTA HBA HCK hb2 a2 HBL
  go_wp2_with fail
  refine HBL2.out.mono ?_
  intro e w3 hret
  obtain ⟨d2, c2, rfl, hd2, l1, l2, l3, hb3⟩ := hret
  obtain ⟨W4, hW4⟩ : ∃ W4, W4 = w3.alloc (.cells #[.int .i64 W, .int .i64 H, .slice (some ⟨d2, 0, none⟩) m c2] 29) := ⟨_, rfl⟩
  have hb4 : Below w3.heap.size w3 W4 := by rw [hW4]; exact balloc (Below.refl _ _) _
  have hz4 : w3.heap.size < W4.heap.size := by rw [hW4]; simp
  have HU : Hid (GnU w (w.heap.size + 1) w3.heap.size d2 c2 W H W4 (inkP W H q 0) ∧ T3 W4 w.heap.size (.int .i64 W) (.int .i64 H) (.slice (some ⟨d, 0, none⟩) n c)) := by
    have h1 := HT2.out
    have h2 := hb3.size
    refine ⟨⟨bthen HB2.out (bthen hb3 hb4), by rw [hW4, HM.out]; exact T3.new w3 _ _ _ _, (h1.2.1.below hb3).below hb4, by rw [inkP_zero]; exact hd2.below hb4 l2, by omega, by omega, by omega, hz4, by omega, by omega, by omega, by omega, by omega, l3⟩, (h1.1.below hb3).below hb4⟩
  have HNE : Hid (w.heap.size ≠ d2) := by have := HT2.out.2.2; show _ ≠ _; omega
  rw [HM.out]
  have HW4 : Hid (w3.alloc (.cells #[.int .i64 W, .int .i64 H, .slice (some ⟨d2, 0, none⟩) m c2] 29) = W4) := hW4.symm
  obtain ⟨g, hg⟩ : ∃ g, g = w3.heap.size := ⟨_, rfl⟩
  rw [← hg] at HU
  have HG := Lib.hid hg
  have a2 := HU.out.2.c2
  clear hW4 hd2 l1 l2 l3 hb3 hb4 hz4 HT2 HB2 HBL2 hg a0 a1
  dsimp only
  go_upto_region 7 with fail
  rw [HW4.out, ← HG.out]
  clear HW4
  go_wp2_with fail
  go_loopw [31] (fun i wr => ∃ k : Nat, k ≤ n ∧ i = .int .i64 k ∧ Hid (GnU w (w.heap.size + 1) g d2 c2 W H wr (inkP W H q k) ∧ T3 wr w.heap.size (.int .i64 W) (.int .i64 H) (.slice (some ⟨d, 0, none⟩) n c))) (fun i _ => n - (intOf i).toNat)
  case atStart => exact ⟨0, by omega, rfl, HU⟩
  case round =>
    clear HU a2
    obtain ⟨k, hk, rfl, HX⟩ := hrel
    obtain ⟨wb, rfl⟩ : ∃ wb : World, wb = wr := ⟨_, rfl⟩
    by_cases hlt : k < n
    · have kd : (k : Int) < (n : Int) := by omega
      have hcd := (HD.out.below HX.out.1.bel HDL.out).at' k (by rw [← HN.out]; exact hlt)
      have hmk : mskT q W (W * H) k = if q ((k % W : Nat) : Int) ((k / W : Nat) : Int) = true then 1 else 0 := by
        unfold mskT
        rw [decide_eq_true (by rw [← HN.out]; exact hlt), Bool.true_and]
      rw [hmk] at hcd
      obtain ⟨x, hx⟩ : ∃ x, x = k % W := ⟨_, rfl⟩
      obtain ⟨y, hy⟩ : ∃ y, y = k / W := ⟨_, rfl⟩
      have hxW : x < W := by rw [hx]; exact Nat.mod_lt _ (by omega)
      have hyH : y < H := by rw [hy]; exact (Nat.div_lt_iff_lt_mul (by omega)).2 (by rw [Nat.mul_comm, ← HN.out]; exact hlt)
      have hno : q x y = false → inkP W H q (k + 1) = inkP W H q k := fun h => inkP_no (by omega) (by rw [← hx, ← hy]; exact h)
      have hyes : q x y = true → inkP W H q (k + 1) = markP (inkP W H q k) x y := fun h => by rw [inkP_yes (by omega) (by rw [← HN.out]; exact hlt) (by rw [← hx, ← hy]; exact h), ← hx, ← hy]
      rw [← hx, ← hy] at hcd
      have kx : (k : Int) % (W : Int) = (x : Int) := by rw [hx]; rfl
      have ky : (k : Int) / (W : Int) = (y : Int) := by rw [hy]; rfl
      have kx' : (k : Int).tmod (W : Int) = (x : Int) := by rw [Int.tmod_eq_emod_of_nonneg (by omega)]; exact kx
      have ky' : (k : Int).tdiv (W : Int) = (y : Int) := by rw [Int.tdiv_eq_ediv_of_nonneg (by omega)]; exact ky
      have kw : IntKind.i64.wrap (y : Int) = (y : Int) := IntWalk.i64_in _ (by omega)
      have kk : IntKind.i64.wrap ((k : Int) + 1) = (k : Int) + 1 := IntWalk.i64_in _ (by omega)
      have nW : ¬ (W : Int) = 0 := by omega
      have nW2 : ¬ W = 0 := by omega
      have nW3 : ((W : Int) == 0) = false := by rw [beq_eq_false_iff_ne]; omega
      have HNO := Lib.hid hno
      have HYES := Lib.hid hyes
      clear hx hy hmk hno hyes
      have o1 := and_one
      have o2 := and_zero
      obtain ⟨b, hb⟩ : ∃ b, b = q x y := ⟨_, rfl⟩
      rw [← hb] at hcd
      have HBB := Lib.hid hb
      clear hb
      cases b with
      | false =>
        have hcd2 : wb.cell? ⟨d, k, none⟩ = some (.int .u8 0) := hcd
        have HNX : Hid (GnU w (w.heap.size + 1) g d2 c2 W H wb (inkP W H q (k + 1)) ∧ T3 wb w.heap.size (.int .i64 W) (.int .i64 H) (.slice (some ⟨d, 0, none⟩) n c)) := ⟨by rw [HNO.out HBB.out.symm]; exact HX.out.1, HX.out.2⟩
        clear hcd HX
        go_wp2_with fail
        go_roundw
        case rel => exact ⟨k + 1, by omega, by go_num, HNX⟩
        case measure => simp [intOf]; omega
      | true =>
        have hcd2 : wb.cell? ⟨d, k, none⟩ = some (.int .u8 1) := hcd
        have HMK : Hid (Calls Try.prog 16 #[.pointer (some ⟨g, 0, none⟩), .int .i64 x, .int .i64 y] wb.drew (RetMark g d2 c2 W H (markP (inkP W H q k) x y) wb.drew)) :=
          mark_any g d2 c2 W H _ hW2 hH2 (fun e => HX.out.1.lt.2.2.2.2.2.2.2.2.1 e.symm) x y hxW hyH _ (HX.out.1.below (bdrewN (Below.refl _ _) 1)).at'
        have z0 := HX.out.2.c0
        clear hcd
        go_upto_region 11 with fail
        refine wp_region_still_tail 8 (by kernel_rfl) (by kernel_rfl) ?_
        simp only [List.take_succ_cons, List.take_zero, List.drop_succ_cons, List.drop_zero]
        repeat still_step
        refine wpStill_nil ?_
        change wpList _ _ _ _ _ wb.drew
        go_wp2_with fail
        refine HMK.out.mono ?_
        rintro e w8 ⟨rfl, hb8, ho8⟩
        have HNX : Hid (GnU w (w.heap.size + 1) g d2 c2 W H w8 (inkP W H q (k + 1)) ∧ T3 w8 w.heap.size (.int .i64 W) (.int .i64 H) (.slice (some ⟨d, 0, none⟩) n c)) :=
          ⟨by rw [HYES.out HBB.out.symm]; exact (HX.out.1.below (bdrewN (Below.refl _ _) 1)).mark hb8 ho8, HX.out.2.drew.heap (ho8.hp _ HNE.out)⟩
        clear HX HMK hb8 ho8 z0 hcd2
        go_wp2_with fail
        go_roundw
        case rel => exact ⟨k + 1, by omega, by go_num, HNX⟩
        case measure => simp [intOf]; omega
    · obtain rfl : n = k := by omega
      have hx := HX.out.1
      obtain ⟨l1, l2, l3, l4, l5, l6, l7, l8, l9, l10⟩ := hx.lt
      have z0 := hx.tab.c0
      have z1 := hx.tab.c1
      have z2 := hx.tab.c2
      have r0 := hx.res.c0
      have r1 := hx.res.c1
      have r2 := hx.res.c2
      have rf := hx.res.fr
      obtain ⟨hT9, hO9⟩ := res_set (x := .int .i64 W) (y := .int .i64 H) (z := .slice (some ⟨d2, 0, none⟩) m c2) hx.res
      have HF : Hid (RetBits0 W H (cutP W H q) w (.returned (.tuple #[.agg #[.int .i64 W, .int .i64 H, .slice (some ⟨d2, 0, none⟩) m c2], .int .i64 0])) (resW wb (w.heap.size + 1) (.int .i64 W) (.int .i64 H) (.slice (some ⟨d2, 0, none⟩) m c2))) := by
        rw [← inkP_all, ← HN.out]
        exact ⟨d2, c2, by rw [HM.out], hx.dat.heap (hO9.hp d2 l8), l5, by rw [hO9.sz]; exact l6, l10, hO9.bel hx.bel l1⟩
      rw [HM.out] at z2
      have HT9 := Lib.hid hT9
      clear hx HX hT9 hO9 HM hk hlt l1 l2 l3 l4 l5 l6 l7 l8 l9 l10 HD HN
      repeat (first | go_values | go_skip | go_guarded | go_step | go_upon)
      obtain ⟨W9, hW9⟩ : ∃ W9, W9 = resW wb (w.heap.size + 1) (.int .i64 W) (.int .i64 H) (.slice (some ⟨d2, 0, none⟩) m c2) := ⟨_, rfl⟩
      rw [← hW9] at HF HT9
      unfold resW at hW9
      rw [← hW9]
      have e0 := HT9.out.c0
      have e1 := HT9.out.c1
      have e2 := HT9.out.c2
      clear hW9
      refine bodyPost_ret (v := .tuple #[.agg #[.int .i64 W, .int .i64 H, .slice (some ⟨d2, 0, none⟩) m c2], .int .i64 0]) (by simp only [results, inkRes]; go_simp) rfl ?_
      exact HF.out
end Go.Proofs.Ytcadgjhfdolejaa
