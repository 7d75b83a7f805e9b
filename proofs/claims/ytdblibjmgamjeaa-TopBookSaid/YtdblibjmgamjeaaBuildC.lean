/-
  The walk of raster's build with the closure printworks/raster.Make[uint8]$1. Printed by gen_build.py. The walk of raster's build with the closure (printworks/raster.Grid[uint8]).Turn$1. Printed by gen_build.py. The walk of raster's build with the closure (printworks/raster.Grid[uint8]).Turn$2. Printed by gen_build.py. The walk of raster's build with the closure (printworks/raster.Grid[uint8]).Turn$3. Printed by gen_build.py. The walk of raster's build with the closure (printworks/raster.Grid[uint8]).Crop$1. Printed by gen_build.py. Own text.
-/
import Derived.Test.YtdblibjmgamjeaaBuild
namespace Go.Proofs.Ytdblibjmgamjeaa
open Go.RowKit
set_option linter.unusedVariables false
set_option maxRecDepth 100000 in
set_option maxHeartbeats 16000000 in
theorem buildM_any (m : Img) (hm : Sized m) (q1 : Nat) (w : World)
    (hat : ∀ (W : World) (x y : Nat), x < m.W → y < m.H → Below w.heap.size w W → Calls Try.prog 46 #[.int .i64 x, .int .i64 y, .pointer (some ⟨q1, 0, none⟩)] W (fun e w' => e = .returned (.int .u8 (m.px x y)) ∧ Below W.heap.size W w')) :
    Calls Try.prog 45 #[.int .i64 m.W, .int .i64 m.H, .func (.func 46) #[] #[.pointer (some ⟨q1, 0, none⟩)]] w (RetGrid m w) := by
  have hA := sized_area hm
  obtain ⟨hW1, hW2, hH1, hH2⟩ := hm
  obtain ⟨W, hWW⟩ : ∃ W, W = m.W := ⟨_, rfl⟩
  obtain ⟨H, hHH⟩ : ∃ H, H = m.H := ⟨_, rfl⟩
  obtain ⟨N, hN⟩ : ∃ N, N = W * H := ⟨_, rfl⟩
  have HAT : Hid (∀ (Wd : World) (x y : Nat), x < W → y < H → Below w.heap.size w Wd → Calls Try.prog 46 #[.int .i64 x, .int .i64 y, .pointer (some ⟨q1, 0, none⟩)] Wd (fun e w' => e = .returned (.int .u8 (m.px x y)) ∧ Below Wd.heap.size Wd w')) := by rw [hWW, hHH]; exact hat
  have HLI : Hid (listI m = pixN W m.px N) := by show listI m = _; rw [hN, hWW, hHH]; rfl
  rw [← hWW, ← hHH, ← hN] at hA
  have HM : Hid (W = m.W ∧ H = m.H) := ⟨hWW, hHH⟩
  rw [← hWW] at hW1 hW2
  rw [← hHH] at hH1 hH2
  rw [← hWW, ← hHH]
  have x1 : IntKind.i64.wrap ((W : Int) * (H : Int)) = (N : Int) := by rw [← Int.natCast_mul, ← hN]; exact IntWalk.i64_in _ (by omega)
  have HN := Lib.hid hN
  have mk := run_make0 N (by omega)
  clear hat hWW hHH hN
  obtain ⟨W3, hW3⟩ : ∃ W3, W3 = ((w.alloc (.cells #[.int .i64 0, .int .i64 0, .slice none 0 0] 74)).alloc (.cells (madeP N) 5)).alloc (.cells #[.int .i64 W, .int .i64 H, .slice (some ⟨w.heap.size + 1, 0, none⟩) 0 N] 74) := ⟨_, rfl⟩
  have HGU : Hid (GrU w (w.heap.size + 1 + 1) w.heap.size W3 (.int .i64 W) (.int .i64 H) (.slice (some ⟨w.heap.size + 1, 0, none⟩) 0 N) (pixN W m.px 0)) := by
    have t6 := outF_new w (.int .i64 0) (.int .i64 0) (.slice none 0 0) 74
    have o5 := World.ownsRow_made (base := w.heap.size) (e := 5) (size := 1) (w.alloc (.cells #[.int .i64 0, .int .i64 0, .slice none 0 0] 74)) (madeP N) N (by simp) (by unfold maxLen; omega) (madeP_size N)
    have t7 := outF_new ((w.alloc (.cells #[.int .i64 0, .int .i64 0, .slice none 0 0] 74)).alloc (.cells (madeP N) 5)) (.int .i64 W) (.int .i64 H) (.slice (some ⟨w.heap.size + 1, 0, none⟩) 0 N) 74
    simp only [World.size_alloc] at o5 t7
    rw [← hW3] at t7
    have hz : W3.heap.size = w.heap.size + 1 + 1 + 1 := by rw [hW3]; simp
    refine ⟨by rw [hW3]; exact (((Below.refl _ w).alloc (Nat.le_refl _) _).alloc (by simp) _).alloc (by simp; omega) _, t7, ?_, ?_, ⟨fun e => by simp [Value.ownBlock] at e, fun e => by simp [Value.ownBlock] at e⟩, by omega, by omega, by omega, Nat.le_refl _, by omega⟩
    · rw [hW3]; exact (t6.alloc (by simp) _).alloc (by simp; omega) _
    · rw [hW3]; exact World.ownsRow.alloc o5 _
  have HW3 : Hid (((w.alloc (.cells #[.int .i64 0, .int .i64 0, .slice none 0 0] 74)).alloc (.cells (madeP N) 5)).alloc (.cells #[.int .i64 W, .int .i64 H, .slice (some ⟨w.heap.size + 1, 0, none⟩) 0 N] 74) = W3) := hW3.symm
  clear hW3
  go_enter Try.func45, Try.ntmps45
  go_upto_region 2 with fail
  rw [HW3.out]
  obtain ⟨g, hg⟩ : ∃ g, g = w.heap.size + 1 + 1 := ⟨_, rfl⟩
  rw [← hg]
  rw [← hg] at HGU
  have HG := Lib.hid hg
  clear HW3 hg x1 mk
  go_wp2_with fail
  go_loopw [18] (fun i wr => ∃ y : Nat, y ≤ H ∧ i = .int .i64 y ∧ Hid (∃ v, GrU w g w.heap.size wr (.int .i64 W) (.int .i64 H) v (pixN W m.px (y * W)))) (fun i _ => H - (intOf i).toNat)
  case atStart => exact ⟨0, by omega, rfl, _, by rw [Nat.zero_mul]; exact HGU.out⟩
  case round =>
    clear HGU
    obtain ⟨y, hy, rfl, HX⟩ := hrel
    obtain ⟨wa, rfl⟩ : ∃ wa : World, wa = wr := ⟨_, rfl⟩
    by_cases hlt : y < H
    · have kd : (y : Int) < (H : Int) := by omega
      go_wp2_with fail
      go_loopw [22] (fun j wr => ∃ x : Nat, x ≤ W ∧ j = .int .i64 x ∧ Hid (∃ v, GrU w g w.heap.size wr (.int .i64 W) (.int .i64 H) v (pixN W m.px (y * W + x)))) (fun j _ => W - (intOf j).toNat)
      case atStart => exact ⟨0, by omega, rfl, HX.out⟩
      case round =>
        clear HX
        obtain ⟨x, hx, rfl, HY⟩ := hrel
        obtain ⟨wb, rfl⟩ : ∃ wb : World, wb = wr := ⟨_, rfl⟩
        by_cases hct : x < W
        · have cd : (x : Int) < (W : Int) := by omega
          obtain ⟨v, hv⟩ := HY.out
          have HU := Lib.hid hv
          obtain ⟨ov, kv, hvs, -⟩ := hv.op.isSlc
          obtain ⟨n, hn⟩ : ∃ n, n = (pixN W m.px (y * W + x)).length := ⟨_, rfl⟩
          rw [← hn] at hvs
          subst hvs
          have hnn : n ≤ 1048576 := by
            rw [hn, pixN_len]
            have h1 := pos_lt hct hlt
            rw [← HN.out] at h1
            omega
          have g2 : wb.cell? ⟨g, 2, none⟩ = some (.slice ov n kv) := hv.tab.at' 2 (by omega)
          obtain ⟨pxv, hpx⟩ : ∃ p, p = m.px x y := ⟨_, rfl⟩
          have HCL : Hid (∀ Wd, Below wb.heap.size wb Wd → Calls Try.prog 46 #[.int .i64 x, .int .i64 y, .pointer (some ⟨q1, 0, none⟩)] Wd (fun e w' => e = .returned (.int .u8 pxv) ∧ Below Wd.heap.size Wd w')) := fun Wd hb => by
            rw [hpx]
            exact HAT.out Wd x y hct hlt (HU.out.bel.trans (hb.mono HU.out.bel.size))
          have HSN : Hid (pixN W m.px (y * W + (x + 1)) = pixN W m.px (y * W + x) ++ [pxv]) := by rw [hpx]; exact pixN_snoc m.px hct
          have HNU := Lib.hid hn
          obtain ⟨xs, hxs⟩ : ∃ xs, xs = pixN W m.px (y * W + x) := ⟨_, rfl⟩
          rw [← hxs] at HU HSN HNU
          clear hv hpx hn hxs HY
          go_upto_region 8 with fail
          go_region_law (first | (refine step_app1L (by rfl) (.tmp 26) (.tmp 31) 35 (by rfl) elemPx Try.underlying35 w.heap.size (.slice ov n kv) xs encPx (by rfl) (HU2.out.op.alloc _) pxv ⟨w2.heap.size, 0, none⟩ 1 (by rfl) (by rfl) (World.news_of_block (cs := #[.int .u8 pxv]) (t := 5) (fr := (0, 0)) (heap_alloc_new w2 _)) (by simp [encPx, Value.oneCell']) (by have := HNU.out; omega) (by have := HNU.out; unfold maxLen; omega) (by have := HU2.out.bel.size; simp; omega) ?_; rw [← HNU.out]; intro g5 cap5 w15 hown15 hgr15 hat15; have HOWN15 := Lib.hid hown15; have HGR15 := Lib.hid hgr15; have HAT15 := Lib.hid hat15; have hmid := (HU2.out.below (balloc (Below.refl _ w2) _)).mid hgr15; have m2 : w15.cell? ⟨g, 2, none⟩ = some (.slice ov n kv) := hmid.at' 2 (by omega); have mf := hmid.fz 2; clear hown15 hgr15 hat15 hmid) | (go_simp; go_at_call 46; refine (HCL.out _ (by go_grown)).mono ?_; rintro e w2 ⟨rfl, hb2⟩; have hz2 : Below wb.heap.size wb w2 := bthen (w1 := wb.drew) (Below.refl _ wb).drew hb2; have g2b : w2.cell? ⟨g, 2, none⟩ = some (.slice ov n kv) := keepCell hz2 g2; have g2c : (w2.alloc (.cells #[.int .u8 pxv] 5)).cell? ⟨g, 2, none⟩ = some (.slice ov n kv) := keepCell (balloc (Below.refl _ w2) _) g2b; have HU2 := Lib.hid (HU.out.below hz2); clear hb2 hz2))
          all_goals
            have HNX : Hid (GrU w g w.heap.size (w15.setCell ⟨g, 2, none⟩ (.slice (some ⟨g5, 0, none⟩) (n + 1) cap5)) (.int .i64 W) (.int .i64 H) (.slice (some ⟨g5, 0, none⟩) (n + 1) cap5) (pixN W m.px (y * W + (x + 1)))) := by
              show GrU _ _ _ _ _ _ _ _
              rw [HSN.out]
              refine (HU2.out.below (balloc (Below.refl _ w2) (.cells #[.int .u8 pxv] 5))).add HOWN15.out HGR15.out ?_
              rcases HAT15.out with h | h
              · exact .inl h.symm
              · exact .inr (by rw [h]; rfl)
            clear HOWN15 HGR15 HAT15 HU2 HCL m2 mf g2b g2c g2
            go_wp2_with fail
            go_roundw
            case rel => exact ⟨x + 1, by omega, by go_num, _, HNX.out⟩
            case measure => simp [intOf]; omega
        · obtain rfl : W = x := by omega
          obtain ⟨v, hv⟩ := HY.out
          have HU := Lib.hid hv
          clear hv HY
          go_wp2_with fail
          go_roundw
          case rel => exact ⟨y + 1, by omega, by go_num, v, by rw [Nat.add_mul, Nat.one_mul]; exact HU.out⟩
          case measure => simp [intOf]; omega
    · obtain rfl : H = y := by omega
      obtain ⟨v, hx⟩ := HX.out
      have hlist : pixN W m.px (H * W) = listI m := by rw [HLI.out, HN.out, Nat.mul_comm]
      rw [hlist] at hx
      obtain ⟨oq, capq, hv, -⟩ := hx.op.isSlc
      subst hv
      have hrs := res_set (x := .int .i64 W) (y := .int .i64 H) (z := .slice oq (listI m).length capq) hx.res
      have HF : Hid (RetGrid m w (.returned (.agg #[.int .i64 W, .int .i64 H, .slice oq (listI m).length capq])) (resW wa w.heap.size (.int .i64 W) (.int .i64 H) (.slice oq (listI m).length capq))) := by
        refine ⟨oq, capq, by rw [HM.out.1, HM.out.2], ?_, hrs.bel hx.bel (Nat.le_refl _)⟩
        exact hx.op.heap fun k e => hrs.hp k fun e2 => hx.ne.2 (by rw [e, e2])
      have z0 : wa.cell? ⟨g, 0, none⟩ = some (.int .i64 W) := hx.tab.at' 0 (by omega)
      have z1 : wa.cell? ⟨g, 1, none⟩ = some (.int .i64 H) := hx.tab.at' 1 (by omega)
      have z2 : wa.cell? ⟨g, 2, none⟩ = some (.slice oq (listI m).length capq) := hx.tab.at' 2 (by omega)
      have r0 : wa.cell? ⟨w.heap.size, 0, none⟩ = some (.int .i64 0) := hx.res.at' 0 (by omega)
      have r1 : wa.cell? ⟨w.heap.size, 1, none⟩ = some (.int .i64 0) := hx.res.at' 1 (by omega)
      have r2 : wa.cell? ⟨w.heap.size, 2, none⟩ = some (.slice none 0 0) := hx.res.at' 2 (by omega)
      have rf := hx.res.fz
      have HRS := Lib.hid hrs
      clear hx HX hrs hlist HLI
      generalize (listI m).length = L at *
      repeat (first | go_values | go_skip | go_guarded | go_step | go_upon)
      obtain ⟨W9, hW9⟩ : ∃ W9, W9 = resW wa w.heap.size (.int .i64 W) (.int .i64 H) (.slice oq L capq) := ⟨_, rfl⟩
      rw [← hW9] at HF HRS
      unfold resW at hW9
      rw [← hW9]
      have e0 := HRS.out.c0
      have e1 := HRS.out.c1
      have e2 := HRS.out.c2
      clear hW9
      refine bodyPost_ret (v := .agg #[.int .i64 W, .int .i64 H, .slice oq L capq]) (by simp only [results, buildRes]; go_simp) rfl ?_
      exact HF.out
end Go.Proofs.Ytdblibjmgamjeaa
namespace Go.Proofs.Ytdblibjmgamjeaa
open Go.RowKit
set_option linter.unusedVariables false
set_option maxRecDepth 100000 in
set_option maxHeartbeats 16000000 in
theorem buildT1_any (m : Img) (hm : Sized m) (q1 q2 q3 : Nat) (w : World)
    (hat : ∀ (W : World) (x y : Nat), x < m.W → y < m.H → Below w.heap.size w W → Calls Try.prog 50 #[.int .i64 x, .int .i64 y, .pointer (some ⟨q1, 0, none⟩), .pointer (some ⟨q2, 0, none⟩), .pointer (some ⟨q3, 0, none⟩)] W (fun e w' => e = .returned (.int .u8 (m.px x y)) ∧ Below W.heap.size W w')) :
    Calls Try.prog 45 #[.int .i64 m.W, .int .i64 m.H, .func (.func 50) #[] #[.pointer (some ⟨q1, 0, none⟩), .pointer (some ⟨q2, 0, none⟩), .pointer (some ⟨q3, 0, none⟩)]] w (RetGrid m w) := by
  have hA := sized_area hm
  obtain ⟨hW1, hW2, hH1, hH2⟩ := hm
  obtain ⟨W, hWW⟩ : ∃ W, W = m.W := ⟨_, rfl⟩
  obtain ⟨H, hHH⟩ : ∃ H, H = m.H := ⟨_, rfl⟩
  obtain ⟨N, hN⟩ : ∃ N, N = W * H := ⟨_, rfl⟩
  have HAT : Hid (∀ (Wd : World) (x y : Nat), x < W → y < H → Below w.heap.size w Wd → Calls Try.prog 50 #[.int .i64 x, .int .i64 y, .pointer (some ⟨q1, 0, none⟩), .pointer (some ⟨q2, 0, none⟩), .pointer (some ⟨q3, 0, none⟩)] Wd (fun e w' => e = .returned (.int .u8 (m.px x y)) ∧ Below Wd.heap.size Wd w')) := by rw [hWW, hHH]; exact hat
  have HLI : Hid (listI m = pixN W m.px N) := by show listI m = _; rw [hN, hWW, hHH]; rfl
  rw [← hWW, ← hHH, ← hN] at hA
  have HM : Hid (W = m.W ∧ H = m.H) := ⟨hWW, hHH⟩
  rw [← hWW] at hW1 hW2
  rw [← hHH] at hH1 hH2
  rw [← hWW, ← hHH]
  have x1 : IntKind.i64.wrap ((W : Int) * (H : Int)) = (N : Int) := by rw [← Int.natCast_mul, ← hN]; exact IntWalk.i64_in _ (by omega)
  have HN := Lib.hid hN
  have mk := run_make0 N (by omega)
  clear hat hWW hHH hN
  obtain ⟨W3, hW3⟩ : ∃ W3, W3 = ((w.alloc (.cells #[.int .i64 0, .int .i64 0, .slice none 0 0] 74)).alloc (.cells (madeP N) 5)).alloc (.cells #[.int .i64 W, .int .i64 H, .slice (some ⟨w.heap.size + 1, 0, none⟩) 0 N] 74) := ⟨_, rfl⟩
  have HGU : Hid (GrU w (w.heap.size + 1 + 1) w.heap.size W3 (.int .i64 W) (.int .i64 H) (.slice (some ⟨w.heap.size + 1, 0, none⟩) 0 N) (pixN W m.px 0)) := by
    have t6 := outF_new w (.int .i64 0) (.int .i64 0) (.slice none 0 0) 74
    have o5 := World.ownsRow_made (base := w.heap.size) (e := 5) (size := 1) (w.alloc (.cells #[.int .i64 0, .int .i64 0, .slice none 0 0] 74)) (madeP N) N (by simp) (by unfold maxLen; omega) (madeP_size N)
    have t7 := outF_new ((w.alloc (.cells #[.int .i64 0, .int .i64 0, .slice none 0 0] 74)).alloc (.cells (madeP N) 5)) (.int .i64 W) (.int .i64 H) (.slice (some ⟨w.heap.size + 1, 0, none⟩) 0 N) 74
    simp only [World.size_alloc] at o5 t7
    rw [← hW3] at t7
    have hz : W3.heap.size = w.heap.size + 1 + 1 + 1 := by rw [hW3]; simp
    refine ⟨by rw [hW3]; exact (((Below.refl _ w).alloc (Nat.le_refl _) _).alloc (by simp) _).alloc (by simp; omega) _, t7, ?_, ?_, ⟨fun e => by simp [Value.ownBlock] at e, fun e => by simp [Value.ownBlock] at e⟩, by omega, by omega, by omega, Nat.le_refl _, by omega⟩
    · rw [hW3]; exact (t6.alloc (by simp) _).alloc (by simp; omega) _
    · rw [hW3]; exact World.ownsRow.alloc o5 _
  have HW3 : Hid (((w.alloc (.cells #[.int .i64 0, .int .i64 0, .slice none 0 0] 74)).alloc (.cells (madeP N) 5)).alloc (.cells #[.int .i64 W, .int .i64 H, .slice (some ⟨w.heap.size + 1, 0, none⟩) 0 N] 74) = W3) := hW3.symm
  clear hW3
  go_enter Try.func45, Try.ntmps45
  go_upto_region 2 with fail
  rw [HW3.out]
  obtain ⟨g, hg⟩ : ∃ g, g = w.heap.size + 1 + 1 := ⟨_, rfl⟩
  rw [← hg]
  rw [← hg] at HGU
  have HG := Lib.hid hg
  clear HW3 hg x1 mk
  go_wp2_with fail
  go_loopw [18] (fun i wr => ∃ y : Nat, y ≤ H ∧ i = .int .i64 y ∧ Hid (∃ v, GrU w g w.heap.size wr (.int .i64 W) (.int .i64 H) v (pixN W m.px (y * W)))) (fun i _ => H - (intOf i).toNat)
  case atStart => exact ⟨0, by omega, rfl, _, by rw [Nat.zero_mul]; exact HGU.out⟩
  case round =>
    clear HGU
    obtain ⟨y, hy, rfl, HX⟩ := hrel
    obtain ⟨wa, rfl⟩ : ∃ wa : World, wa = wr := ⟨_, rfl⟩
    by_cases hlt : y < H
    · have kd : (y : Int) < (H : Int) := by omega
      go_wp2_with fail
      go_loopw [22] (fun j wr => ∃ x : Nat, x ≤ W ∧ j = .int .i64 x ∧ Hid (∃ v, GrU w g w.heap.size wr (.int .i64 W) (.int .i64 H) v (pixN W m.px (y * W + x)))) (fun j _ => W - (intOf j).toNat)
      case atStart => exact ⟨0, by omega, rfl, HX.out⟩
      case round =>
        clear HX
        obtain ⟨x, hx, rfl, HY⟩ := hrel
        obtain ⟨wb, rfl⟩ : ∃ wb : World, wb = wr := ⟨_, rfl⟩
        by_cases hct : x < W
        · have cd : (x : Int) < (W : Int) := by omega
          obtain ⟨v, hv⟩ := HY.out
          have HU := Lib.hid hv
          obtain ⟨ov, kv, hvs, -⟩ := hv.op.isSlc
          obtain ⟨n, hn⟩ : ∃ n, n = (pixN W m.px (y * W + x)).length := ⟨_, rfl⟩
          rw [← hn] at hvs
          subst hvs
          have hnn : n ≤ 1048576 := by
            rw [hn, pixN_len]
            have h1 := pos_lt hct hlt
            rw [← HN.out] at h1
            omega
          have g2 : wb.cell? ⟨g, 2, none⟩ = some (.slice ov n kv) := hv.tab.at' 2 (by omega)
          obtain ⟨pxv, hpx⟩ : ∃ p, p = m.px x y := ⟨_, rfl⟩
          have HCL : Hid (∀ Wd, Below wb.heap.size wb Wd → Calls Try.prog 50 #[.int .i64 x, .int .i64 y, .pointer (some ⟨q1, 0, none⟩), .pointer (some ⟨q2, 0, none⟩), .pointer (some ⟨q3, 0, none⟩)] Wd (fun e w' => e = .returned (.int .u8 pxv) ∧ Below Wd.heap.size Wd w')) := fun Wd hb => by
            rw [hpx]
            exact HAT.out Wd x y hct hlt (HU.out.bel.trans (hb.mono HU.out.bel.size))
          have HSN : Hid (pixN W m.px (y * W + (x + 1)) = pixN W m.px (y * W + x) ++ [pxv]) := by rw [hpx]; exact pixN_snoc m.px hct
          have HNU := Lib.hid hn
          obtain ⟨xs, hxs⟩ : ∃ xs, xs = pixN W m.px (y * W + x) := ⟨_, rfl⟩
          rw [← hxs] at HU HSN HNU
          clear hv hpx hn hxs HY
          go_upto_region 8 with fail
          go_region_law (first | (refine step_app1L (by rfl) (.tmp 26) (.tmp 31) 35 (by rfl) elemPx Try.underlying35 w.heap.size (.slice ov n kv) xs encPx (by rfl) (HU2.out.op.alloc _) pxv ⟨w2.heap.size, 0, none⟩ 1 (by rfl) (by rfl) (World.news_of_block (cs := #[.int .u8 pxv]) (t := 5) (fr := (0, 0)) (heap_alloc_new w2 _)) (by simp [encPx, Value.oneCell']) (by have := HNU.out; omega) (by have := HNU.out; unfold maxLen; omega) (by have := HU2.out.bel.size; simp; omega) ?_; rw [← HNU.out]; intro g5 cap5 w15 hown15 hgr15 hat15; have HOWN15 := Lib.hid hown15; have HGR15 := Lib.hid hgr15; have HAT15 := Lib.hid hat15; have hmid := (HU2.out.below (balloc (Below.refl _ w2) _)).mid hgr15; have m2 : w15.cell? ⟨g, 2, none⟩ = some (.slice ov n kv) := hmid.at' 2 (by omega); have mf := hmid.fz 2; clear hown15 hgr15 hat15 hmid) | (go_simp; go_at_call 50; refine (HCL.out _ (by go_grown)).mono ?_; rintro e w2 ⟨rfl, hb2⟩; have hz2 : Below wb.heap.size wb w2 := bthen (w1 := wb.drew) (Below.refl _ wb).drew hb2; have g2b : w2.cell? ⟨g, 2, none⟩ = some (.slice ov n kv) := keepCell hz2 g2; have g2c : (w2.alloc (.cells #[.int .u8 pxv] 5)).cell? ⟨g, 2, none⟩ = some (.slice ov n kv) := keepCell (balloc (Below.refl _ w2) _) g2b; have HU2 := Lib.hid (HU.out.below hz2); clear hb2 hz2))
          all_goals
            have HNX : Hid (GrU w g w.heap.size (w15.setCell ⟨g, 2, none⟩ (.slice (some ⟨g5, 0, none⟩) (n + 1) cap5)) (.int .i64 W) (.int .i64 H) (.slice (some ⟨g5, 0, none⟩) (n + 1) cap5) (pixN W m.px (y * W + (x + 1)))) := by
              show GrU _ _ _ _ _ _ _ _
              rw [HSN.out]
              refine (HU2.out.below (balloc (Below.refl _ w2) (.cells #[.int .u8 pxv] 5))).add HOWN15.out HGR15.out ?_
              rcases HAT15.out with h | h
              · exact .inl h.symm
              · exact .inr (by rw [h]; rfl)
            clear HOWN15 HGR15 HAT15 HU2 HCL m2 mf g2b g2c g2
            go_wp2_with fail
            go_roundw
            case rel => exact ⟨x + 1, by omega, by go_num, _, HNX.out⟩
            case measure => simp [intOf]; omega
        · obtain rfl : W = x := by omega
          obtain ⟨v, hv⟩ := HY.out
          have HU := Lib.hid hv
          clear hv HY
          go_wp2_with fail
          go_roundw
          case rel => exact ⟨y + 1, by omega, by go_num, v, by rw [Nat.add_mul, Nat.one_mul]; exact HU.out⟩
          case measure => simp [intOf]; omega
    · obtain rfl : H = y := by omega
      obtain ⟨v, hx⟩ := HX.out
      have hlist : pixN W m.px (H * W) = listI m := by rw [HLI.out, HN.out, Nat.mul_comm]
      rw [hlist] at hx
      obtain ⟨oq, capq, hv, -⟩ := hx.op.isSlc
      subst hv
      have hrs := res_set (x := .int .i64 W) (y := .int .i64 H) (z := .slice oq (listI m).length capq) hx.res
      have HF : Hid (RetGrid m w (.returned (.agg #[.int .i64 W, .int .i64 H, .slice oq (listI m).length capq])) (resW wa w.heap.size (.int .i64 W) (.int .i64 H) (.slice oq (listI m).length capq))) := by
        refine ⟨oq, capq, by rw [HM.out.1, HM.out.2], ?_, hrs.bel hx.bel (Nat.le_refl _)⟩
        exact hx.op.heap fun k e => hrs.hp k fun e2 => hx.ne.2 (by rw [e, e2])
      have z0 : wa.cell? ⟨g, 0, none⟩ = some (.int .i64 W) := hx.tab.at' 0 (by omega)
      have z1 : wa.cell? ⟨g, 1, none⟩ = some (.int .i64 H) := hx.tab.at' 1 (by omega)
      have z2 : wa.cell? ⟨g, 2, none⟩ = some (.slice oq (listI m).length capq) := hx.tab.at' 2 (by omega)
      have r0 : wa.cell? ⟨w.heap.size, 0, none⟩ = some (.int .i64 0) := hx.res.at' 0 (by omega)
      have r1 : wa.cell? ⟨w.heap.size, 1, none⟩ = some (.int .i64 0) := hx.res.at' 1 (by omega)
      have r2 : wa.cell? ⟨w.heap.size, 2, none⟩ = some (.slice none 0 0) := hx.res.at' 2 (by omega)
      have rf := hx.res.fz
      have HRS := Lib.hid hrs
      clear hx HX hrs hlist HLI
      generalize (listI m).length = L at *
      repeat (first | go_values | go_skip | go_guarded | go_step | go_upon)
      obtain ⟨W9, hW9⟩ : ∃ W9, W9 = resW wa w.heap.size (.int .i64 W) (.int .i64 H) (.slice oq L capq) := ⟨_, rfl⟩
      rw [← hW9] at HF HRS
      unfold resW at hW9
      rw [← hW9]
      have e0 := HRS.out.c0
      have e1 := HRS.out.c1
      have e2 := HRS.out.c2
      clear hW9
      refine bodyPost_ret (v := .agg #[.int .i64 W, .int .i64 H, .slice oq L capq]) (by simp only [results, buildRes]; go_simp) rfl ?_
      exact HF.out
end Go.Proofs.Ytdblibjmgamjeaa
namespace Go.Proofs.Ytdblibjmgamjeaa
open Go.RowKit
set_option linter.unusedVariables false
set_option maxRecDepth 100000 in
set_option maxHeartbeats 16000000 in
theorem buildT2_any (m : Img) (hm : Sized m) (q1 q2 q3 : Nat) (w : World)
    (hat : ∀ (W : World) (x y : Nat), x < m.W → y < m.H → Below w.heap.size w W → Calls Try.prog 51 #[.int .i64 x, .int .i64 y, .pointer (some ⟨q1, 0, none⟩), .pointer (some ⟨q2, 0, none⟩), .pointer (some ⟨q3, 0, none⟩)] W (fun e w' => e = .returned (.int .u8 (m.px x y)) ∧ Below W.heap.size W w')) :
    Calls Try.prog 45 #[.int .i64 m.W, .int .i64 m.H, .func (.func 51) #[] #[.pointer (some ⟨q1, 0, none⟩), .pointer (some ⟨q2, 0, none⟩), .pointer (some ⟨q3, 0, none⟩)]] w (RetGrid m w) := by
  have hA := sized_area hm
  obtain ⟨hW1, hW2, hH1, hH2⟩ := hm
  obtain ⟨W, hWW⟩ : ∃ W, W = m.W := ⟨_, rfl⟩
  obtain ⟨H, hHH⟩ : ∃ H, H = m.H := ⟨_, rfl⟩
  obtain ⟨N, hN⟩ : ∃ N, N = W * H := ⟨_, rfl⟩
  have HAT : Hid (∀ (Wd : World) (x y : Nat), x < W → y < H → Below w.heap.size w Wd → Calls Try.prog 51 #[.int .i64 x, .int .i64 y, .pointer (some ⟨q1, 0, none⟩), .pointer (some ⟨q2, 0, none⟩), .pointer (some ⟨q3, 0, none⟩)] Wd (fun e w' => e = .returned (.int .u8 (m.px x y)) ∧ Below Wd.heap.size Wd w')) := by rw [hWW, hHH]; exact hat
  have HLI : Hid (listI m = pixN W m.px N) := by show listI m = _; rw [hN, hWW, hHH]; rfl
  rw [← hWW, ← hHH, ← hN] at hA
  have HM : Hid (W = m.W ∧ H = m.H) := ⟨hWW, hHH⟩
  rw [← hWW] at hW1 hW2
  rw [← hHH] at hH1 hH2
  rw [← hWW, ← hHH]
  have x1 : IntKind.i64.wrap ((W : Int) * (H : Int)) = (N : Int) := by rw [← Int.natCast_mul, ← hN]; exact IntWalk.i64_in _ (by omega)
  have HN := Lib.hid hN
  have mk := run_make0 N (by omega)
  clear hat hWW hHH hN
  obtain ⟨W3, hW3⟩ : ∃ W3, W3 = ((w.alloc (.cells #[.int .i64 0, .int .i64 0, .slice none 0 0] 74)).alloc (.cells (madeP N) 5)).alloc (.cells #[.int .i64 W, .int .i64 H, .slice (some ⟨w.heap.size + 1, 0, none⟩) 0 N] 74) := ⟨_, rfl⟩
  have HGU : Hid (GrU w (w.heap.size + 1 + 1) w.heap.size W3 (.int .i64 W) (.int .i64 H) (.slice (some ⟨w.heap.size + 1, 0, none⟩) 0 N) (pixN W m.px 0)) := by
    have t6 := outF_new w (.int .i64 0) (.int .i64 0) (.slice none 0 0) 74
    have o5 := World.ownsRow_made (base := w.heap.size) (e := 5) (size := 1) (w.alloc (.cells #[.int .i64 0, .int .i64 0, .slice none 0 0] 74)) (madeP N) N (by simp) (by unfold maxLen; omega) (madeP_size N)
    have t7 := outF_new ((w.alloc (.cells #[.int .i64 0, .int .i64 0, .slice none 0 0] 74)).alloc (.cells (madeP N) 5)) (.int .i64 W) (.int .i64 H) (.slice (some ⟨w.heap.size + 1, 0, none⟩) 0 N) 74
    simp only [World.size_alloc] at o5 t7
    rw [← hW3] at t7
    have hz : W3.heap.size = w.heap.size + 1 + 1 + 1 := by rw [hW3]; simp
    refine ⟨by rw [hW3]; exact (((Below.refl _ w).alloc (Nat.le_refl _) _).alloc (by simp) _).alloc (by simp; omega) _, t7, ?_, ?_, ⟨fun e => by simp [Value.ownBlock] at e, fun e => by simp [Value.ownBlock] at e⟩, by omega, by omega, by omega, Nat.le_refl _, by omega⟩
    · rw [hW3]; exact (t6.alloc (by simp) _).alloc (by simp; omega) _
    · rw [hW3]; exact World.ownsRow.alloc o5 _
  have HW3 : Hid (((w.alloc (.cells #[.int .i64 0, .int .i64 0, .slice none 0 0] 74)).alloc (.cells (madeP N) 5)).alloc (.cells #[.int .i64 W, .int .i64 H, .slice (some ⟨w.heap.size + 1, 0, none⟩) 0 N] 74) = W3) := hW3.symm
  clear hW3
  go_enter Try.func45, Try.ntmps45
  go_upto_region 2 with fail
  rw [HW3.out]
  obtain ⟨g, hg⟩ : ∃ g, g = w.heap.size + 1 + 1 := ⟨_, rfl⟩
  rw [← hg]
  rw [← hg] at HGU
  have HG := Lib.hid hg
  clear HW3 hg x1 mk
  go_wp2_with fail
  go_loopw [18] (fun i wr => ∃ y : Nat, y ≤ H ∧ i = .int .i64 y ∧ Hid (∃ v, GrU w g w.heap.size wr (.int .i64 W) (.int .i64 H) v (pixN W m.px (y * W)))) (fun i _ => H - (intOf i).toNat)
  case atStart => exact ⟨0, by omega, rfl, _, by rw [Nat.zero_mul]; exact HGU.out⟩
  case round =>
    clear HGU
    obtain ⟨y, hy, rfl, HX⟩ := hrel
    obtain ⟨wa, rfl⟩ : ∃ wa : World, wa = wr := ⟨_, rfl⟩
    by_cases hlt : y < H
    · have kd : (y : Int) < (H : Int) := by omega
      go_wp2_with fail
      go_loopw [22] (fun j wr => ∃ x : Nat, x ≤ W ∧ j = .int .i64 x ∧ Hid (∃ v, GrU w g w.heap.size wr (.int .i64 W) (.int .i64 H) v (pixN W m.px (y * W + x)))) (fun j _ => W - (intOf j).toNat)
      case atStart => exact ⟨0, by omega, rfl, HX.out⟩
      case round =>
        clear HX
        obtain ⟨x, hx, rfl, HY⟩ := hrel
        obtain ⟨wb, rfl⟩ : ∃ wb : World, wb = wr := ⟨_, rfl⟩
        by_cases hct : x < W
        · have cd : (x : Int) < (W : Int) := by omega
          obtain ⟨v, hv⟩ := HY.out
          have HU := Lib.hid hv
          obtain ⟨ov, kv, hvs, -⟩ := hv.op.isSlc
          obtain ⟨n, hn⟩ : ∃ n, n = (pixN W m.px (y * W + x)).length := ⟨_, rfl⟩
          rw [← hn] at hvs
          subst hvs
          have hnn : n ≤ 1048576 := by
            rw [hn, pixN_len]
            have h1 := pos_lt hct hlt
            rw [← HN.out] at h1
            omega
          have g2 : wb.cell? ⟨g, 2, none⟩ = some (.slice ov n kv) := hv.tab.at' 2 (by omega)
          obtain ⟨pxv, hpx⟩ : ∃ p, p = m.px x y := ⟨_, rfl⟩
          have HCL : Hid (∀ Wd, Below wb.heap.size wb Wd → Calls Try.prog 51 #[.int .i64 x, .int .i64 y, .pointer (some ⟨q1, 0, none⟩), .pointer (some ⟨q2, 0, none⟩), .pointer (some ⟨q3, 0, none⟩)] Wd (fun e w' => e = .returned (.int .u8 pxv) ∧ Below Wd.heap.size Wd w')) := fun Wd hb => by
            rw [hpx]
            exact HAT.out Wd x y hct hlt (HU.out.bel.trans (hb.mono HU.out.bel.size))
          have HSN : Hid (pixN W m.px (y * W + (x + 1)) = pixN W m.px (y * W + x) ++ [pxv]) := by rw [hpx]; exact pixN_snoc m.px hct
          have HNU := Lib.hid hn
          obtain ⟨xs, hxs⟩ : ∃ xs, xs = pixN W m.px (y * W + x) := ⟨_, rfl⟩
          rw [← hxs] at HU HSN HNU
          clear hv hpx hn hxs HY
          go_upto_region 8 with fail
          go_region_law (first | (refine step_app1L (by rfl) (.tmp 26) (.tmp 31) 35 (by rfl) elemPx Try.underlying35 w.heap.size (.slice ov n kv) xs encPx (by rfl) (HU2.out.op.alloc _) pxv ⟨w2.heap.size, 0, none⟩ 1 (by rfl) (by rfl) (World.news_of_block (cs := #[.int .u8 pxv]) (t := 5) (fr := (0, 0)) (heap_alloc_new w2 _)) (by simp [encPx, Value.oneCell']) (by have := HNU.out; omega) (by have := HNU.out; unfold maxLen; omega) (by have := HU2.out.bel.size; simp; omega) ?_; rw [← HNU.out]; intro g5 cap5 w15 hown15 hgr15 hat15; have HOWN15 := Lib.hid hown15; have HGR15 := Lib.hid hgr15; have HAT15 := Lib.hid hat15; have hmid := (HU2.out.below (balloc (Below.refl _ w2) _)).mid hgr15; have m2 : w15.cell? ⟨g, 2, none⟩ = some (.slice ov n kv) := hmid.at' 2 (by omega); have mf := hmid.fz 2; clear hown15 hgr15 hat15 hmid) | (go_simp; go_at_call 51; refine (HCL.out _ (by go_grown)).mono ?_; rintro e w2 ⟨rfl, hb2⟩; have hz2 : Below wb.heap.size wb w2 := bthen (w1 := wb.drew) (Below.refl _ wb).drew hb2; have g2b : w2.cell? ⟨g, 2, none⟩ = some (.slice ov n kv) := keepCell hz2 g2; have g2c : (w2.alloc (.cells #[.int .u8 pxv] 5)).cell? ⟨g, 2, none⟩ = some (.slice ov n kv) := keepCell (balloc (Below.refl _ w2) _) g2b; have HU2 := Lib.hid (HU.out.below hz2); clear hb2 hz2))
          all_goals
            have HNX : Hid (GrU w g w.heap.size (w15.setCell ⟨g, 2, none⟩ (.slice (some ⟨g5, 0, none⟩) (n + 1) cap5)) (.int .i64 W) (.int .i64 H) (.slice (some ⟨g5, 0, none⟩) (n + 1) cap5) (pixN W m.px (y * W + (x + 1)))) := by
              show GrU _ _ _ _ _ _ _ _
              rw [HSN.out]
              refine (HU2.out.below (balloc (Below.refl _ w2) (.cells #[.int .u8 pxv] 5))).add HOWN15.out HGR15.out ?_
              rcases HAT15.out with h | h
              · exact .inl h.symm
              · exact .inr (by rw [h]; rfl)
            clear HOWN15 HGR15 HAT15 HU2 HCL m2 mf g2b g2c g2
            go_wp2_with fail
            go_roundw
            case rel => exact ⟨x + 1, by omega, by go_num, _, HNX.out⟩
            case measure => simp [intOf]; omega
        · obtain rfl : W = x := by omega
          obtain ⟨v, hv⟩ := HY.out
          have HU := Lib.hid hv
          clear hv HY
          go_wp2_with fail
          go_roundw
          case rel => exact ⟨y + 1, by omega, by go_num, v, by rw [Nat.add_mul, Nat.one_mul]; exact HU.out⟩
          case measure => simp [intOf]; omega
    · obtain rfl : H = y := by omega
      obtain ⟨v, hx⟩ := HX.out
      have hlist : pixN W m.px (H * W) = listI m := by rw [HLI.out, HN.out, Nat.mul_comm]
      rw [hlist] at hx
      obtain ⟨oq, capq, hv, -⟩ := hx.op.isSlc
      subst hv
      have hrs := res_set (x := .int .i64 W) (y := .int .i64 H) (z := .slice oq (listI m).length capq) hx.res
      have HF : Hid (RetGrid m w (.returned (.agg #[.int .i64 W, .int .i64 H, .slice oq (listI m).length capq])) (resW wa w.heap.size (.int .i64 W) (.int .i64 H) (.slice oq (listI m).length capq))) := by
        refine ⟨oq, capq, by rw [HM.out.1, HM.out.2], ?_, hrs.bel hx.bel (Nat.le_refl _)⟩
        exact hx.op.heap fun k e => hrs.hp k fun e2 => hx.ne.2 (by rw [e, e2])
      have z0 : wa.cell? ⟨g, 0, none⟩ = some (.int .i64 W) := hx.tab.at' 0 (by omega)
      have z1 : wa.cell? ⟨g, 1, none⟩ = some (.int .i64 H) := hx.tab.at' 1 (by omega)
      have z2 : wa.cell? ⟨g, 2, none⟩ = some (.slice oq (listI m).length capq) := hx.tab.at' 2 (by omega)
      have r0 : wa.cell? ⟨w.heap.size, 0, none⟩ = some (.int .i64 0) := hx.res.at' 0 (by omega)
      have r1 : wa.cell? ⟨w.heap.size, 1, none⟩ = some (.int .i64 0) := hx.res.at' 1 (by omega)
      have r2 : wa.cell? ⟨w.heap.size, 2, none⟩ = some (.slice none 0 0) := hx.res.at' 2 (by omega)
      have rf := hx.res.fz
      have HRS := Lib.hid hrs
      clear hx HX hrs hlist HLI
      generalize (listI m).length = L at *
      repeat (first | go_values | go_skip | go_guarded | go_step | go_upon)
      obtain ⟨W9, hW9⟩ : ∃ W9, W9 = resW wa w.heap.size (.int .i64 W) (.int .i64 H) (.slice oq L capq) := ⟨_, rfl⟩
      rw [← hW9] at HF HRS
      unfold resW at hW9
      rw [← hW9]
      have e0 := HRS.out.c0
      have e1 := HRS.out.c1
      have e2 := HRS.out.c2
      clear hW9
      refine bodyPost_ret (v := .agg #[.int .i64 W, .int .i64 H, .slice oq L capq]) (by simp only [results, buildRes]; go_simp) rfl ?_
      exact HF.out
end Go.Proofs.Ytdblibjmgamjeaa
namespace Go.Proofs.Ytdblibjmgamjeaa
open Go.RowKit
set_option linter.unusedVariables false
set_option maxRecDepth 100000 in
set_option maxHeartbeats 16000000 in
theorem buildT3_any (m : Img) (hm : Sized m) (q1 q2 : Nat) (w : World)
    (hat : ∀ (W : World) (x y : Nat), x < m.W → y < m.H → Below w.heap.size w W → Calls Try.prog 52 #[.int .i64 x, .int .i64 y, .pointer (some ⟨q1, 0, none⟩), .pointer (some ⟨q2, 0, none⟩)] W (fun e w' => e = .returned (.int .u8 (m.px x y)) ∧ Below W.heap.size W w')) :
    Calls Try.prog 45 #[.int .i64 m.W, .int .i64 m.H, .func (.func 52) #[] #[.pointer (some ⟨q1, 0, none⟩), .pointer (some ⟨q2, 0, none⟩)]] w (RetGrid m w) := by
  have hA := sized_area hm
  obtain ⟨hW1, hW2, hH1, hH2⟩ := hm
  obtain ⟨W, hWW⟩ : ∃ W, W = m.W := ⟨_, rfl⟩
  obtain ⟨H, hHH⟩ : ∃ H, H = m.H := ⟨_, rfl⟩
  obtain ⟨N, hN⟩ : ∃ N, N = W * H := ⟨_, rfl⟩
  have HAT : Hid (∀ (Wd : World) (x y : Nat), x < W → y < H → Below w.heap.size w Wd → Calls Try.prog 52 #[.int .i64 x, .int .i64 y, .pointer (some ⟨q1, 0, none⟩), .pointer (some ⟨q2, 0, none⟩)] Wd (fun e w' => e = .returned (.int .u8 (m.px x y)) ∧ Below Wd.heap.size Wd w')) := by rw [hWW, hHH]; exact hat
  have HLI : Hid (listI m = pixN W m.px N) := by show listI m = _; rw [hN, hWW, hHH]; rfl
  rw [← hWW, ← hHH, ← hN] at hA
  have HM : Hid (W = m.W ∧ H = m.H) := ⟨hWW, hHH⟩
  rw [← hWW] at hW1 hW2
  rw [← hHH] at hH1 hH2
  rw [← hWW, ← hHH]
  have x1 : IntKind.i64.wrap ((W : Int) * (H : Int)) = (N : Int) := by rw [← Int.natCast_mul, ← hN]; exact IntWalk.i64_in _ (by omega)
  have HN := Lib.hid hN
  have mk := run_make0 N (by omega)
  clear hat hWW hHH hN
  obtain ⟨W3, hW3⟩ : ∃ W3, W3 = ((w.alloc (.cells #[.int .i64 0, .int .i64 0, .slice none 0 0] 74)).alloc (.cells (madeP N) 5)).alloc (.cells #[.int .i64 W, .int .i64 H, .slice (some ⟨w.heap.size + 1, 0, none⟩) 0 N] 74) := ⟨_, rfl⟩
  have HGU : Hid (GrU w (w.heap.size + 1 + 1) w.heap.size W3 (.int .i64 W) (.int .i64 H) (.slice (some ⟨w.heap.size + 1, 0, none⟩) 0 N) (pixN W m.px 0)) := by
    have t6 := outF_new w (.int .i64 0) (.int .i64 0) (.slice none 0 0) 74
    have o5 := World.ownsRow_made (base := w.heap.size) (e := 5) (size := 1) (w.alloc (.cells #[.int .i64 0, .int .i64 0, .slice none 0 0] 74)) (madeP N) N (by simp) (by unfold maxLen; omega) (madeP_size N)
    have t7 := outF_new ((w.alloc (.cells #[.int .i64 0, .int .i64 0, .slice none 0 0] 74)).alloc (.cells (madeP N) 5)) (.int .i64 W) (.int .i64 H) (.slice (some ⟨w.heap.size + 1, 0, none⟩) 0 N) 74
    simp only [World.size_alloc] at o5 t7
    rw [← hW3] at t7
    have hz : W3.heap.size = w.heap.size + 1 + 1 + 1 := by rw [hW3]; simp
    refine ⟨by rw [hW3]; exact (((Below.refl _ w).alloc (Nat.le_refl _) _).alloc (by simp) _).alloc (by simp; omega) _, t7, ?_, ?_, ⟨fun e => by simp [Value.ownBlock] at e, fun e => by simp [Value.ownBlock] at e⟩, by omega, by omega, by omega, Nat.le_refl _, by omega⟩
    · rw [hW3]; exact (t6.alloc (by simp) _).alloc (by simp; omega) _
    · rw [hW3]; exact World.ownsRow.alloc o5 _
  have HW3 : Hid (((w.alloc (.cells #[.int .i64 0, .int .i64 0, .slice none 0 0] 74)).alloc (.cells (madeP N) 5)).alloc (.cells #[.int .i64 W, .int .i64 H, .slice (some ⟨w.heap.size + 1, 0, none⟩) 0 N] 74) = W3) := hW3.symm
  clear hW3
  go_enter Try.func45, Try.ntmps45
  go_upto_region 2 with fail
  rw [HW3.out]
  obtain ⟨g, hg⟩ : ∃ g, g = w.heap.size + 1 + 1 := ⟨_, rfl⟩
  rw [← hg]
  rw [← hg] at HGU
  have HG := Lib.hid hg
  clear HW3 hg x1 mk
  go_wp2_with fail
  go_loopw [18] (fun i wr => ∃ y : Nat, y ≤ H ∧ i = .int .i64 y ∧ Hid (∃ v, GrU w g w.heap.size wr (.int .i64 W) (.int .i64 H) v (pixN W m.px (y * W)))) (fun i _ => H - (intOf i).toNat)
  case atStart => exact ⟨0, by omega, rfl, _, by rw [Nat.zero_mul]; exact HGU.out⟩
  case round =>
    clear HGU
    obtain ⟨y, hy, rfl, HX⟩ := hrel
    obtain ⟨wa, rfl⟩ : ∃ wa : World, wa = wr := ⟨_, rfl⟩
    by_cases hlt : y < H
    · have kd : (y : Int) < (H : Int) := by omega
      go_wp2_with fail
      go_loopw [22] (fun j wr => ∃ x : Nat, x ≤ W ∧ j = .int .i64 x ∧ Hid (∃ v, GrU w g w.heap.size wr (.int .i64 W) (.int .i64 H) v (pixN W m.px (y * W + x)))) (fun j _ => W - (intOf j).toNat)
      case atStart => exact ⟨0, by omega, rfl, HX.out⟩
      case round =>
        clear HX
        obtain ⟨x, hx, rfl, HY⟩ := hrel
        obtain ⟨wb, rfl⟩ : ∃ wb : World, wb = wr := ⟨_, rfl⟩
        by_cases hct : x < W
        · have cd : (x : Int) < (W : Int) := by omega
          obtain ⟨v, hv⟩ := HY.out
          have HU := Lib.hid hv
          obtain ⟨ov, kv, hvs, -⟩ := hv.op.isSlc
          obtain ⟨n, hn⟩ : ∃ n, n = (pixN W m.px (y * W + x)).length := ⟨_, rfl⟩
          rw [← hn] at hvs
          subst hvs
          have hnn : n ≤ 1048576 := by
            rw [hn, pixN_len]
            have h1 := pos_lt hct hlt
            rw [← HN.out] at h1
            omega
          have g2 : wb.cell? ⟨g, 2, none⟩ = some (.slice ov n kv) := hv.tab.at' 2 (by omega)
          obtain ⟨pxv, hpx⟩ : ∃ p, p = m.px x y := ⟨_, rfl⟩
          have HCL : Hid (∀ Wd, Below wb.heap.size wb Wd → Calls Try.prog 52 #[.int .i64 x, .int .i64 y, .pointer (some ⟨q1, 0, none⟩), .pointer (some ⟨q2, 0, none⟩)] Wd (fun e w' => e = .returned (.int .u8 pxv) ∧ Below Wd.heap.size Wd w')) := fun Wd hb => by
            rw [hpx]
            exact HAT.out Wd x y hct hlt (HU.out.bel.trans (hb.mono HU.out.bel.size))
          have HSN : Hid (pixN W m.px (y * W + (x + 1)) = pixN W m.px (y * W + x) ++ [pxv]) := by rw [hpx]; exact pixN_snoc m.px hct
          have HNU := Lib.hid hn
          obtain ⟨xs, hxs⟩ : ∃ xs, xs = pixN W m.px (y * W + x) := ⟨_, rfl⟩
          rw [← hxs] at HU HSN HNU
          clear hv hpx hn hxs HY
          go_upto_region 8 with fail
          go_region_law (first | (refine step_app1L (by rfl) (.tmp 26) (.tmp 31) 35 (by rfl) elemPx Try.underlying35 w.heap.size (.slice ov n kv) xs encPx (by rfl) (HU2.out.op.alloc _) pxv ⟨w2.heap.size, 0, none⟩ 1 (by rfl) (by rfl) (World.news_of_block (cs := #[.int .u8 pxv]) (t := 5) (fr := (0, 0)) (heap_alloc_new w2 _)) (by simp [encPx, Value.oneCell']) (by have := HNU.out; omega) (by have := HNU.out; unfold maxLen; omega) (by have := HU2.out.bel.size; simp; omega) ?_; rw [← HNU.out]; intro g5 cap5 w15 hown15 hgr15 hat15; have HOWN15 := Lib.hid hown15; have HGR15 := Lib.hid hgr15; have HAT15 := Lib.hid hat15; have hmid := (HU2.out.below (balloc (Below.refl _ w2) _)).mid hgr15; have m2 : w15.cell? ⟨g, 2, none⟩ = some (.slice ov n kv) := hmid.at' 2 (by omega); have mf := hmid.fz 2; clear hown15 hgr15 hat15 hmid) | (go_simp; go_at_call 52; refine (HCL.out _ (by go_grown)).mono ?_; rintro e w2 ⟨rfl, hb2⟩; have hz2 : Below wb.heap.size wb w2 := bthen (w1 := wb.drew) (Below.refl _ wb).drew hb2; have g2b : w2.cell? ⟨g, 2, none⟩ = some (.slice ov n kv) := keepCell hz2 g2; have g2c : (w2.alloc (.cells #[.int .u8 pxv] 5)).cell? ⟨g, 2, none⟩ = some (.slice ov n kv) := keepCell (balloc (Below.refl _ w2) _) g2b; have HU2 := Lib.hid (HU.out.below hz2); clear hb2 hz2))
          all_goals
            have HNX : Hid (GrU w g w.heap.size (w15.setCell ⟨g, 2, none⟩ (.slice (some ⟨g5, 0, none⟩) (n + 1) cap5)) (.int .i64 W) (.int .i64 H) (.slice (some ⟨g5, 0, none⟩) (n + 1) cap5) (pixN W m.px (y * W + (x + 1)))) := by
              show GrU _ _ _ _ _ _ _ _
              rw [HSN.out]
              refine (HU2.out.below (balloc (Below.refl _ w2) (.cells #[.int .u8 pxv] 5))).add HOWN15.out HGR15.out ?_
              rcases HAT15.out with h | h
              · exact .inl h.symm
              · exact .inr (by rw [h]; rfl)
            clear HOWN15 HGR15 HAT15 HU2 HCL m2 mf g2b g2c g2
            go_wp2_with fail
            go_roundw
            case rel => exact ⟨x + 1, by omega, by go_num, _, HNX.out⟩
            case measure => simp [intOf]; omega
        · obtain rfl : W = x := by omega
          obtain ⟨v, hv⟩ := HY.out
          have HU := Lib.hid hv
          clear hv HY
          go_wp2_with fail
          go_roundw
          case rel => exact ⟨y + 1, by omega, by go_num, v, by rw [Nat.add_mul, Nat.one_mul]; exact HU.out⟩
          case measure => simp [intOf]; omega
    · obtain rfl : H = y := by omega
      obtain ⟨v, hx⟩ := HX.out
      have hlist : pixN W m.px (H * W) = listI m := by rw [HLI.out, HN.out, Nat.mul_comm]
      rw [hlist] at hx
      obtain ⟨oq, capq, hv, -⟩ := hx.op.isSlc
      subst hv
      have hrs := res_set (x := .int .i64 W) (y := .int .i64 H) (z := .slice oq (listI m).length capq) hx.res
      have HF : Hid (RetGrid m w (.returned (.agg #[.int .i64 W, .int .i64 H, .slice oq (listI m).length capq])) (resW wa w.heap.size (.int .i64 W) (.int .i64 H) (.slice oq (listI m).length capq))) := by
        refine ⟨oq, capq, by rw [HM.out.1, HM.out.2], ?_, hrs.bel hx.bel (Nat.le_refl _)⟩
        exact hx.op.heap fun k e => hrs.hp k fun e2 => hx.ne.2 (by rw [e, e2])
      have z0 : wa.cell? ⟨g, 0, none⟩ = some (.int .i64 W) := hx.tab.at' 0 (by omega)
      have z1 : wa.cell? ⟨g, 1, none⟩ = some (.int .i64 H) := hx.tab.at' 1 (by omega)
      have z2 : wa.cell? ⟨g, 2, none⟩ = some (.slice oq (listI m).length capq) := hx.tab.at' 2 (by omega)
      have r0 : wa.cell? ⟨w.heap.size, 0, none⟩ = some (.int .i64 0) := hx.res.at' 0 (by omega)
      have r1 : wa.cell? ⟨w.heap.size, 1, none⟩ = some (.int .i64 0) := hx.res.at' 1 (by omega)
      have r2 : wa.cell? ⟨w.heap.size, 2, none⟩ = some (.slice none 0 0) := hx.res.at' 2 (by omega)
      have rf := hx.res.fz
      have HRS := Lib.hid hrs
      clear hx HX hrs hlist HLI
      generalize (listI m).length = L at *
      repeat (first | go_values | go_skip | go_guarded | go_step | go_upon)
      obtain ⟨W9, hW9⟩ : ∃ W9, W9 = resW wa w.heap.size (.int .i64 W) (.int .i64 H) (.slice oq L capq) := ⟨_, rfl⟩
      rw [← hW9] at HF HRS
      unfold resW at hW9
      rw [← hW9]
      have e0 := HRS.out.c0
      have e1 := HRS.out.c1
      have e2 := HRS.out.c2
      clear hW9
      refine bodyPost_ret (v := .agg #[.int .i64 W, .int .i64 H, .slice oq L capq]) (by simp only [results, buildRes]; go_simp) rfl ?_
      exact HF.out
end Go.Proofs.Ytdblibjmgamjeaa
namespace Go.Proofs.Ytdblibjmgamjeaa
open Go.RowKit
set_option linter.unusedVariables false
set_option maxRecDepth 100000 in
set_option maxHeartbeats 16000000 in
theorem buildC_any (m : Img) (hm : Sized m) (q1 q2 q3 : Nat) (w : World)
    (hat : ∀ (W : World) (x y : Nat), x < m.W → y < m.H → Below w.heap.size w W → Calls Try.prog 61 #[.int .i64 x, .int .i64 y, .pointer (some ⟨q1, 0, none⟩), .pointer (some ⟨q2, 0, none⟩), .pointer (some ⟨q3, 0, none⟩)] W (fun e w' => e = .returned (.int .u8 (m.px x y)) ∧ Below W.heap.size W w')) :
    Calls Try.prog 45 #[.int .i64 m.W, .int .i64 m.H, .func (.func 61) #[] #[.pointer (some ⟨q1, 0, none⟩), .pointer (some ⟨q2, 0, none⟩), .pointer (some ⟨q3, 0, none⟩)]] w (RetGrid m w) := by
  have hA := sized_area hm
  obtain ⟨hW1, hW2, hH1, hH2⟩ := hm
  obtain ⟨W, hWW⟩ : ∃ W, W = m.W := ⟨_, rfl⟩
  obtain ⟨H, hHH⟩ : ∃ H, H = m.H := ⟨_, rfl⟩
  obtain ⟨N, hN⟩ : ∃ N, N = W * H := ⟨_, rfl⟩
  have HAT : Hid (∀ (Wd : World) (x y : Nat), x < W → y < H → Below w.heap.size w Wd → Calls Try.prog 61 #[.int .i64 x, .int .i64 y, .pointer (some ⟨q1, 0, none⟩), .pointer (some ⟨q2, 0, none⟩), .pointer (some ⟨q3, 0, none⟩)] Wd (fun e w' => e = .returned (.int .u8 (m.px x y)) ∧ Below Wd.heap.size Wd w')) := by rw [hWW, hHH]; exact hat
  have HLI : Hid (listI m = pixN W m.px N) := by show listI m = _; rw [hN, hWW, hHH]; rfl
  rw [← hWW, ← hHH, ← hN] at hA
  have HM : Hid (W = m.W ∧ H = m.H) := ⟨hWW, hHH⟩
  rw [← hWW] at hW1 hW2
  rw [← hHH] at hH1 hH2
  rw [← hWW, ← hHH]
  have x1 : IntKind.i64.wrap ((W : Int) * (H : Int)) = (N : Int) := by rw [← Int.natCast_mul, ← hN]; exact IntWalk.i64_in _ (by omega)
  have HN := Lib.hid hN
  have mk := run_make0 N (by omega)
  clear hat hWW hHH hN
  obtain ⟨W3, hW3⟩ : ∃ W3, W3 = ((w.alloc (.cells #[.int .i64 0, .int .i64 0, .slice none 0 0] 74)).alloc (.cells (madeP N) 5)).alloc (.cells #[.int .i64 W, .int .i64 H, .slice (some ⟨w.heap.size + 1, 0, none⟩) 0 N] 74) := ⟨_, rfl⟩
  have HGU : Hid (GrU w (w.heap.size + 1 + 1) w.heap.size W3 (.int .i64 W) (.int .i64 H) (.slice (some ⟨w.heap.size + 1, 0, none⟩) 0 N) (pixN W m.px 0)) := by
    have t6 := outF_new w (.int .i64 0) (.int .i64 0) (.slice none 0 0) 74
    have o5 := World.ownsRow_made (base := w.heap.size) (e := 5) (size := 1) (w.alloc (.cells #[.int .i64 0, .int .i64 0, .slice none 0 0] 74)) (madeP N) N (by simp) (by unfold maxLen; omega) (madeP_size N)
    have t7 := outF_new ((w.alloc (.cells #[.int .i64 0, .int .i64 0, .slice none 0 0] 74)).alloc (.cells (madeP N) 5)) (.int .i64 W) (.int .i64 H) (.slice (some ⟨w.heap.size + 1, 0, none⟩) 0 N) 74
    simp only [World.size_alloc] at o5 t7
    rw [← hW3] at t7
    have hz : W3.heap.size = w.heap.size + 1 + 1 + 1 := by rw [hW3]; simp
    refine ⟨by rw [hW3]; exact (((Below.refl _ w).alloc (Nat.le_refl _) _).alloc (by simp) _).alloc (by simp; omega) _, t7, ?_, ?_, ⟨fun e => by simp [Value.ownBlock] at e, fun e => by simp [Value.ownBlock] at e⟩, by omega, by omega, by omega, Nat.le_refl _, by omega⟩
    · rw [hW3]; exact (t6.alloc (by simp) _).alloc (by simp; omega) _
    · rw [hW3]; exact World.ownsRow.alloc o5 _
  have HW3 : Hid (((w.alloc (.cells #[.int .i64 0, .int .i64 0, .slice none 0 0] 74)).alloc (.cells (madeP N) 5)).alloc (.cells #[.int .i64 W, .int .i64 H, .slice (some ⟨w.heap.size + 1, 0, none⟩) 0 N] 74) = W3) := hW3.symm
  clear hW3
  go_enter Try.func45, Try.ntmps45
  go_upto_region 2 with fail
  rw [HW3.out]
  obtain ⟨g, hg⟩ : ∃ g, g = w.heap.size + 1 + 1 := ⟨_, rfl⟩
  rw [← hg]
  rw [← hg] at HGU
  have HG := Lib.hid hg
  clear HW3 hg x1 mk
  go_wp2_with fail
  go_loopw [18] (fun i wr => ∃ y : Nat, y ≤ H ∧ i = .int .i64 y ∧ Hid (∃ v, GrU w g w.heap.size wr (.int .i64 W) (.int .i64 H) v (pixN W m.px (y * W)))) (fun i _ => H - (intOf i).toNat)
  case atStart => exact ⟨0, by omega, rfl, _, by rw [Nat.zero_mul]; exact HGU.out⟩
  case round =>
    clear HGU
    obtain ⟨y, hy, rfl, HX⟩ := hrel
    obtain ⟨wa, rfl⟩ : ∃ wa : World, wa = wr := ⟨_, rfl⟩
    by_cases hlt : y < H
    · have kd : (y : Int) < (H : Int) := by omega
      go_wp2_with fail
      go_loopw [22] (fun j wr => ∃ x : Nat, x ≤ W ∧ j = .int .i64 x ∧ Hid (∃ v, GrU w g w.heap.size wr (.int .i64 W) (.int .i64 H) v (pixN W m.px (y * W + x)))) (fun j _ => W - (intOf j).toNat)
      case atStart => exact ⟨0, by omega, rfl, HX.out⟩
      case round =>
        clear HX
        obtain ⟨x, hx, rfl, HY⟩ := hrel
        obtain ⟨wb, rfl⟩ : ∃ wb : World, wb = wr := ⟨_, rfl⟩
        by_cases hct : x < W
        · have cd : (x : Int) < (W : Int) := by omega
          obtain ⟨v, hv⟩ := HY.out
          have HU := Lib.hid hv
          obtain ⟨ov, kv, hvs, -⟩ := hv.op.isSlc
          obtain ⟨n, hn⟩ : ∃ n, n = (pixN W m.px (y * W + x)).length := ⟨_, rfl⟩
          rw [← hn] at hvs
          subst hvs
          have hnn : n ≤ 1048576 := by
            rw [hn, pixN_len]
            have h1 := pos_lt hct hlt
            rw [← HN.out] at h1
            omega
          have g2 : wb.cell? ⟨g, 2, none⟩ = some (.slice ov n kv) := hv.tab.at' 2 (by omega)
          obtain ⟨pxv, hpx⟩ : ∃ p, p = m.px x y := ⟨_, rfl⟩
          have HCL : Hid (∀ Wd, Below wb.heap.size wb Wd → Calls Try.prog 61 #[.int .i64 x, .int .i64 y, .pointer (some ⟨q1, 0, none⟩), .pointer (some ⟨q2, 0, none⟩), .pointer (some ⟨q3, 0, none⟩)] Wd (fun e w' => e = .returned (.int .u8 pxv) ∧ Below Wd.heap.size Wd w')) := fun Wd hb => by
            rw [hpx]
            exact HAT.out Wd x y hct hlt (HU.out.bel.trans (hb.mono HU.out.bel.size))
          have HSN : Hid (pixN W m.px (y * W + (x + 1)) = pixN W m.px (y * W + x) ++ [pxv]) := by rw [hpx]; exact pixN_snoc m.px hct
          have HNU := Lib.hid hn
          obtain ⟨xs, hxs⟩ : ∃ xs, xs = pixN W m.px (y * W + x) := ⟨_, rfl⟩
          rw [← hxs] at HU HSN HNU
          clear hv hpx hn hxs HY
          go_upto_region 8 with fail
          go_region_law (first | (refine step_app1L (by rfl) (.tmp 26) (.tmp 31) 35 (by rfl) elemPx Try.underlying35 w.heap.size (.slice ov n kv) xs encPx (by rfl) (HU2.out.op.alloc _) pxv ⟨w2.heap.size, 0, none⟩ 1 (by rfl) (by rfl) (World.news_of_block (cs := #[.int .u8 pxv]) (t := 5) (fr := (0, 0)) (heap_alloc_new w2 _)) (by simp [encPx, Value.oneCell']) (by have := HNU.out; omega) (by have := HNU.out; unfold maxLen; omega) (by have := HU2.out.bel.size; simp; omega) ?_; rw [← HNU.out]; intro g5 cap5 w15 hown15 hgr15 hat15; have HOWN15 := Lib.hid hown15; have HGR15 := Lib.hid hgr15; have HAT15 := Lib.hid hat15; have hmid := (HU2.out.below (balloc (Below.refl _ w2) _)).mid hgr15; have m2 : w15.cell? ⟨g, 2, none⟩ = some (.slice ov n kv) := hmid.at' 2 (by omega); have mf := hmid.fz 2; clear hown15 hgr15 hat15 hmid) | (go_simp; go_at_call 61; refine (HCL.out _ (by go_grown)).mono ?_; rintro e w2 ⟨rfl, hb2⟩; have hz2 : Below wb.heap.size wb w2 := bthen (w1 := wb.drew) (Below.refl _ wb).drew hb2; have g2b : w2.cell? ⟨g, 2, none⟩ = some (.slice ov n kv) := keepCell hz2 g2; have g2c : (w2.alloc (.cells #[.int .u8 pxv] 5)).cell? ⟨g, 2, none⟩ = some (.slice ov n kv) := keepCell (balloc (Below.refl _ w2) _) g2b; have HU2 := Lib.hid (HU.out.below hz2); clear hb2 hz2))
          all_goals
            have HNX : Hid (GrU w g w.heap.size (w15.setCell ⟨g, 2, none⟩ (.slice (some ⟨g5, 0, none⟩) (n + 1) cap5)) (.int .i64 W) (.int .i64 H) (.slice (some ⟨g5, 0, none⟩) (n + 1) cap5) (pixN W m.px (y * W + (x + 1)))) := by
              show GrU _ _ _ _ _ _ _ _
              rw [HSN.out]
              refine (HU2.out.below (balloc (Below.refl _ w2) (.cells #[.int .u8 pxv] 5))).add HOWN15.out HGR15.out ?_
              rcases HAT15.out with h | h
              · exact .inl h.symm
              · exact .inr (by rw [h]; rfl)
            clear HOWN15 HGR15 HAT15 HU2 HCL m2 mf g2b g2c g2
            go_wp2_with fail
            go_roundw
            case rel => exact ⟨x + 1, by omega, by go_num, _, HNX.out⟩
            case measure => simp [intOf]; omega
        · obtain rfl : W = x := by omega
          obtain ⟨v, hv⟩ := HY.out
          have HU := Lib.hid hv
          clear hv HY
          go_wp2_with fail
          go_roundw
          case rel => exact ⟨y + 1, by omega, by go_num, v, by rw [Nat.add_mul, Nat.one_mul]; exact HU.out⟩
          case measure => simp [intOf]; omega
    · obtain rfl : H = y := by omega
      obtain ⟨v, hx⟩ := HX.out
      have hlist : pixN W m.px (H * W) = listI m := by rw [HLI.out, HN.out, Nat.mul_comm]
      rw [hlist] at hx
      obtain ⟨oq, capq, hv, -⟩ := hx.op.isSlc
      subst hv
      have hrs := res_set (x := .int .i64 W) (y := .int .i64 H) (z := .slice oq (listI m).length capq) hx.res
      have HF : Hid (RetGrid m w (.returned (.agg #[.int .i64 W, .int .i64 H, .slice oq (listI m).length capq])) (resW wa w.heap.size (.int .i64 W) (.int .i64 H) (.slice oq (listI m).length capq))) := by
        refine ⟨oq, capq, by rw [HM.out.1, HM.out.2], ?_, hrs.bel hx.bel (Nat.le_refl _)⟩
        exact hx.op.heap fun k e => hrs.hp k fun e2 => hx.ne.2 (by rw [e, e2])
      have z0 : wa.cell? ⟨g, 0, none⟩ = some (.int .i64 W) := hx.tab.at' 0 (by omega)
      have z1 : wa.cell? ⟨g, 1, none⟩ = some (.int .i64 H) := hx.tab.at' 1 (by omega)
      have z2 : wa.cell? ⟨g, 2, none⟩ = some (.slice oq (listI m).length capq) := hx.tab.at' 2 (by omega)
      have r0 : wa.cell? ⟨w.heap.size, 0, none⟩ = some (.int .i64 0) := hx.res.at' 0 (by omega)
      have r1 : wa.cell? ⟨w.heap.size, 1, none⟩ = some (.int .i64 0) := hx.res.at' 1 (by omega)
      have r2 : wa.cell? ⟨w.heap.size, 2, none⟩ = some (.slice none 0 0) := hx.res.at' 2 (by omega)
      have rf := hx.res.fz
      have HRS := Lib.hid hrs
      clear hx HX hrs hlist HLI
      generalize (listI m).length = L at *
      repeat (first | go_values | go_skip | go_guarded | go_step | go_upon)
      obtain ⟨W9, hW9⟩ : ∃ W9, W9 = resW wa w.heap.size (.int .i64 W) (.int .i64 H) (.slice oq L capq) := ⟨_, rfl⟩
      rw [← hW9] at HF HRS
      unfold resW at hW9
      rw [← hW9]
      have e0 := HRS.out.c0
      have e1 := HRS.out.c1
      have e2 := HRS.out.c2
      clear hW9
      refine bodyPost_ret (v := .agg #[.int .i64 W, .int .i64 H, .slice oq L capq]) (by simp only [results, buildRes]; go_simp) rfl ?_
      exact HF.out
end Go.Proofs.Ytdblibjmgamjeaa
