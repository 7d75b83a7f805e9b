/-
  The walk of bindery.sides on two rasters of one size. The walks of slices.Equal over equal pixels and of mEqual. Own text.
-/
import Derived.Test.YtdblibjmgamjeaaPart
namespace Go.Proofs.Ytdblibjmgamjeaa
open Go.RowKit
set_option linter.unusedVariables false
set_option maxRecDepth 100000 in
set_option maxHeartbeats 8000000 in
theorem sides_any (m p : Img) (hm : Sized m) (hW : p.W = m.W) (hH : p.H = m.H) (om op : Option Addr) (km kp : Nat) (w : World) (hpm : PxAt w om (listI m).length km (listI m)) (hpp : PxAt w op (listI p).length kp (listI p)) :
    Calls Try.prog 29 #[.agg #[.int .i64 m.W, .int .i64 m.H, .slice om (listI m).length km], .agg #[.int .i64 p.W, .int .i64 p.H, .slice op (listI p).length kp]] w fun e w' => e = .returned (.int .i64 0) ∧ Below w.heap.size w w' := by
  have hp : Sized p := by
    obtain ⟨a, b, c, d⟩ := hm
    exact ⟨by omega, by omega, by omega, by omega⟩
  obtain ⟨W1, hW1⟩ : ∃ W1, W1 = (w.alloc (.cells #[.int .i64 m.W, .int .i64 m.H, .slice om (listI m).length km] 37)).alloc (.cells #[.int .i64 p.W, .int .i64 p.H, .slice op (listI p).length kp] 37) := ⟨_, rfl⟩
  have hb1 : Below w.heap.size w W1 := by rw [hW1]; exact balloc (balloc (Below.refl _ w) _) _
  have hg1 : BoxG W1 w.heap.size m om km := by rw [hW1]; exact (boxG_new m om km w _ hpm).below (balloc (Below.refl _ _) _)
  have hg2 : BoxG W1 (w.heap.size + 1) p op kp := by
    have h := boxG_new p op kp (w.alloc (.cells #[.int .i64 m.W, .int .i64 m.H, .slice om (listI m).length km] 37)) 37 (hpp.below (balloc (Below.refl _ w) _))
    rw [World.size_alloc] at h
    rw [hW1]; exact h
  have HOM : Hid (∀ W, Below W1.heap.size W1 W → Calls Try.prog 26 #[.agg #[.int .i64 m.W, .int .i64 m.H, .slice om (listI m).length km]] W (RetGrid m W)) := fun W hb => of_any m hm om km W (hg1.px.below hb)
  have HOP : Hid (∀ W, Below W1.heap.size W1 W → Calls Try.prog 26 #[.agg #[.int .i64 p.W, .int .i64 p.H, .slice op (listI p).length kp]] W (RetGrid p W)) := fun W hb => of_any p hp op kp W (hg2.px.below hb)
  have HCM : Hid (∀ W o k, Calls Try.prog 48 #[.agg #[.int .i64 m.W, .int .i64 m.H, .slice o (listI m).length k]] W fun e w' => e = .returned (.int .i64 0) ∧ Below W.heap.size W w') := fun W o k => gcheck_any m hm o k W
  have HCP : Hid (∀ W o k, Calls Try.prog 48 #[.agg #[.int .i64 p.W, .int .i64 p.H, .slice o (listI p).length k]] W fun e w' => e = .returned (.int .i64 0) ∧ Below W.heap.size W w') := fun W o k => gcheck_any p hp o k W
  have HW1 : Hid ((w.alloc (.cells #[.int .i64 m.W, .int .i64 m.H, .slice om (listI m).length km] 37)).alloc (.cells #[.int .i64 p.W, .int .i64 p.H, .slice op (listI p).length kp] 37) = W1) := hW1.symm
  have HB1 := Lib.hid hb1
  have HG1 := Lib.hid hg1
  have HG2 := Lib.hid hg2
  have c0 := hg1.c0
  have c1 := hg1.c1
  have c2 := hg1.c2
  have d0 := hg2.c0
  have d1 := hg2.c1
  have d2 := hg2.c2
  have XI0 : Hid (∀ W, (Instr.index 97 (.agg #[.int .i64 m.W, .int .i64 m.H, .slice om (listI m).length km, .int .i64 p.W, .int .i64 p.H, .slice op (listI p).length kp]) (.int .i64 0)).run Try.prog W = .ok (.agg #[.int .i64 m.W, .int .i64 m.H, .slice om (listI m).length km]) W) := fun W => by kernel_rfl
  have XI1 : Hid (∀ W, (Instr.index 97 (.agg #[.int .i64 m.W, .int .i64 m.H, .slice om (listI m).length km, .int .i64 p.W, .int .i64 p.H, .slice op (listI p).length kp]) (.int .i64 1)).run Try.prog W = .ok (.agg #[.int .i64 p.W, .int .i64 p.H, .slice op (listI p).length kp]) W) := fun W => by kernel_rfl
  have HWH : Hid (p.W = m.W ∧ p.H = m.H) := ⟨hW, hH⟩
  clear hW1 hb1 hg1 hg2 hpm hpp hm hp hW hH
  go_enter Try.func29, Try.ntmps29
  go_upto_region 1 with fail
  rw [HW1.out]
  clear HW1
  go_wp2_with fail
  go_loopw [11] (fun i wr => ∃ k : Nat, k ≤ 2 ∧ i = .int .i64 k ∧ Hid (Below W1.heap.size W1 wr)) (fun i _ => 2 - (intOf i).toNat)
  case atStart => exact ⟨0, by omega, rfl, Below.refl _ _⟩
  case round =>
    obtain ⟨k, hk, rfl, HY⟩ := hrel
    obtain ⟨wa, rfl⟩ : ∃ wa : World, wa = wr := ⟨_, rfl⟩
    have h3 : k = 0 ∨ k = 1 ∨ k = 2 := by omega
    rcases h3 with rfl | rfl | rfl
    · have xi := XI0.out wa
      have HO := Lib.hid (HOM.out (wa.alloc (.cells #[.int .i64 m.W, .int .i64 m.H, .slice om (listI m).length km] 37)) (balloc HY.out _))
      have HB5 := Lib.hid (balloc HY.out (.cells #[.int .i64 m.W, .int .i64 m.H, .slice om (listI m).length km] 37))
      clear HOP
      go_wp2_with fail
      refine HO.out.mono ?_
      intro e w5 hret
      obtain ⟨o5, k5, rfl, -, hb5⟩ := hret
      have HC := Lib.hid (HCM.out w5 o5 k5)
      have HB6 := Lib.hid (bthen HB5.out hb5)
      clear hb5
      dsimp only
      go_wp2_with fail
      refine HC.out.mono ?_
      rintro e w6 ⟨rfl, hb6⟩
      have HN := Lib.hid (bthen HB6.out hb6)
      clear hb6 xi
      go_wp2_with fail
      go_roundw
      case rel => exact ⟨1, by omega, by go_num, HN⟩
      case measure => simp [intOf]
    · have xi := XI1.out wa
      have HO := Lib.hid (HOP.out (wa.alloc (.cells #[.int .i64 p.W, .int .i64 p.H, .slice op (listI p).length kp] 37)) (balloc HY.out _))
      have HB5 := Lib.hid (balloc HY.out (.cells #[.int .i64 p.W, .int .i64 p.H, .slice op (listI p).length kp] 37))
      clear HOM
      go_wp2_with fail
      refine HO.out.mono ?_
      intro e w5 hret
      obtain ⟨o5, k5, rfl, -, hb5⟩ := hret
      have HC := Lib.hid (HCP.out w5 o5 k5)
      have HB6 := Lib.hid (bthen HB5.out hb5)
      clear hb5
      dsimp only
      go_wp2_with fail
      refine HC.out.mono ?_
      rintro e w6 ⟨rfl, hb6⟩
      have HN := Lib.hid (bthen HB6.out hb6)
      clear hb6 xi
      go_wp2_with fail
      go_roundw
      case rel => exact ⟨2, by omega, by go_num, HN⟩
      case measure => simp [intOf]
    · have c0 := keepCell HY.out c0
      have c1 := keepCell HY.out c1
      have d0 := keepCell HY.out d0
      have d1 := keepCell HY.out d1
      have HF := Lib.hid (bthen HB1.out HY.out)
      rw [HWH.out.1] at d0
      rw [HWH.out.2] at d1
      go_wp2_with fail
      go_ret
      exact ⟨rfl, HF.out⟩
end Go.Proofs.Ytdblibjmgamjeaa
namespace Go.Proofs.Ytdblibjmgamjeaa
open Go.RowKit
set_option linter.unusedVariables false
set_option maxRecDepth 100000 in
set_option maxHeartbeats 4000000 in
theorem equal8_any (oa ob : Option Addr) (xs : List Int) (ca cb : Nat) (w : World) (hx : PxAt w oa xs.length ca xs) (hy : PxAt w ob xs.length cb xs) (hm : xs.length ≤ 2000000) :
    Calls Try.prog 32 #[.slice oa xs.length ca, .slice ob xs.length cb] w fun e w' => e = .returned (.bool true) ∧ Below w.heap.size w w' := by
  have HX := Lib.hid hx
  have HY := Lib.hid hy
  clear hx hy
  obtain ⟨n, hn⟩ : ∃ n, n = xs.length := ⟨_, rfl⟩
  rw [← hn] at hm HX HY ⊢
  have HL := Lib.hid hn
  clear hn
  go_enter Try.func32, Try.ntmps32
  go_wp2
  go_loopw [13] (fun i wr => ∃ k : Nat, k ≤ n ∧ i = .int .i64 k ∧ Hid (Below w.heap.size w wr)) (fun i _ => n - (intOf i).toNat)
  case atStart => exact ⟨0, by omega, rfl, Below.refl _ _⟩
  case round =>
    obtain ⟨k, hk, rfl, HR⟩ := hrel
    by_cases hlt : k < n
    · have hkx : k < xs.length := by have := HL.out; omega
      obtain ⟨x, hxe⟩ : ∃ x, xs[k]? = some x := ⟨_, List.getElem?_eq_getElem hkx⟩
      obtain ⟨-, b1, off1, rfl, i0⟩ := PxAt.get (IsSlice.below HX.out HR.out) hkx hxe
      obtain ⟨-, b2, off2, rfl, j0⟩ := PxAt.get (IsSlice.below HY.out HR.out) hkx hxe
      have kd : (k : Int) < (n : Int) := by omega
      have HN : Hid (∀ N, Below w.heap.size w (wr.drewN N)) := fun N => bdrewN HR.out N
      clear hxe hkx HR
      go_upto_region 6 with fail
      go_quiet (fail)
      go_wp2
      go_roundw
      case rel => exact ⟨k + 1, by omega, by go_num, HN.out _⟩
      case measure => simp [intOf]; omega
    · obtain rfl : n = k := by omega
      clear HX HY
      go_wp2
      go_ret
      exact ⟨rfl, HR.out⟩
set_option maxRecDepth 100000 in
set_option maxHeartbeats 4000000 in
theorem mequal_any (m : Img) (hm : Sized m) (oa ob : Option Addr) (ca cb : Nat) (w : World) (hx : PxAt w oa (listI m).length ca (listI m)) (hy : PxAt w ob (listI m).length cb (listI m)) :
    Calls Try.prog 13 #[.agg #[.int .i64 m.W, .int .i64 m.H, .slice oa (listI m).length ca], .agg #[.int .i64 m.W, .int .i64 m.H, .slice ob (listI m).length cb]] w fun e w' => e = .returned (.bool true) ∧ Below w.heap.size w w' := by
  obtain ⟨W1, hW1⟩ : ∃ W1, W1 = (w.alloc (.cells #[.int .i64 m.W, .int .i64 m.H, .slice oa (listI m).length ca] 37)).alloc (.cells #[.int .i64 m.W, .int .i64 m.H, .slice ob (listI m).length cb] 37) := ⟨_, rfl⟩
  have hb1 : Below w.heap.size w W1 := by rw [hW1]; exact balloc (balloc (Below.refl _ w) _) _
  have hg1 : BoxG W1 w.heap.size m oa ca := by rw [hW1]; exact (boxG_new m oa ca w _ hx).below (balloc (Below.refl _ _) _)
  have hg2 : BoxG W1 (w.heap.size + 1) m ob cb := by
    have h := boxG_new m ob cb (w.alloc (.cells #[.int .i64 m.W, .int .i64 m.H, .slice oa (listI m).length ca] 37)) 37 (hy.below (balloc (Below.refl _ w) _))
    rw [World.size_alloc] at h
    rw [hW1]; exact h
  have HEQ : Hid (Calls Try.prog 32 #[.slice oa (listI m).length ca, .slice ob (listI m).length cb] W1 fun e w' => e = .returned (.bool true) ∧ Below W1.heap.size W1 w') := equal8_any oa ob (listI m) ca cb W1 hg1.px hg2.px (by have := (px_len hm).2.1; omega)
  have c0 := hg1.c0
  have c1 := hg1.c1
  have c2 := hg1.c2
  have d0 := hg2.c0
  have d1 := hg2.c1
  have d2 := hg2.c2
  have HW1 : Hid ((w.alloc (.cells #[.int .i64 m.W, .int .i64 m.H, .slice oa (listI m).length ca] 37)).alloc (.cells #[.int .i64 m.W, .int .i64 m.H, .slice ob (listI m).length cb] 37) = W1) := hW1.symm
  have HB1 := Lib.hid hb1
  clear hW1 hb1 hg1 hg2 hx hy hm
  obtain ⟨n, hn⟩ : ∃ n, n = (listI m).length := ⟨_, rfl⟩
  rw [← hn] at HW1 c2 d2 HEQ ⊢
  clear hn
  go_enter Try.func13, Try.ntmps13
  go_upto_region 1 with fail
  rw [HW1.out]
  clear HW1
  go_wp2_with fail
  refine HEQ.out.mono ?_
  rintro e w2 ⟨rfl, hb2⟩
  have HF := Lib.hid (bthen HB1.out hb2)
  clear hb2
  go_wp2_with fail
  go_ret
  exact ⟨rfl, HF.out⟩
end Go.Proofs.Ytdblibjmgamjeaa
