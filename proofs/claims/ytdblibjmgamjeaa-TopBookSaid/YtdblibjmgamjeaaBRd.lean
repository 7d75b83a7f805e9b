/-
  The walk of bindery.Read. Printed by gen_brd.py. Own text.
-/
import Derived.Test.YtdblibjmgamjeaaPart
import Derived.Test.YtdblibjmgamjeaaEq8
import Derived.Test.YtdblibjmgamjeaaPlR
import Derived.Test.YtdblibjmgamjeaaFrame
import Derived.Test.YtdblibjmgamjeaaRowL
import Derived.Deep.RegionHeld3
import Derived.Deep.DrawnRows
namespace Go.Proofs.Ytdblibjmgamjeaa
open Go.RowKit
set_option linter.unusedVariables false
/-- The two pages of leaf i, trimmed. -/
def trimAt (l : Lay) (ss : List (Img × Img)) (i : Nat) : List Img :=
  let s := ss.getD i (fillI 1 1 0, fillI 1 1 0)
  [cropI s.1 (innerV l (2 * (i : Int) + 1)) l.head l.w.toNat l.h.toNat, cropI s.2 (l.w + l.fore + l.spine - innerV l (2 * (i : Int) + 1) - l.w) l.head l.w.toNat l.h.toNat]
def trimTo (l : Lay) (ss : List (Img × Img)) (n : Nat) : List Img := ((List.range n).map (trimAt l ss)).flatten
theorem trim_len (l : Lay) (ss : List (Img × Img)) : ∀ n, (trimTo l ss n).length = n + n
  | 0 => rfl
  | n + 1 => by
    have h := trim_len l ss n
    unfold trimTo at h ⊢
    rw [List.range_succ, List.map_append, List.flatten_append, List.length_append, h]
    show n + n + 2 = _
    omega
theorem trim_snoc (l : Lay) (ss : List (Img × Img)) (n : Nat) : trimTo l ss (n + 1) = trimTo l ss n ++ trimAt l ss n := by
  unfold trimTo
  rw [List.range_succ, List.map_append, List.flatten_append]
  simp
theorem encRp_one (y : RawP) : ∀ u ∈ encRp y, u.oneCell' = true := by simp [encRp, Value.oneCell']
/-- Pages of the call's own are returned, and 0. -/
def RetRd (gs : List Img) (w : World) (e : Ending) (w' : World) : Prop := ∃ us oa c, e = .returned (.tuple #[.slice oa gs.length c, .int .i64 0]) ∧ RowsV encRp blkP RelP 3 w' oa us gs ∧ Below w.heap.size w w' ∧ (∀ a, oa = some a → w.heap.size ≤ a.block) ∧ ∀ u ∈ us, ∀ g, blkP u g → w.heap.size ≤ g
abbrev PU (w : World) (B : Nat) (v : Value) (us : List RawP) (gs : List Img) : Prop := RowsU encRp blkP RelP 37 3 w B v us gs
set_option maxRecDepth 100000 in
set_option maxHeartbeats 32000000 in
theorem brd_any (l : Lay) (x : Sht) (hx : Good l x) (os : Option Addr) (cs : Nat) (ss : List (Img × Img)) (hn : ss.length = leavesV l.sc) (hss : ∀ s ∈ ss, (Sized s.1 ∧ Sized s.2) ∧ (s.1.W : Int) = l.w + l.fore + l.spine ∧ (s.1.H : Int) = l.h + 2 * l.head ∧ (s.2.W : Int) = l.w + l.fore + l.spine ∧ (s.2.H : Int) = l.h + 2 * l.head) (oa : Option Addr) (ca : Nat) (us : List RawB) (w : World) (hs : StpAt w l os cs) (ha : RowB w oa us ss) :
    Calls Try.prog 16 #[.slice oa ss.length ca, layV l os l.sc.steps.length cs] w (RetRd (trimTo l ss ss.length) w) := by
  have hr := hx.rng
  have hlv := leaves_bd hx.f.inn
  have hcc : l.sc.cols ≤ 8 ∧ l.sc.rows ≤ 8 ∧ 1 ≤ l.sc.cols ∧ 1 ≤ l.sc.rows := ⟨hx.f.inn.2.1, hx.f.inn.2.2.2.1, hx.f.inn.1, hx.f.inn.2.2.1⟩
  have HCK : Hid (∀ W, Below w.heap.size w W → Calls Try.prog 7 #[layV l os l.sc.steps.length cs] W (RetCode (GoodL l) W)) := fun W hb => icheck_any l os cs W (hs.below hb)
  have HFR : Hid (∀ W, Below w.heap.size w W → Calls Try.prog 34 #[layV l os l.sc.steps.length cs] W fun e w' => e = .returned (frameV l) ∧ Below W.heap.size W w') := fun W hb => frame_any l x hx os cs W (hs.below hb)
  have HGL : Hid (GoodL l) := ⟨x, hx⟩
  obtain ⟨A, hA⟩ : ∃ q, q = l.w + l.fore + l.spine := ⟨_, rfl⟩
  obtain ⟨Bh, hBh⟩ : ∃ q, q = l.h + 2 * l.head := ⟨_, rfl⟩
  obtain ⟨SW, hSW⟩ : ∃ q, q = oneW l := ⟨_, rfl⟩
  obtain ⟨SH, hSH⟩ : ∃ q, q = oneH l := ⟨_, rfl⟩
  have hFV : frameV l = .agg #[.int .i64 A, .int .i64 Bh, .int .i64 SW, .int .i64 SH] := by rw [hA, hBh, hSW, hSH]
  have b1 := hr.w; have b2 := hr.h; have b3 := hr.head; have b4 := hr.fore; have b5 := hr.spine; have b6 := hr.creep
  obtain ⟨n, hnn⟩ : ∃ q, q = ss.length := ⟨_, rfl⟩
  have hn1 : 1 ≤ n ∧ n ≤ 32 ∧ (n : Int) = l.sc.cols * l.sc.rows := by rw [hnn, hn]; exact hlv
  have x1 : IntKind.i64.wrap (l.sc.cols * l.sc.rows) = (n : Int) := by rw [← hn1.2.2]; exact IntWalk.i64_in _ (by omega)
  /- the inner space of leaf k -/
  have HIV : Hid (∀ k : Nat, k < n → ∃ (iv : Nat) (mv cd : Int), (iv : Int) = innerV l (2 * (k : Int) + 1) ∧ (if (n : Int) - 1 - (k : Int) < (k : Int) then (n : Int) - 1 - (k : Int) else (k : Int)) = mv ∧ IntKind.i64.wrap (l.creep * mv) = cd ∧ IntKind.i64.wrap (l.spine - cd) = (iv : Int) ∧ (iv : Int) ≤ l.spine) := fun k hk => by
    have h1 := inner_bd hx (page := 2 * (k : Int) + 1) (by omega) (by omega)
    have h2 : innerV l (2 * (k : Int) + 1) = l.spine - l.creep * min (k : Int) ((n : Int) - 1 - (k : Int)) := by
      unfold innerV depthV
      rw [show (2 * (k : Int) + 1 - 1) / 2 = (k : Int) by omega, ← hn1.2.2]
    have h4 : (if (n : Int) - 1 - (k : Int) < (k : Int) then (n : Int) - 1 - (k : Int) else (k : Int)) = min (k : Int) ((n : Int) - 1 - (k : Int)) := by split <;> omega
    have h5 : l.creep * min (k : Int) ((n : Int) - 1 - (k : Int)) = l.spine - innerV l (2 * (k : Int) + 1) := by omega
    refine ⟨(innerV l (2 * (k : Int) + 1)).toNat, (if (n : Int) - 1 - (k : Int) < (k : Int) then (n : Int) - 1 - (k : Int) else (k : Int)), l.creep * (if (n : Int) - 1 - (k : Int) < (k : Int) then (n : Int) - 1 - (k : Int) else (k : Int)), by omega, rfl, ?_, ?_, by omega⟩
    · rw [h4]; exact IntWalk.i64_in _ (by omega)
    · rw [h4, h5]
      have h3 : (((innerV l (2 * (k : Int) + 1)).toNat : Nat) : Int) = innerV l (2 * (k : Int) + 1) := by omega
      rw [h3, show l.spine - (l.spine - innerV l (2 * (k : Int) + 1)) = innerV l (2 * (k : Int) + 1) by omega]
      exact IntWalk.i64_in _ (by omega)
  have hn2 : 1 ≤ n ∧ n ≤ 32 := ⟨hn1.1, hn1.2.1⟩
  obtain ⟨wn, hwn⟩ : ∃ q : Nat, (q : Int) = l.w := ⟨l.w.toNat, by omega⟩
  obtain ⟨hN, hhN⟩ : ∃ q : Nat, (q : Int) = l.h := ⟨l.h.toNat, by omega⟩
  obtain ⟨hd, hhd⟩ : ∃ q : Nat, (q : Int) = l.head := ⟨l.head.toNat, by omega⟩
  have HSS : Hid (∀ s ∈ ss, (Sized s.1 ∧ Sized s.2) ∧ (s.1.W : Int) = A ∧ (s.1.H : Int) = Bh ∧ (s.2.W : Int) = A ∧ (s.2.H : Int) = Bh) := by
    show ∀ s ∈ ss, _
    rw [hA, hBh]; exact hss
  have HSD : Hid (∀ (s : Img × Img) W oU oD kU kD, s ∈ ss → PxAt W oU (listI s.1).length kU (listI s.1) → PxAt W oD (listI s.2).length kD (listI s.2) → Calls Try.prog 29 #[.agg #[.int .i64 A, .int .i64 Bh, .slice oU (listI s.1).length kU], .agg #[.int .i64 A, .int .i64 Bh, .slice oD (listI s.2).length kD]] W fun e w' => e = .returned (.int .i64 0) ∧ Below W.heap.size W w') := fun s W oU oD kU kD hsm h1 h2 => by
    obtain ⟨⟨z1, z2⟩, e1, e2, e3, e4⟩ := HSS.out s hsm
    have h := sides_any s.1 s.2 z1 (by omega) (by omega) oU oD kU kD W h1 h2
    rw [e1, e2, e3, e4] at h
    exact h
  /- a trimmed page -/
  have HPU : Hid (∀ (I : Img) (a : Nat) W o k, Sized I → (I.W : Int) = A → (I.H : Int) = Bh → (a : Int) + l.w ≤ A → PxAt W o (listI I).length k (listI I) → Calls Try.prog 30 #[.agg #[.int .i64 A, .int .i64 Bh, .slice o (listI I).length k], .int .i64 a, .int .i64 l.head, .int .i64 l.w, .int .i64 l.h, .int .i64 0] W (fun e w' => ∃ o' c', e = .returned (.agg #[.int .i64 l.w, .int .i64 l.h, .slice o' (listI (cropI I a l.head l.w.toNat l.h.toNat)).length c']) ∧ OwnPx w' W.heap.size (.slice o' (listI (cropI I a l.head l.w.toNat l.h.toNat)).length c') (listI (cropI I a l.head l.w.toNat l.h.toNat)) ∧ Below W.heap.size W w')) := fun I a W o k hI e1 e2 h1 h2 => by
    have h := part_any I hI o k a hd wn hN (by omega) (by omega) (by omega) (by omega) 0 (by omega) W h2
    have e3 : turnI (cropI I a hd wn hN) 0 = cropI I a l.head l.w.toNat l.h.toNat := by
      show cropI I a hd wn hN = _
      rw [hhd, show l.w.toNat = wn by omega, show l.h.toNat = hN by omega]
    rw [e3, e1, e2, hwn, hhN, hhd] at h
    refine h.mono ?_
    rintro e w' ⟨o', c', he, ho, hb⟩
    refine ⟨o', c', ?_, ho, hb⟩
    rw [he]
    show Ending.returned (.agg #[.int .i64 ((l.w.toNat : Nat) : Int), .int .i64 ((l.h.toNat : Nat) : Int), _]) = _
    rw [show ((l.w.toNat : Nat) : Int) = l.w by omega, show ((l.h.toNat : Nat) : Int) = l.h by omega]
  obtain ⟨m, hm⟩ : ∃ m, m = l.sc.steps.length := ⟨_, rfl⟩
  rw [hFV] at HFR
  rw [← hm] at HCK HFR ⊢
  rw [← hnn]
  have HRA : Hid (RowB w oa us ss) := ha
  have HNN := Lib.hid hnn
  have HAB : Hid (A = l.w + l.fore + l.spine ∧ Bh = l.h + 2 * l.head) := ⟨hA, hBh⟩
  obtain ⟨W1, hW1⟩ : ∃ W1, W1 = w.alloc (layO l os m cs) := ⟨_, rfl⟩
  have hb1 : Below w.heap.size w W1 := by rw [hW1]; exact balloc (Below.refl _ w) _
  have hz1 : W1.heap.size = w.heap.size + 1 := by rw [hW1]; simp
  have ht1 : FTab (fun v : Value => v) W1 w.heap.size 11 (layF l os m cs) := by rw [hW1]; exact layF_new w l os m cs _
  have HW1 : Hid (w.alloc (layO l os m cs) = W1) := hW1.symm
  unfold layO at HW1
  have HB1 := Lib.hid hb1
  have HC1 : Hid (∀ W, Below W1.heap.size W1 W → (W.cell? ⟨w.heap.size, 0, none⟩ = some (.int .i64 l.sc.cols) ∧ W.cell? ⟨w.heap.size, 1, none⟩ = some (.int .i64 l.sc.rows) ∧ W.cell? ⟨w.heap.size, 2, none⟩ = some (.slice os m cs) ∧ W.cell? ⟨w.heap.size, 3, none⟩ = some (.int .i64 l.w) ∧ W.cell? ⟨w.heap.size, 4, none⟩ = some (.int .i64 l.h) ∧ W.cell? ⟨w.heap.size, 5, none⟩ = some (.int .i64 l.head) ∧ W.cell? ⟨w.heap.size, 6, none⟩ = some (.int .i64 l.fore) ∧ W.cell? ⟨w.heap.size, 7, none⟩ = some (.int .i64 l.spine) ∧ W.cell? ⟨w.heap.size, 8, none⟩ = some (.int .i64 l.margin) ∧ W.cell? ⟨w.heap.size, 9, none⟩ = some (.int .i64 l.creep) ∧ W.cell? ⟨w.heap.size, 10, none⟩ = some (.int .i64 l.style))) := fun W hb => by
    have h := ht1.below hb (by omega)
    exact ⟨h.at' 0 (by omega), h.at' 1 (by omega), h.at' 2 (by omega), h.at' 3 (by omega), h.at' 4 (by omega), h.at' 5 (by omega), h.at' 6 (by omega), h.at' 7 (by omega), h.at' 8 (by omega), h.at' 9 (by omega), h.at' 10 (by omega)⟩
  clear hW1 hb1 hz1 ht1 hx hr hlv hn hss hs ha hA hBh hSW hSH hFV hm hnn hwn hhN hhd hn1
  go_enter Try.func16, Try.ntmps16
  go_upto_region 1 with fail
  rw [HW1.out]
  clear HW1
  obtain ⟨c0, c1, c2, c3, c4, c5, c6, c7, c8, c9, c10⟩ := HC1.out W1 (Below.refl _ W1)
  have HL := Lib.hid (HCK.out W1 HB1.out)
  clear HCK
  go_wp2_with fail
  refine HL.out.mono ?_
  intro e w2 hret
  obtain ⟨rfl, hb2⟩ := hret.ok HGL.out
  have HB2 := Lib.hid hb2
  clear c0 c1 c2 c3 c4 c5 c6 c7 c8 c9 c10 HL hb2 hret
  obtain ⟨c0, c1, c2, c3, c4, c5, c6, c7, c8, c9, c10⟩ := HC1.out w2 HB2.out
  have HFR2 := Lib.hid (HFR.out w2 (bthen HB1.out HB2.out))
  clear HFR
  go_wp2_with fail
  refine HFR2.out.mono ?_
  rintro e w4 ⟨rfl, hb4⟩
  clear c0 c1 c2 c3 c4 c5 c6 c7 c8 c9 c10 HFR2
  obtain ⟨W5, hW5⟩ : ∃ W5, W5 = w4.alloc (.cells #[.int .i64 A, .int .i64 Bh, .int .i64 SW, .int .i64 SH] 95) := ⟨_, rfl⟩
  have hb45 : Below w4.heap.size w4 W5 := by rw [hW5]; exact balloc (Below.refl _ w4) _
  have ht8 : FTab (fun v : Value => v) W5 w4.heap.size 4 (fmF (.int .i64 A) (.int .i64 Bh) (.int .i64 SW) (.int .i64 SH)) := by rw [hW5]; exact fmF_new w4 _ _ _ _ _
  have hl8 : w4.heap.size < W5.heap.size := by rw [hW5]; simp
  obtain ⟨g8, hg8⟩ : ∃ g, g = w4.heap.size := ⟨_, rfl⟩
  have HW5 := Lib.hid hW5
  have HB5 := Lib.hid (bthen HB2.out (bthen hb4 hb45))
  rw [← hg8] at ht8 hl8
  have HT8 := Lib.hid ht8
  have HL8 := Lib.hid hl8
  clear hW5 hb4 hb45 ht8 hl8 x1
  dsimp only
  go_upto_region 8 with fail
  rw [← HW5.out]
  clear HW5
  rw [← hg8]
  clear hg8
  go_wp2_with fail
  go_loopw [36] (fun i wr => ∃ k : Nat, k ≤ n ∧ i = .int .i64 k ∧ Hid (Below W5.heap.size W5 wr)) (fun i _ => n - (intOf i).toNat)
  case atStart => exact ⟨0, by omega, rfl, Below.refl _ _⟩
  case round =>
    obtain ⟨k, hk, rfl, HY⟩ := hrel
    obtain ⟨wa, rfl⟩ : ∃ wa : World, wa = wr := ⟨_, rfl⟩
    by_cases hlt : k < n
    · have kd : (k : Int) < (n : Int) := by omega
      have hkl : k < ss.length := by rw [← HNN.out]; exact hlt
      have hbw : Below w.heap.size w wa := bthen HB1.out (bthen HB5.out HY.out)
      obtain ⟨b, off, oU, kU, oD, kD, rfl, e0, e1, e2, e3, e4, e5, pU, pD⟩ := RowB.at (HRA.out.below stabB hbw) hkl
      have hsm := List.getElem_mem hkl
      obtain ⟨-, z1, z2, z3, z4⟩ := HSS.out _ hsm
      rw [z1] at e0
      rw [z2] at e1
      rw [z3] at e3
      rw [z4] at e4
      obtain ⟨nU, hnU⟩ : ∃ q, q = (listI ss[k].1).length := ⟨_, rfl⟩
      obtain ⟨nD, hnD⟩ : ∃ q, q = (listI ss[k].2).length := ⟨_, rfl⟩
      obtain ⟨wb, hwb⟩ : ∃ wb, wb = wa.alloc (.cells #[.int .i64 A, .int .i64 Bh, .slice oU nU kU, .int .i64 A, .int .i64 Bh, .slice oD nD kD] 101) := ⟨_, rfl⟩
      have hbb : Below wa.heap.size wa wb := by rw [hwb]; exact balloc (Below.refl _ wa) _
      have hcd : ∀ q, wb.cell? ⟨wa.heap.size, q, none⟩ = (#[.int .i64 A, .int .i64 Bh, .slice oU nU kU, .int .i64 A, .int .i64 Bh, .slice oD nD kD] : Array Value)[q]? := fun q => cell_of_row wb wa.heap.size q _ 101 (0, 0) (by rw [hwb]; exact heap_alloc_new wa _)
      have HSD2 : Hid (Calls Try.prog 29 #[.agg #[.int .i64 A, .int .i64 Bh, .slice oU nU kU], .agg #[.int .i64 A, .int .i64 Bh, .slice oD nD kD]] wb fun e w' => e = .returned (.int .i64 0) ∧ Below wb.heap.size wb w') := by
        rw [hnU, hnD]
        exact HSD.out ss[k] wb oU oD kU kD hsm (pU.below hbb) (pD.below hbb)
      rw [← hnU] at e2
      rw [← hnD] at e5
      have d0 : wb.cell? ⟨wa.heap.size, 0, none⟩ = some (.int .i64 A) := (hcd 0).trans rfl
      have d1 : wb.cell? ⟨wa.heap.size, 1, none⟩ = some (.int .i64 Bh) := (hcd 1).trans rfl
      have d2 : wb.cell? ⟨wa.heap.size, 2, none⟩ = some (.slice oU nU kU) := (hcd 2).trans rfl
      have d3 : wb.cell? ⟨wa.heap.size, 3, none⟩ = some (.int .i64 A) := (hcd 3).trans rfl
      have d4 : wb.cell? ⟨wa.heap.size, 4, none⟩ = some (.int .i64 Bh) := (hcd 4).trans rfl
      have d5 : wb.cell? ⟨wa.heap.size, 5, none⟩ = some (.slice oD nD kD) := (hcd 5).trans rfl
      have HWB := Lib.hid hwb
      have HBB := Lib.hid (bthen HY.out hbb)
      clear hwb hbb hcd hsm z1 z2 z3 z4 hnU hnD pU pD hbw hkl
      go_upto_region 11 with fail
      rw [← HWB.out]
      clear HWB e0 e1 e2 e3 e4 e5
      go_wp2_with fail
      refine HSD2.out.mono ?_
      rintro e wc ⟨rfl, hbc⟩
      have d0 := keepCell hbc d0
      have d1 := keepCell hbc d1
      have HBC := Lib.hid (bthen HBB.out hbc)
      have h8 := HT8.out.below HBC.out HL8.out
      have f0 : wc.cell? ⟨g8, 0, none⟩ = some (.int .i64 A) := h8.at' 0 (by omega)
      have f1 : wc.cell? ⟨g8, 1, none⟩ = some (.int .i64 Bh) := h8.at' 1 (by omega)
      clear h8 hbc d2 d3 d4 d5 HSD2
      go_wp2_with fail
      go_roundw
      case rel => exact ⟨k + 1, by omega, by go_num, HBC⟩
      case measure => simp [intOf]; omega
    · obtain rfl : n = k := by omega
      obtain ⟨w5, hw5⟩ : ∃ q, q = wa := ⟨_, rfl⟩
      rw [← hw5] at HY ⊢
      clear hw5 hlt hk
      go_wp2_with fail
      go_loopw [12, 65] (fun v i wr => ∃ k : Nat, k ≤ n ∧ i = .int .i64 k ∧ ∃ o c, v = .slice o (k + k) c ∧ Hid (Below w5.heap.size w5 wr ∧ ∃ us, PU wr w5.heap.size (.slice o (k + k) c) us (trimTo l ss k) ∧ ∀ u ∈ us, ∀ g, blkP u g → w5.heap.size ≤ g)) (fun _ i _ => n - (intOf i).toNat)
      case atStart => exact ⟨0, by omega, rfl, none, 0, rfl, Below.refl _ _, [], RowsU.nil _ _, fun u h => (by cases h)⟩
      case round =>
        obtain ⟨k, hk, rfl, o, c, rfl, HQ⟩ := hrel
        obtain ⟨wq, rfl⟩ : ∃ wq : World, wq = wr := ⟨_, rfl⟩
        obtain ⟨hbq, us', hu, hlo⟩ := HQ.out
        clear HQ
        by_cases hlt : k < n
        · have kd : (k : Int) < (n : Int) := by omega
          have hkl : k < ss.length := by rw [← HNN.out]; exact hlt
          obtain ⟨iv, mv, cd, hiv, xm, x2, x3, hiv2⟩ := HIV.out k hlt
          have hbw : Below w.heap.size w wq := bthen HB1.out (bthen HB5.out (bthen HY.out hbq))
          obtain ⟨b, off, oU, kU, oD, kD, rfl, e0, e1, e2, e3, e4, e5, pU, pD⟩ := RowB.at (HRA.out.below stabB hbw) hkl
          have hsm := List.getElem_mem hkl
          obtain ⟨⟨y1, y2⟩, z1, z2, z3, z4⟩ := HSS.out _ hsm
          rw [z1] at e0
          rw [z2] at e1
          rw [z3] at e3
          rw [z4] at e4
          have hdn : ∃ dn : Nat, (dn : Int) = A - iv - l.w := ⟨(A - iv - l.w).toNat, by have := HAB.out.1; omega⟩
          obtain ⟨dn, hdn⟩ := hdn
          have htr : trimAt l ss k = [cropI ss[k].1 iv l.head l.w.toNat l.h.toNat, cropI ss[k].2 dn l.head l.w.toNat l.h.toNat] := by
            unfold trimAt
            dsimp only
            rw [List.getD_eq_getElem?_getD, List.getElem?_eq_getElem hkl, ← hiv, hdn, HAB.out.1]
            rfl
          obtain ⟨IU, hIU⟩ : ∃ I, I = cropI ss[k].1 iv l.head l.w.toNat l.h.toNat := ⟨_, rfl⟩
          obtain ⟨ID, hID⟩ : ∃ I, I = cropI ss[k].2 dn l.head l.w.toNat l.h.toNat := ⟨_, rfl⟩
          have hIW : (l.w = (IU.W : Int) ∧ l.h = (IU.H : Int)) ∧ l.w = (ID.W : Int) ∧ l.h = (ID.H : Int) := by
            rw [hIU, hID]
            refine ⟨⟨?_, ?_⟩, ?_, ?_⟩
            · show l.w = ((l.w.toNat : Nat) : Int); omega
            · show l.h = ((l.h.toNat : Nat) : Int); omega
            · show l.w = ((l.w.toNat : Nat) : Int); omega
            · show l.h = ((l.h.toNat : Nat) : Int); omega
          obtain ⟨nU, hnU⟩ : ∃ q, q = (listI ss[k].1).length := ⟨_, rfl⟩
          obtain ⟨nD, hnD⟩ : ∃ q, q = (listI ss[k].2).length := ⟨_, rfl⟩
          obtain ⟨mU, hmU⟩ : ∃ q, q = (listI IU).length := ⟨_, rfl⟩
          obtain ⟨mD, hmD⟩ : ∃ q, q = (listI ID).length := ⟨_, rfl⟩
          obtain ⟨wb, hwb⟩ : ∃ wb, wb = wq.alloc (.cells #[.int .i64 A, .int .i64 Bh, .slice oU nU kU, .int .i64 A, .int .i64 Bh, .slice oD nD kD] 101) := ⟨_, rfl⟩
          have hbb : Below wq.heap.size wq wb := by rw [hwb]; exact balloc (Below.refl _ wq) _
          have hcd : ∀ q, wb.cell? ⟨wq.heap.size, q, none⟩ = (#[.int .i64 A, .int .i64 Bh, .slice oU nU kU, .int .i64 A, .int .i64 Bh, .slice oD nD kD] : Array Value)[q]? := fun q => cell_of_row wb wq.heap.size q _ 101 (0, 0) (by rw [hwb]; exact heap_alloc_new wq _)
          have hlq : wq.heap.size < wb.heap.size := by rw [hwb]; simp
          obtain ⟨g14, hg14⟩ : ∃ q, q = wq.heap.size := ⟨_, rfl⟩
          have HUP : Hid (∀ W, Below wb.heap.size wb W → Calls Try.prog 30 #[.agg #[.int .i64 A, .int .i64 Bh, .slice oU nU kU], .int .i64 iv, .int .i64 l.head, .int .i64 l.w, .int .i64 l.h, .int .i64 0] W (fun e w' => ∃ o' c', e = .returned (.agg #[.int .i64 l.w, .int .i64 l.h, .slice o' mU c']) ∧ OwnPx w' W.heap.size (.slice o' mU c') (listI IU) ∧ Below W.heap.size W w')) := fun W hb => by
            rw [hnU, hmU, hIU]
            exact HPU.out ss[k].1 iv W oU kU y1 z1 z2 (by have := HAB.out.1; omega) ((pU.below hbb).below hb)
          have HDN : Hid (∀ W, Below wb.heap.size wb W → Calls Try.prog 30 #[.agg #[.int .i64 A, .int .i64 Bh, .slice oD nD kD], .int .i64 (A - iv - l.w), .int .i64 l.head, .int .i64 l.w, .int .i64 l.h, .int .i64 0] W (fun e w' => ∃ o' c', e = .returned (.agg #[.int .i64 l.w, .int .i64 l.h, .slice o' mD c']) ∧ OwnPx w' W.heap.size (.slice o' mD c') (listI ID) ∧ Below W.heap.size W w')) := fun W hb => by
            rw [hnD, hmD, hID]
            have h := HPU.out ss[k].2 dn W oD kD y2 z3 z4 (by omega) ((pD.below hbb).below hb)
            rw [hdn] at h
            rw [hdn]
            exact h
          rw [← hnU] at e2
          rw [← hnD] at e5
          rw [← hIU, ← hID] at htr
          have x4 : IntKind.i64.wrap (A - iv) = A - iv := IntWalk.i64_in _ (by have := HAB.out.1; omega)
          have x5 : IntKind.i64.wrap (A - iv - l.w) = A - iv - l.w := IntWalk.i64_in _ (by have := HAB.out.1; omega)
          have x6 : IntKind.i64.wrap ((n : Int) - 1) = (n : Int) - 1 := IntWalk.i64_in _ (by omega)
          have x7 : IntKind.i64.wrap ((n : Int) - 1 - (k : Int)) = (n : Int) - 1 - (k : Int) := IntWalk.i64_in _ (by omega)
          have HTR : Hid (trimTo l ss (k + 1) = trimTo l ss k ++ [IU, ID]) := by show _ = _; rw [trim_snoc, htr]
          have HIS : Hid ((l.w = (IU.W : Int) ∧ l.h = (IU.H : Int)) ∧ (l.w = (ID.W : Int) ∧ l.h = (ID.H : Int)) ∧ mU = (listI IU).length ∧ mD = (listI ID).length) := ⟨hIW.1, hIW.2, hmU, hmD⟩
          have hul : us'.length = k + k := by rw [hu.len, trim_len]
          have HUL := Lib.hid hul
          have HBYT : Hid ((us'.length + 2) * 40 ≤ 140737488355328) := by show _ ≤ _; omega
          have H63 : Hid (us'.length + 2 ≤ maxLen) := by show _ ≤ _; unfold maxLen; omega
          have HU := Lib.hid (hu.below stabPl hbb)
          have HLO := Lib.hid hlo
          have HBB : Hid (Below w5.heap.size w5 wb) := bthen hbq hbb
          have hbW1 : Below W1.heap.size W1 wb := bthen HB5.out (bthen HY.out HBB.out)
          have h8 := HT8.out.below (bthen HY.out HBB.out) HL8.out
          have HSP : Hid (∀ W, Below wb.heap.size wb W → W.cell? ⟨g14, 0, none⟩ = some (.int .i64 A) ∧ W.cell? ⟨g14, 1, none⟩ = some (.int .i64 Bh) ∧ W.cell? ⟨g14, 2, none⟩ = some (.slice oU nU kU) ∧ W.cell? ⟨g14, 3, none⟩ = some (.int .i64 A) ∧ W.cell? ⟨g14, 4, none⟩ = some (.int .i64 Bh) ∧ W.cell? ⟨g14, 5, none⟩ = some (.slice oD nD kD) ∧ W.cell? ⟨g8, 0, none⟩ = some (.int .i64 A) ∧ W.cell? ⟨w.heap.size, 3, none⟩ = some (.int .i64 l.w) ∧ W.cell? ⟨w.heap.size, 4, none⟩ = some (.int .i64 l.h) ∧ W.cell? ⟨w.heap.size, 5, none⟩ = some (.int .i64 l.head)) := fun W hb => by
            obtain ⟨-, -, -, c3, c4, c5, -, -, -, -, -⟩ := HC1.out wb hbW1
            refine ⟨keepCell hb ?_, keepCell hb ?_, keepCell hb ?_, keepCell hb ?_, keepCell hb ?_, keepCell hb ?_, keepCell hb (h8.at' 0 (by omega)), keepCell hb c3, keepCell hb c4, keepCell hb c5⟩
            · rw [hg14]; exact (hcd 0).trans rfl
            · rw [hg14]; exact (hcd 1).trans rfl
            · rw [hg14]; exact (hcd 2).trans rfl
            · rw [hg14]; exact (hcd 3).trans rfl
            · rw [hg14]; exact (hcd 4).trans rfl
            · rw [hg14]; exact (hcd 5).trans rfl
          have HRB : Hid (∀ g, (Value.slice o (k + k) c).ownBlock = some g → g < wq.heap.size ∧ w5.heap.size ≤ g) := fun g hg => ⟨(hu.op.blk hg).2, (hu.op.blk hg).1⟩
          have HGB : Hid (g8 < w5.heap.size ∧ w.heap.size < w5.heap.size ∧ g14 = wq.heap.size ∧ wq.heap.size < wb.heap.size ∧ w5.heap.size ≤ wq.heap.size) := ⟨by have := HL8.out; have := HY.out.size; omega, by have := HB5.out.size; have := HY.out.size; have := HL8.out; have := cell?_lt ((HC1.out W1 (Below.refl _ _)).1); simp at this; omega, hg14, hlq, hbq.size⟩
          have HSG : Hid (∀ W1 W, Below wb.heap.size wb W1 → W1.grownBy W (Value.slice o (k + k) c).ownBlock → W.cell? ⟨g14, 0, none⟩ = some (.int .i64 A) ∧ W.cell? ⟨g14, 1, none⟩ = some (.int .i64 Bh) ∧ W.cell? ⟨g14, 2, none⟩ = some (.slice oU nU kU) ∧ W.cell? ⟨g14, 3, none⟩ = some (.int .i64 A) ∧ W.cell? ⟨g14, 4, none⟩ = some (.int .i64 Bh) ∧ W.cell? ⟨g14, 5, none⟩ = some (.slice oD nD kD) ∧ W.cell? ⟨g8, 0, none⟩ = some (.int .i64 A) ∧ W.cell? ⟨w.heap.size, 3, none⟩ = some (.int .i64 l.w) ∧ W.cell? ⟨w.heap.size, 4, none⟩ = some (.int .i64 l.h) ∧ W.cell? ⟨w.heap.size, 5, none⟩ = some (.int .i64 l.head)) := fun W1 W hb hg => by
            have h := HSP.out W1 hb
            have hz := hb.size
            obtain ⟨q1, q2, q3, q4, q5⟩ := HGB.out
            have key : ∀ (a : Addr) v, W1.cell? a = some v → ((Value.slice o (k + k) c).ownBlock ≠ some a.block) → W.cell? a = some v := fun a v hc hne => by
              rw [World.cell?_of_block (w := W1) (a := a) (hg.block a.block (cell?_lt hc) fun e => hne e.symm)]; exact hc
            have n14 : (Value.slice o (k + k) c).ownBlock ≠ some g14 := fun e => by have := (HRB.out g14 e).1; omega
            have n8 : (Value.slice o (k + k) c).ownBlock ≠ some g8 := fun e => by have := (HRB.out g8 e).2; omega
            have n3 : (Value.slice o (k + k) c).ownBlock ≠ some w.heap.size := fun e => by have := (HRB.out _ e).2; omega
            obtain ⟨h0, h1, h2, h3, h4, h5, h6, h7, h8', h9⟩ := h
            exact ⟨key _ _ h0 n14, key _ _ h1 n14, key _ _ h2 n14, key _ _ h3 n14, key _ _ h4 n14, key _ _ h5 n14, key _ _ h6 n8, key _ _ h7 n3, key _ _ h8' n3, key _ _ h9 n3⟩
          have HWB := Lib.hid hwb
          obtain ⟨-, -, -, -, -, -, -, c7, -, c9, -⟩ := HC1.out wb hbW1
          clear hwb hbb hcd hlq hsm y1 y2 z1 z2 z3 z4 hdn htr hIU hID hIW hnU hnD hmU hmD hul hu hlo hbq pU pD hbw hkl hiv hbW1 h8
          go_upto_region 21 with fail
          rw [← HWB.out]
          clear HWB e0 e1 e2 e3 e4 e5
          rw [← hg14]
          clear hg14
          go_upto_region 22 with fail
          clear c7 c9
          go_region_held3 (fun W => W.cell? ⟨g14, 0, none⟩ = some (.int .i64 A) ∧ W.cell? ⟨g14, 1, none⟩ = some (.int .i64 Bh) ∧ W.cell? ⟨g14, 2, none⟩ = some (.slice oU nU kU) ∧ W.cell? ⟨g14, 3, none⟩ = some (.int .i64 A) ∧ W.cell? ⟨g14, 4, none⟩ = some (.int .i64 Bh) ∧ W.cell? ⟨g14, 5, none⟩ = some (.slice oD nD kD) ∧ W.cell? ⟨g8, 0, none⟩ = some (.int .i64 A) ∧ W.cell? ⟨w.heap.size, 3, none⟩ = some (.int .i64 l.w) ∧ W.cell? ⟨w.heap.size, 4, none⟩ = some (.int .i64 l.h) ∧ W.cell? ⟨w.heap.size, 5, none⟩ = some (.int .i64 l.head))
            (first | (exact HSG.out _ _ hzs hgr15) | (refine HSP.out _ ?_; (first | assumption | exact (Below.refl _ wb).drew | exact balloc (by assumption) _)))
            (first | fail | (go_simp; go_at_call 30; (with_reducible refine (HUP.out _ (Below.refl _ wb).drew).mono ?_); rintro e wx ⟨oi, ki, rfl, howni, hbi⟩; have hzx : Below wb.heap.size wb wx := bthen (w1 := wb.drew) (Below.refl _ wb).drew hbi; have HOI := Lib.hid howni; have HBI := Lib.hid hbi; clear howni hbi) | (go_simp; go_at_call 30; (with_reducible refine (HDN.out _ hzx).mono ?_); rintro e wy ⟨oj, kj, rfl, hownj, hbj⟩; have hzy : Below wb.heap.size wb wy := bthen hzx hbj; have hzs : Below wb.heap.size wb (wy.alloc (.cells #[.int .i64 l.w, .int .i64 l.h, .slice oi mU ki, .int .i64 l.w, .int .i64 l.h, .slice oj mD kj] 37)) := balloc hzy _; have HOJ := Lib.hid hownj; have HBJ := Lib.hid hbj; have HUY := Lib.hid (HU.out.below stabPl hzy); have HBY := Lib.hid (bthen HBB.out hzy); clear hownj hbj) | (refine step_appRowL (by rfl) (.tmp 82) (.tmp 109) 31 (by rfl) elemPlate Try.underlying31 w5.heap.size (.slice o (k + k) c) us' encRp (by rfl) (HUY.out.op.alloc _) [(⟨l.w, l.h, oi, mU, ki⟩ : RawP), ⟨l.w, l.h, oj, mD, kj⟩] ⟨wy.heap.size, 0, none⟩ 2 2 (by rfl) rfl Nat.two_pos (Flat.litN wy 3 encRp [(⟨l.w, l.h, oi, mU, ki⟩ : RawP), ⟨l.w, l.h, oj, mD, kj⟩] 37 (fun _ => rfl)) (fun _ => rfl) encRp_one HBYT.out H63.out (balloc HBY.out _).size ?_; rw [HUL.out]; intro g5 cap5 w15 hown15 hgr15 hat15; have HOWN15 := Lib.hid hown15; have HAT15 := Lib.hid hat15; clear hown15 hat15))
          all_goals
            have HNX : Hid (Below w5.heap.size w5 w15 ∧ ∃ us, PU w15 w5.heap.size (.slice (some ⟨g5, 0, none⟩) (k + 1 + (k + 1)) cap5) us (trimTo l ss (k + 1)) ∧ ∀ u ∈ us, ∀ g, blkP u g → w5.heap.size ≤ g) := by
              have hb9 := balloc (Below.refl _ wy) (.cells #[.int .i64 l.w, .int .i64 l.h, .slice oi mU ki, .int .i64 l.w, .int .i64 l.h, .slice oj mD kj] 37)
              have hu9 := HUY.out.below stabPl hb9
              have hbi : Below wx.heap.size wx wy := HBJ.out
              obtain ⟨oz, kz, ez, hcz⟩ := HOI.out.cap
              obtain ⟨oz2, kz2, ez2, hcz2⟩ := HOJ.out.cap
              simp only [Value.slice.injEq] at ez ez2
              have hki : (listI IU).length ≤ ki := by have := ez.2.2; omega
              have hkj : (listI ID).length ≤ kj := by have := ez2.2.2; omega
              have hzb : wb.heap.size ≤ wx.heap.size := hzx.size
              have hzx2 : wx.heap.size ≤ wy.heap.size := hbi.size
              have hfr : ∀ u ∈ [(⟨l.w, l.h, oi, mU, ki⟩ : RawP), ⟨l.w, l.h, oj, mD, kj⟩], ∀ g, blkP u g → wb.heap.size ≤ g ∧ g < wy.heap.size := fun u hu g hg => by
                simp only [List.mem_cons, List.not_mem_nil, or_false] at hu
                rcases hu with rfl | rfl
                · have h1 : wb.heap.size ≤ g ∧ g < wx.heap.size := HOI.out.blk hg
                  omega
                · have h1 := HOJ.out.blk hg
                  omega
              refine ⟨(balloc HBY.out _).grown hgr15 (by have := HBY.out.size; simp; omega) (fun q hq => (hu9.op.blk hq).1), us' ++ [⟨l.w, l.h, oi, mU, ki⟩, ⟨l.w, l.h, oj, mD, kj⟩], ?_, fun u hu g hg => ?_⟩
              · rw [HTR.out, show k + 1 + (k + 1) = k + k + 2 by omega]
                refine hu9.addN stabPl rfl (fun i h1 h2 => ?_) (fun u hu g hg => ⟨?_, fun e => ?_⟩) HOWN15.out hgr15 ?_
                · match i, h1 with
                  | 0, _ => exact ⟨HIS.out.1.1, HIS.out.1.2, HIS.out.2.2.1, hki, ((OwnPx.at HOI.out).below hbi).below hb9⟩
                  | 1, _ => exact ⟨HIS.out.2.1.1, HIS.out.2.1.2, HIS.out.2.2.2, hkj, (OwnPx.at HOJ.out).below hb9⟩
                · have := (hfr u hu g hg).2; simp; omega
                · have h1 := (hfr u hu g hg).1
                  have h2 := (HRB.out g e).1
                  have h3 := HGB.out
                  omega
                · rcases HAT15.out with e | e
                  · exact .inl e.symm
                  · exact .inr (by rw [e]; simp [Value.ownBlock])
              · rcases List.mem_append.1 hu with h | h
                · exact HLO.out u h g hg
                · have h1 := (hfr u h g hg).1
                  have h3 := HGB.out
                  omega
            clear HOWN15 HAT15 hgr15 HUY HOI HOJ hzx hzy hzs HSP HSG
            go_wp2_with fail
            go_roundw
            case rel => exact ⟨k + 1, by omega, by go_num, some ⟨g5, 0, none⟩, cap5, by rw [show k + 1 + (k + 1) = k + k + 2 by omega], HNX⟩
            case measure => simp [intOf]; omega
        · have HF : Hid (RetRd (trimTo l ss n) w (.returned (.tuple #[.slice o (n + n) c, .int .i64 0])) wq) := by
            obtain rfl : n = k := by omega
            have hbk : ∀ a, o = some a → w5.heap.size ≤ a.block := fun a e => (hu.op.blk (g := a.block) (by rw [e]; rfl)).1
            have hz : w.heap.size ≤ w5.heap.size := (bthen HB1.out (bthen HB5.out HY.out)).size
            obtain ⟨oa', cap', e', -, -, hv⟩ := hu.view (fun _ => rfl)
            simp only [Value.slice.injEq] at e'
            obtain ⟨rfl, -, rfl⟩ := e'
            exact ⟨us', o, c, by rw [trim_len], hv, bthen HB1.out (bthen HB5.out (bthen HY.out hbq)), fun a e => Nat.le_trans hz (hbk a e), fun u hu g hg => Nat.le_trans hz (hlo u hu g hg)⟩
          obtain rfl : n = k := by omega
          clear hu hlo hbq hlt hk
          go_wp2_with fail
          go_ret2
          exact HF.out
end Go.Proofs.Ytdblibjmgamjeaa
