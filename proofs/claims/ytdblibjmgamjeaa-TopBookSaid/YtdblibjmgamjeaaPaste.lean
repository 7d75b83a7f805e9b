/-
  The walk of raster's Paste. Own text.
-/
import Derived.Test.YtdblibjmgamjeaaPasteV
import Derived.Deep.Cut
import Derived.Deep.CutRange
namespace Go.Proofs.Ytdblibjmgamjeaa
open Go.RowKit
set_option linter.unusedVariables false
theorem pasteRes : Try.f25.results = #[.cell 8 74, .tmp 9] := rfl
/-- The raster under way: its variable c, its row g. -/
structure OutU (w0 wr : World) (c g cap n : Nat) (Wd Hd : Int) (xs : List Int) (rest : List Value) : Prop where
  bel : Below w0.heap.size w0 wr
  row : RowX wr w0.heap.size g cap xs rest
  tab : FTab (fun v : Value => v) wr c 3 (outF (.int .i64 Wd) (.int .i64 Hd) (.slice (some ⟨g, 0, none⟩) n cap))
  ln : n = xs.length
  ne : c ≠ g ∧ w0.heap.size ≤ c
theorem OutU.fresh {w0 w5 : World} {base g cap n : Nat} {Wd Hd : Int} {xs : List Int} {rest : List Value} (hn : n = xs.length) (hb : Below w0.heap.size w0 w5) (hbs : w0.heap.size ≤ base) (h : RowX w5 base g cap xs rest) (hg : g < w5.heap.size) (t : TypeId) :
    OutU w0 (w5.alloc (.cells #[.int .i64 Wd, .int .i64 Hd, .slice (some ⟨g, 0, none⟩) n cap] t)) w5.heap.size g cap n Wd Hd xs rest :=
  ⟨balloc hb _, ⟨by rw [(balloc (Below.refl _ w5) _).block g hg]; exact h.hp, h.ln, h.mx, Nat.le_trans hbs h.bs⟩, outF_new w5 _ _ _ _, hn, by omega, hb.size⟩
theorem OutU.old {w0 w5 : World} {base c g cap n : Nat} {Wd Hd : Int} {x0 y0 z0 : Value} {xs : List Int} {rest : List Value} (hn : n = xs.length) (hb : Below w0.heap.size w0 w5) (hbs : w0.heap.size ≤ base) (h : RowX w5 base g cap xs rest) (hc : w0.heap.size ≤ c) (hcb : c < base) (ht : FTab (fun v : Value => v) w5 c 3 (outF x0 y0 z0)) :
    OutU w0 (resW w5 c (.int .i64 Wd) (.int .i64 Hd) (.slice (some ⟨g, 0, none⟩) n cap)) c g cap n Wd Hd xs rest := by
  have hbg := h.bs
  have hr := res_set (x := .int .i64 Wd) (y := .int .i64 Hd) (z := .slice (some ⟨g, 0, none⟩) n cap) ht
  have t3 := ((ht.set (i := 0) (by omega) (.int .i64 Wd)).set (i := 1) (by omega) (.int .i64 Hd)).set (i := 2) (by omega) (.slice (some ⟨g, 0, none⟩) n cap)
  refine ⟨hr.bel hb hc, ⟨by rw [hr.hp g (by omega)]; exact h.hp, h.ln, h.mx, Nat.le_trans hbs h.bs⟩, ⟨fun i hi => ?_, t3.fz⟩, hn, by omega, hc⟩
  match i, hi with
  | 0, _ => exact hr.c0
  | 1, _ => exact hr.c1
  | 2, _ => exact hr.c2
theorem OutU.drew {w0 wr : World} {c g cap n : Nat} {Wd Hd : Int} {xs : List Int} {rest : List Value} (h : OutU w0 wr c g cap n Wd Hd xs rest) : OutU w0 wr.drew c g cap n Wd Hd xs rest := ⟨h.bel.drew, ⟨h.row.hp, h.row.ln, h.row.mx, h.row.bs⟩, h.tab.drew, h.ln, h.ne⟩
theorem OutU.copy {w0 wr w' : World} {c g cap off n : Nat} {Wd Hd : Int} {xs cs : List Int} {rest : List Value} (h : OutU w0 wr c g cap n Wd Hd xs rest) (hf : off + cs.length ≤ xs.length)
    (hg : w'.heap[g]? = some (.cells (Go.splice (u8s xs ++ rest) off (u8s cs)).toArray 5 (0, 0))) (hb : Below g wr w') (hk : ∀ k, k ≠ g → w'.heap[k]? = wr.heap[k]?) : OutU w0 w' c g cap n Wd Hd (Go.splice xs off cs) rest := by
  refine ⟨h.bel.trans (hb.mono h.row.bs), h.row.splice hf hg, h.tab.heap (hk c h.ne.1), ?_, h.ne⟩
  rw [length_splice _ _ _ hf]
  exact h.ln
set_option maxRecDepth 100000 in
set_option maxHeartbeats 16000000 in
theorem paste_any (m p : Img) (hm : Sized m) (hp : Sized p) (om op : Option Addr) (km kp : Nat) (x y : Int) (hx : -1024 ≤ x ∧ x ≤ 1024) (hy : -1024 ≤ y ∧ y ≤ 1024) (w : World)
    (hpm : PxAt w om (listI m).length km (listI m)) (hpp : PxAt w op (listI p).length kp (listI p)) (hkp : (listI p).length ≤ kp) :
    Calls Try.prog 25 #[.agg #[.int .i64 m.W, .int .i64 m.H, .slice om (listI m).length km], .int .i64 x, .int .i64 y, .agg #[.int .i64 p.W, .int .i64 p.H, .slice op (listI p).length kp]] w (RetGrid0 (pasteI m x y p) w) := by
  obtain ⟨W1, hW1⟩ : ∃ W1, W1 = ((w.alloc (.cells #[.int .i64 m.W, .int .i64 m.H, .slice om (listI m).length km] 74)).alloc (.cells #[.int .i64 p.W, .int .i64 p.H, .slice op (listI p).length kp] 74)).alloc (.cells #[.int .i64 0, .int .i64 0, .slice none 0 0] 74) := ⟨_, rfl⟩
  have hb1 : Below w.heap.size w W1 := by rw [hW1]; exact balloc (balloc (balloc (Below.refl _ w) _) _) _
  have hz1 : W1.heap.size = w.heap.size + 1 + 1 + 1 := by rw [hW1]; simp
  have hg1 : BoxG W1 w.heap.size m om km := by rw [hW1]; exact (boxG_new m om km w _ hpm).below (balloc (balloc (Below.refl _ _) _) _)
  have hg2 : BoxG W1 (w.heap.size + 1) p op kp := by
    have h := boxG_new p op kp (w.alloc (.cells #[.int .i64 m.W, .int .i64 m.H, .slice om (listI m).length km] 74)) 74 (hpp.below (balloc (Below.refl _ w) _))
    rw [World.size_alloc] at h
    rw [hW1]; exact h.below (balloc (Below.refl _ _) _)
  have ht2 : FTab (fun v : Value => v) W1 (w.heap.size + 1 + 1) 3 (outF (.int .i64 0) (.int .i64 0) (.slice none 0 0)) := by
    have h := outF_new ((w.alloc (.cells #[.int .i64 m.W, .int .i64 m.H, .slice om (listI m).length km] 74)).alloc (.cells #[.int .i64 p.W, .int .i64 p.H, .slice op (listI p).length kp] 74)) (.int .i64 0) (.int .i64 0) (.slice none 0 0) 74
    rw [World.size_alloc, World.size_alloc] at h
    rw [hW1]; exact h
  have HCK1 : Hid (Calls Try.prog 48 #[.agg #[.int .i64 m.W, .int .i64 m.H, .slice om (listI m).length km]] W1 fun e w' => e = .returned (.int .i64 0) ∧ Below W1.heap.size W1 w') := gcheck_any m hm om km W1
  have HCK2 : Hid (∀ W, Calls Try.prog 48 #[.agg #[.int .i64 p.W, .int .i64 p.H, .slice op (listI p).length kp]] W fun e w' => e = .returned (.int .i64 0) ∧ Below W.heap.size W w') := fun W => gcheck_any p hp op kp W
  have HCL : Hid (∀ W, Below W1.heap.size W1 W → Calls Try.prog 49 #[.slice om (listI m).length km] W (fun e w' => ∃ g cap rest, e = .returned (.slice (some ⟨g, 0, none⟩) (listI m).length cap) ∧ RowX w' W.heap.size g cap (listI m) rest ∧ g < w'.heap.size ∧ Below W.heap.size W w')) := fun W hb =>
    (clonePx (listI m) om km W (px_len hm).1 (by have := (px_len hm).2.1; omega) (hg1.px.below hb)).mono (by
      rintro e w' ⟨o', cap', rfl, ho, hb'⟩
      obtain ⟨-, g, rest, rfl, hr⟩ := ho.rowX (px_len hm).1
      refine ⟨g, cap', rest, rfl, hr, ?_, hb'⟩
      have h := hr.hp
      exact (ho.blk rfl).2)
  have HBX1 := Lib.hid hg1
  have HBX2 := Lib.hid hg2
  have c0 := hg1.c0
  have c1 := hg1.c1
  have c2 := hg1.c2
  have q0 := hg2.c0
  have q1 := hg2.c1
  have q2 := hg2.c2
  have HW1 : Hid (((w.alloc (.cells #[.int .i64 m.W, .int .i64 m.H, .slice om (listI m).length km] 74)).alloc (.cells #[.int .i64 p.W, .int .i64 p.H, .slice op (listI p).length kp] 74)).alloc (.cells #[.int .i64 0, .int .i64 0, .slice none 0 0] 74) = W1) := hW1.symm
  have HB1 := Lib.hid hb1
  have HZ1 := Lib.hid hz1
  have HT2 := Lib.hid ht2
  have HPM := Lib.hid (px_len hm)
  have HPP := Lib.hid (px_len hp)
  obtain ⟨m1, m2, m3, m4⟩ := hm
  obtain ⟨p1, p2, p3, p4⟩ := hp
  obtain ⟨x1, x2⟩ := hx
  obtain ⟨y1, y2⟩ := hy
  clear hW1 hb1 hz1 ht2 hg1 hg2 hpm hpp
  obtain ⟨n, hn⟩ : ∃ n, n = (listI m).length := ⟨_, rfl⟩
  obtain ⟨Wd, hWd⟩ : ∃ W, W = m.W := ⟨_, rfl⟩
  obtain ⟨Hd, hHd⟩ : ∃ H, H = m.H := ⟨_, rfl⟩
  obtain ⟨np, hnp⟩ : ∃ n, n = (listI p).length := ⟨_, rfl⟩
  obtain ⟨Wp, hWp⟩ : ∃ W, W = p.W := ⟨_, rfl⟩
  obtain ⟨Hp, hHp⟩ : ∃ H, H = p.H := ⟨_, rfl⟩
  rw [← hn] at HW1 c2 HCK1 HCL HPM ⊢
  rw [← hWd] at HW1 c0 HCK1 HPM m1 m2 ⊢
  rw [← hHd] at HW1 c1 HCK1 HPM m3 m4 ⊢
  rw [← hnp] at HW1 q2 HCK2 HPP hkp ⊢
  rw [← hWp] at HW1 q0 HCK2 HPP p1 p2 ⊢
  rw [← hHp] at HW1 q1 HCK2 HPP p3 p4 ⊢
  have HM : Hid (Wd = m.W ∧ Hd = m.H ∧ n = (listI m).length ∧ Wp = p.W ∧ Hp = p.H ∧ np = (listI p).length) := ⟨hWd, hHd, hn, hWp, hHp, hnp⟩
  clear hn hWd hHd hnp hWp hHp
  go_enter Try.func25, Try.ntmps25
  go_upto_region 1 with fail
  rw [HW1.out]
  clear HW1
  go_wp2_with fail
  refine HCK1.out.mono ?_
  rintro e w2 ⟨rfl, hb2⟩
  have d0 := keepCell hb2 q0
  have d1 := keepCell hb2 q1
  have d2 := keepCell hb2 q2
  have HB2 := Lib.hid hb2
  clear hb2 HCK1
  go_wp2_with fail
  refine (HCK2.out w2).mono ?_
  rintro e w3 ⟨rfl, hb3⟩
  obtain ⟨wx, hwx⟩ : ∃ wx, wx = w3 := ⟨_, rfl⟩
  rw [← hwx] at hb3 ⊢
  have hbx := bthen HB2.out hb3
  have HB3 := Lib.hid hbx
  have e0 := keepCell hbx c0
  have e1 := keepCell hbx c1
  have e2 := keepCell hbx c2
  have f0 := keepCell hbx q0
  have f1 := keepCell hbx q1
  have f2 := keepCell hbx q2
  clear hwx hbx hb3 HB2 HCK2 c0 c1 c2 q0 q1 q2 d0 d1 d2 w3
  go_upto_region 9 with fail
  have a0 := keepCell (balloc (Below.refl _ wx) (.cells #[.int .i64 0, .int .i64 0, .slice none 0 0] 74)) e0
  have a1 := keepCell (balloc (Below.refl _ wx) (.cells #[.int .i64 0, .int .i64 0, .slice none 0 0] 74)) e1
  have a2 := keepCell (balloc (Below.refl _ wx) (.cells #[.int .i64 0, .int .i64 0, .slice none 0 0] 74)) e2
  have HZA := Lib.hid (outF_new wx (.int .i64 0) (.int .i64 0) (.slice none 0 0) 74)
  have hS : Hid (∀ W, Below wx.heap.size wx W → W.cell? ⟨w.heap.size, 0, none⟩ = some (.int .i64 Wd) ∧ W.cell? ⟨w.heap.size, 1, none⟩ = some (.int .i64 Hd)) := fun W hb => ⟨keepCell hb e0, keepCell hb e1⟩
  go_cut [12] from 44 to 43 (fun s12 wq => ∃ c : Nat, s12 = .pointer (some ⟨c, 0, none⟩) ∧ Hid (∃ g cap rest, OutU wx wq c g cap n Wd Hd (listI m) rest))
  case first =>
    have HZA2 : Hid (∀ w5, Below (wx.alloc (.cells #[.int .i64 0, .int .i64 0, .slice none 0 0] 74)).heap.size (wx.alloc (.cells #[.int .i64 0, .int .i64 0, .slice none 0 0] 74)).drew w5 → Below wx.heap.size wx w5 ∧ FTab (fun v : Value => v) w5 wx.heap.size 3 (outF (.int .i64 0) (.int .i64 0) (.slice none 0 0))) := fun w5 hb => ⟨bthen (w1 := (wx.alloc (.cells #[.int .i64 0, .int .i64 0, .slice none 0 0] 74)).drew) (balloc (Below.refl _ wx) _).drew hb, HZA.out.drew.below hb (by simp)⟩
    go_region_law (first | (go_simp; go_at_call 49; refine (HCL.out _ (HB3.out.trans ((balloc (Below.refl _ wx) _).drew.mono HB3.out.size))).mono ?_; rintro e w5 ⟨g5, k5, r5, rfl, hown5, hl5, hb5⟩; obtain ⟨hz5, ht5⟩ := HZA2.out w5 hb5; obtain ⟨l0, l1⟩ := hS.out w5 hz5; have r0 : w5.cell? ⟨wx.heap.size, 0, none⟩ = some (.int .i64 0) := ht5.at' 0 (by omega); have r1 : w5.cell? ⟨wx.heap.size, 1, none⟩ = some (.int .i64 0) := ht5.at' 1 (by omega); have r2 : w5.cell? ⟨wx.heap.size, 2, none⟩ = some (.slice none 0 0) := ht5.at' 2 (by omega); have rf := ht5.fz; have HU := Lib.hid (OutU.old (Wd := Wd) (Hd := Hd) HM.out.2.2.1 hz5 (by simp) hown5 (Nat.le_refl _) (by simp) ht5); clear ht5 hz5 hb5 hown5 hl5) | (go_simp; go_at_call 49; refine (HCL.out _ (HB3.out.trans ((Below.refl _ wx).drew.mono HB3.out.size))).mono ?_; rintro e w5 ⟨g5, k5, r5, rfl, hown5, hl5, hb5⟩; have hz5 : Below wx.heap.size wx w5 := bthen (w1 := wx.drew) (Below.refl _ wx).drew hb5; obtain ⟨l0, l1⟩ := hS.out w5 hz5; have HU := Lib.hid (OutU.fresh (Wd := Wd) (Hd := Hd) HM.out.2.2.1 hz5 (by simp) hown5 hl5 74); have la0 := keepCell (balloc (Below.refl _ w5) (.cells #[.int .i64 0, .int .i64 0, .slice none 0 0] 74)) l0; have la1 := keepCell (balloc (Below.refl _ w5) (.cells #[.int .i64 0, .int .i64 0, .slice none 0 0] 74)) l1; clear hz5 hb5 hown5 hl5))
    all_goals
      go_wp2_with fail
      go_meet
      exact ⟨_, rfl, Lib.hid ⟨_, _, _, HU.out⟩⟩
  case rest =>
    obtain ⟨c, rfl, HU⟩ := hcut
    obtain ⟨g, cap, rs, hU⟩ := HU.out
    have HU := Lib.hid hU
    clear a0 a1 a2 HZA hS HCL hU
    have wn : IntKind.i64.wrap (-y) = -y := IntWalk.i64_in _ (by omega)
    have wn2 : IntKind.i64.wrap (-x) = -x := IntWalk.i64_in _ (by omega)
    obtain ⟨j0, hj0⟩ : ∃ j : Nat, (j : Int) = max 0 (-y) := ⟨(max 0 (-y)).toNat, by omega⟩
    obtain ⟨wq0, hwq0⟩ : ∃ wq0, wq0 = wc := ⟨_, rfl⟩
    rw [← hwq0] at HU ⊢
    clear hwq0
    go_upto_region 10 with fail
    go_cut [13] from 55 to 54 (fun s13 wq => s13 = .int .i64 j0 ∧ wq = wq0)
    case first =>
      go_wp2_with fail
      all_goals
        go_meet
        exact ⟨by congr 1; omega, rfl⟩
    case rest =>
      obtain ⟨rfl, rfl⟩ := hcut
      go_wp2_with fail
      have hj0b : j0 ≤ 1024 := by omega
      go_loopw [13] (fun i wr => ∃ j : Nat, j0 ≤ j ∧ (j ≤ Hp ∨ j = j0) ∧ i = .int .i64 j ∧ Hid (OutU wx wr c g cap n Wd Hd (listI (pasteI m x y ⟨p.W, j, p.px⟩)) rs)) (fun i _ => 3000 - (intOf i).toNat)
      case atStart =>
        refine ⟨j0, by omega, .inr rfl, rfl, ?_⟩
        rw [paste_none m p x y j0 (by omega)]
        exact HU
      case round =>
        obtain ⟨j, hj1, hj2, rfl, HX⟩ := hrel
        obtain ⟨wa, rfl⟩ : ∃ wa : World, wa = wr := ⟨_, rfl⟩
        have HCE : Hid (∀ W xs, OutU wx W c g cap n Wd Hd xs rs → (W.cell? ⟨w.heap.size, 0, none⟩ = some (.int .i64 Wd) ∧ W.cell? ⟨w.heap.size, 1, none⟩ = some (.int .i64 Hd) ∧ W.cell? ⟨w.heap.size + 1, 0, none⟩ = some (.int .i64 Wp) ∧ W.cell? ⟨w.heap.size + 1, 1, none⟩ = some (.int .i64 Hp) ∧ W.cell? ⟨w.heap.size + 1, 2, none⟩ = some (.slice op np kp) ∧ W.cell? ⟨c, 0, none⟩ = some (.int .i64 Wd) ∧ W.cell? ⟨c, 1, none⟩ = some (.int .i64 Hd) ∧ W.cell? ⟨c, 2, none⟩ = some (.slice (some ⟨g, 0, none⟩) n cap))) := fun W xs hU => ⟨keepCell hU.bel e0, keepCell hU.bel e1, keepCell hU.bel f0, keepCell hU.bel f1, keepCell hU.bel f2, hU.tab.at' 0 (by omega), hU.tab.at' 1 (by omega), hU.tab.at' 2 (by omega)⟩
        obtain ⟨b0, hb0⟩ : ∃ b : Nat, (b : Int) = y + j := ⟨(y + j).toNat, by omega⟩
        have wj : IntKind.i64.wrap (y + (j : Int)) = (b0 : Int) := by rw [← hb0]; exact IntWalk.i64_in _ (by omega)
        by_cases hend : Hp ≤ j ∨ (Hd : Int) ≤ (b0 : Int)
        · have hx := HX.out
          have hj3 : (j0 : Int) = max 0 (-y) := hj0
          rw [paste_end m p x y j j0 hj0 (by have := HM.out; omega) (by have := HM.out; omega)] at hx
          obtain ⟨g0, g1, h0, h1, h2, t0, t1, t2⟩ := HCE.out wa _ HX.out
          have ht3 := HT2.out.below (HB3.out.trans (hx.bel.mono HB3.out.size)) (by rw [HZ1.out]; omega)
          have hrs := res_set (x := .int .i64 Wd) (y := .int .i64 Hd) (z := .slice (some ⟨g, 0, none⟩) n cap) ht3
          have HF : Hid (RetGrid0 (pasteI m x y p) w (.returned (.tuple #[.agg #[.int .i64 Wd, .int .i64 Hd, .slice (some ⟨g, 0, none⟩) n cap], .int .i64 0])) (resW wa (w.heap.size + 1 + 1) (.int .i64 Wd) (.int .i64 Hd) (.slice (some ⟨g, 0, none⟩) n cap))) := by
            have hz := HZ1.out
            have hbg := hx.row.bs
            have h3 := HB3.out.size
            have h1 := hx.row.own
            rw [← hx.ln] at h1
            have h2 : OwnPx (resW wa (w.heap.size + 1 + 1) (.int .i64 Wd) (.int .i64 Hd) (.slice (some ⟨g, 0, none⟩) n cap)) wx.heap.size (.slice (some ⟨g, 0, none⟩) n cap) (listI (pasteI m x y p)) := h1.heap fun k e => hrs.hp k (by have h3 := (h1.blk e).1; omega)
            refine ⟨some ⟨g, 0, none⟩, cap, ?_, ?_, hrs.bel (bthen (bthen HB1.out HB3.out) hx.bel) (by omega)⟩
            · rw [← hx.ln]
              show _ = Ending.returned (.tuple #[.agg #[.int .i64 m.W, .int .i64 m.H, .slice (some ⟨g, 0, none⟩) n cap], .int .i64 0])
              rw [HM.out.1, HM.out.2.1]
            · rw [← hx.ln]
              exact h2.rebase (Nat.le_trans HB1.out.size HB3.out.size)
          have r0 : wa.cell? ⟨w.heap.size + 1 + 1, 0, none⟩ = some (.int .i64 0) := ht3.at' 0 (by omega)
          have r1 : wa.cell? ⟨w.heap.size + 1 + 1, 1, none⟩ = some (.int .i64 0) := ht3.at' 1 (by omega)
          have r2 : wa.cell? ⟨w.heap.size + 1 + 1, 2, none⟩ = some (.slice none 0 0) := ht3.at' 2 (by omega)
          have rf := ht3.fz
          have HRS := Lib.hid hrs
          clear hx hrs ht3 HX HU hb0 hj3
          have hcs : ((Hp : Int) ≤ (j : Int)) ∨ ((j : Int) < (Hp : Int) ∧ (Hd : Int) ≤ (b0 : Int)) := by omega
          clear hend
          rcases hcs with hcs | ⟨hcs, hcs2⟩
          all_goals
            repeat (first | go_values | go_skip | go_guarded | go_step | go_upon)
            obtain ⟨W9, hW9⟩ : ∃ W9, W9 = resW wa (w.heap.size + 1 + 1) (.int .i64 Wd) (.int .i64 Hd) (.slice (some ⟨g, 0, none⟩) n cap) := ⟨_, rfl⟩
            rw [← hW9] at HF HRS
            unfold resW at hW9
            rw [← hW9]
            have e0 := HRS.out.c0
            have e1 := HRS.out.c1
            have e2 := HRS.out.c2
            clear hW9
            refine bodyPost_ret (v := .tuple #[.agg #[.int .i64 Wd, .int .i64 Hd, .slice (some ⟨g, 0, none⟩) n cap], .int .i64 0]) (by simp only [results, pasteRes]; go_simp) rfl ?_
            exact HF.out
        · have hl1 : (j : Int) < (Hp : Int) := by omega
          have hl2 : (b0 : Int) < (Hd : Int) := by omega
          obtain ⟨fr, hfr⟩ : ∃ f : Nat, (f : Int) = max 0 (-x) := ⟨(max 0 (-x)).toNat, by omega⟩
          obtain ⟨tt, htt⟩ : ∃ t : Int, t = min (Wp : Int) ((Wd : Int) - x) := ⟨_, rfl⟩
          have wt : IntKind.i64.wrap ((Wd : Int) - x) = (Wd : Int) - x := IntWalk.i64_in _ (by omega)
          obtain ⟨g0, g1, h0, h1, h2, t0, t1, t2⟩ := HCE.out wa _ HX.out
          have HE := Lib.hid (And.intro hb0 (And.intro hfr htt))
          clear e0 e1 e2 f0 f1 f2 HU hb0 hfr htt
          go_upto_region 13 with fail
          go_cut [14, 15] from 69 to 68 (fun s14 s15 wq => s14 = .int .i64 fr ∧ s15 = .int .i64 tt ∧ Hid (OutU wx wq c g cap n Wd Hd (listI (pasteI m x y ⟨p.W, j, p.px⟩)) rs))
          case first =>
            go_region
            all_goals go_wp2_with fail
            all_goals
              go_meet
              exact ⟨by congr 1; have h := HE.out; omega, by congr 1; have h := HE.out; omega, Lib.hid HX.out.drew⟩
          case rest =>
            obtain ⟨rfl, rfl, HU⟩ := hcut
            clear g0 g1 h0 h1 h2 t0 t1 t2 HX wt
            obtain ⟨wq, rfl⟩ : ∃ wq, wq = wc := ⟨_, rfl⟩
            obtain ⟨g0, g1, h0, h1, h2, t0, t1, t2⟩ := HCE.out wq _ HU.out
            by_cases hlt : (fr : Int) < tt
            · obtain ⟨hb0', hfr', htt'⟩ := HE.out
              obtain ⟨len, hlen⟩ : ∃ l : Nat, ((fr + l : Nat) : Int) = tt := ⟨(tt - fr).toNat, by omega⟩
              obtain ⟨a0, ha0'⟩ : ∃ a : Nat, (a : Int) = x + fr := ⟨(x + fr).toNat, by omega⟩
              obtain ⟨L1, hL1⟩ : ∃ L : Nat, L = b0 * Wd := ⟨_, rfl⟩
              have hL1I : (b0 : Int) * (Wd : Int) = (L1 : Int) := by rw [hL1, Int.natCast_mul]
              obtain ⟨L2, hL2⟩ : ∃ L : Nat, L = L1 + Wd := ⟨_, rfl⟩
              have hL2I : ((b0 : Int) + 1) * (Wd : Int) = (L2 : Int) := by rw [Int.add_mul, Int.one_mul, hL1I, hL2]; omega
              have hn2 : L2 ≤ n := by
                have h := Nat.mul_le_mul_right Wd (show b0 + 1 ≤ Hd by omega)
                rw [Nat.add_mul, Nat.one_mul, Nat.mul_comm Hd] at h
                have := HPM.out.2.2
                omega
              have hnn := HPM.out.2.1
              have hcap : n ≤ cap := by have h := HU.out.row.ln; have h2 := HU.out.ln; omega
              have wL1 : IntKind.i64.wrap ((b0 : Int) * (Wd : Int)) = (L1 : Int) := by rw [hL1I]; exact IntWalk.i64_in _ (by omega)
              have wb1 : IntKind.i64.wrap ((b0 : Int) + 1) = (b0 : Int) + 1 := IntWalk.i64_in _ (by omega)
              have wL2 : IntKind.i64.wrap (((b0 : Int) + 1) * (Wd : Int)) = (L2 : Int) := by rw [hL2I]; exact IntWalk.i64_in _ (by omega)
              have HL12 := Lib.hid (And.intro hL1 hL2)
              have hL12 : L1 < L2 := by omega
              clear hL1I hL2I
              obtain ⟨bp, offp, rfl, HPC⟩ : ∃ bp offp, op = some ⟨bp, offp, none⟩ ∧ Hid (∀ k v, (listI p)[k]? = some v → wq.cell? ⟨bp, offp + k, none⟩ = some (.int .u8 v)) := by
                have h := HBX2.out.px
                have h0 : 0 < (listI p).length := by have := HPP.out.1; have := HM.out.2.2.2.2.2; omega
                obtain ⟨-, b, off, e, -⟩ := h.get h0 (List.getElem?_eq_getElem h0)
                refine ⟨b, off, e, Lib.hid fun k v hk => ?_⟩
                obtain ⟨-, b', off', e', hc'⟩ := h.get (List.getElem?_eq_some_iff.1 hk).1 hk
                rw [e] at e'
                simp only [Option.some.injEq, Addr.mk.injEq, and_true] at e'
                obtain ⟨rfl, rfl⟩ := e'
                exact keepCell (HB3.out.trans (HU.out.bel.mono HB3.out.size)) hc'
              obtain ⟨M, hM⟩ : ∃ M : Nat, M = j * Wp := ⟨_, rfl⟩
              have hMI : (j : Int) * (Wp : Int) = (M : Int) := by rw [hM, Int.natCast_mul]
              have hMn : M + Wp ≤ np := by
                have h := Nat.mul_le_mul_right Wp (show j + 1 ≤ Hp by omega)
                rw [Nat.add_mul, Nat.one_mul, Nat.mul_comm Hp] at h
                have := HPP.out.2.2
                omega
              have hnpb := HPP.out.2.1
              obtain ⟨S1, hS1⟩ : ∃ S : Nat, S = M + fr := ⟨_, rfl⟩
              obtain ⟨S2, hS2⟩ : ∃ S : Nat, S = S1 + len := ⟨_, rfl⟩
              obtain ⟨a1, ha1⟩ : ∃ a : Nat, a = a0 + len := ⟨_, rfl⟩
              have wa0 : IntKind.i64.wrap (x + (fr : Int)) = (a0 : Int) := by rw [← ha0']; exact IntWalk.i64_in _ (by omega)
              have wa1 : IntKind.i64.wrap (x + tt) = (a1 : Int) := (IntWalk.i64_in _ (by omega)).trans (by omega)
              have wM : IntKind.i64.wrap ((j : Int) * (Wp : Int)) = (M : Int) := by rw [hMI]; exact IntWalk.i64_in _ (by omega)
              have wS1 : IntKind.i64.wrap ((M : Int) + (fr : Int)) = (S1 : Int) := (IntWalk.i64_in _ (by omega)).trans (by omega)
              have wS2 : IntKind.i64.wrap ((M : Int) + tt) = (S2 : Int) := (IntWalk.i64_in _ (by omega)).trans (by omega)
              have k1 : a0 < a1 := by omega
              have k2 : a1 ≤ cap - L1 := by omega
              have k3 : S1 < S2 := by omega
              have k4 : S2 ≤ kp := by omega
              have k5 : a0 < cap - L1 := by omega
              have k6 : S1 < kp := by omega
              have k7 : a0 ≤ a1 := by omega
              have k8 : ¬ (cap - L1 = a0) := by omega
              have k9 : S1 ≤ S2 := by omega
              have k10 : ¬ (kp = S1) := by omega
              obtain ⟨row, hrow⟩ : ∃ row, row = (List.range len).map fun i => p.px ((fr + i : Nat) : Int) (j : Int) := ⟨_, rfl⟩
              have hrl : row.length = len := by rw [hrow]; simp
              have HSRC : Hid (∀ i v, (u8s row)[i]? = some v → wq.drew.cell? (Addr.add ⟨bp, offp + S1, none⟩ i) = some v) := fun i v hv => by
                unfold u8s at hv
                rw [hrow, List.map_map] at hv
                obtain ⟨hi, hv⟩ := List.getElem?_eq_some_iff.1 hv
                have hil : i < len := by simpa using hi
                rw [List.getElem_map, List.getElem_range] at hv
                have hg : (listI p)[j * p.W + (fr + i)]? = some (p.px ((fr + i : Nat) : Int) (j : Int)) := pixL_get? p.px (by have := HM.out.2.2.2.1; omega) (by have := HM.out.2.2.2.2.1; omega)
                have hh := HPC.out _ _ hg
                rw [← hv]
                have he : offp + (j * p.W + (fr + i)) = offp + S1 + i := by rw [← HM.out.2.2.2.1]; omega
                rw [he] at hh
                have e9 : Addr.add ⟨bp, offp + S1, none⟩ i = ⟨bp, offp + S1 + i, none⟩ := by simp [Addr.add]
                rw [e9]
                exact hh
              have HROW : Hid (Go.splice (listI (pasteI m x y ⟨p.W, j, p.px⟩)) (L1 + a0) row = listI (pasteI m x y ⟨p.W, j + 1, p.px⟩)) := by
                have h := paste_row m p x y j b0 a0 fr len hb0' ha0' hfr' (by rw [← HM.out.2.2.2.1, ← HM.out.1]; omega) (by have := HM.out.2.1; omega)
                rw [← HM.out.1] at h
                show Go.splice _ _ _ = _
                rw [hrow, HL12.out.1]
                exact h
              have HNN : Hid (row.length = Nat.min (S2 - S1) (a1 - a0) ∧ L1 + a0 + row.length ≤ n ∧ L1 + a0 + row.length ≤ (listI (pasteI m x y ⟨p.W, j, p.px⟩)).length) := by
                have e1 : S2 - S1 = len := by omega
                have e2 : a1 - a0 = len := by omega
                have e3 := HU.out.ln
                refine ⟨by rw [e1, e2, hrl]; simp, by rw [hrl]; omega, by rw [hrl, ← e3]; omega⟩
              have HE3 := Lib.hid (And.intro hS1 (And.intro hS2 ha1))
              clear hL1 hL2 hS1 hS2 ha1 hM hMI hrow hrl hb0' hfr' htt' hlen ha0' hMn
              go_upto_region 16 with fail
              go_region_law (first | (refine step_copyX (by rfl) (.tmp 105) (.tmp 120) 35 35 (by rfl) 5 Try.underlying35 (by kernel_rfl) ⟨bp, offp + S1, none⟩ (a1 - a0) (cap - L1 - a0) (S2 - S1) (kp - S1) g (L1 + a0) (by rfl) (by rfl) (u8s (listI (pasteI m x y ⟨p.W, j, p.px⟩)) ++ rs) 5 HU.out.row.hp (u8s row) (by have h := HNN.out.1; simpa [u8s] using h) HSRC.out (by have h := HNN.out.2.2; simp [u8s]; omega) (by intro v hv; simp only [u8s, List.mem_map] at hv; obtain ⟨z, -, rfl⟩ := hv; rfl) ?_; intro w6 hg6 hb6 hk6; have HU6 := Lib.hid (OutU.copy HU.out.drew HNN.out.2.2 hg6.out hb6 hk6); clear hg6 hb6 hk6))
              all_goals
                have HNX : Hid (OutU wx w6 c g cap n Wd Hd (listI (pasteI m x y ⟨p.W, j + 1, p.px⟩)) rs) := by
                  show OutU _ _ _ _ _ _ _ _ _ _
                  rw [← HROW.out]
                  exact HU6.out
                clear HU6 HSRC HNN HROW HU
                go_wp2_with fail
                go_roundw
                case rel => exact ⟨j + 1, by omega, by omega, by go_num, HNX⟩
                case measure => simp [intOf]; omega
            · have hsk : (m.W : Int) ≤ x ∨ x + (p.W : Int) ≤ 0 := by
                have h := HE.out.2
                have h2 := HM.out
                omega
              have HNX : Hid (OutU wx wq c g cap n Wd Hd (listI (pasteI m x y ⟨p.W, j + 1, p.px⟩)) rs) := by
                show OutU _ _ _ _ _ _ _ _ _ _
                rw [← paste_skip m p x y j hsk]
                exact HU.out
              clear HU hsk
              go_wp2_with fail
              go_roundw
              case rel => exact ⟨j + 1, by omega, by omega, by go_num, HNX⟩
              case measure => simp [intOf]; omega
end Go.Proofs.Ytdblibjmgamjeaa
