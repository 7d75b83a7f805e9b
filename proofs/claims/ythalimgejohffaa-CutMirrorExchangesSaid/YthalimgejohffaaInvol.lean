/-
  The law CutMirrorInvolution: its walk. Own text.
-/
import Derived.Test.YthalimgejohffaaMirrorB
import Derived.Test.YthalimgejohffaaRectSlices
import Derived.Test.YthalimgejohffaaCuts
namespace Go.Proofs.Ythalimgejohffaa
open Go.RowKit
set_option linter.unusedVariables false
theorem pieces_mir {W H : Int} {items : List Item} {t : Tree} {st : St} (sides : Bool) (h : piecesV W H items t = .ok st) :
    ∃ s2, piecesV W H items (mirV sides 80 W H t) = .ok s2 ∧ s2.waste = st.waste ∧ s2.rects.length = st.rects.length ∧ (∀ r ∈ st.rects, mirR sides W H r ∈ s2.rects) ∧ mirV sides 80 W H (mirV sides 80 W H t) = t := by
  have h1 := h
  obtain ⟨_, _, hw⟩ := pieces_okT h
  unfold piecesV at h1
  split at h1
  · cases h1
  · rename_i hz
    have hb := beginV_zero (Decidable.not_not.1 hz)
    have ha := (walkV_adds _ _ _ _ _ _ _ _ _ hb hw).2.1
    obtain ⟨s2, e2, n2, w2, l, l', e3, e4, e5, e6⟩ := walkV_mir items sides W H 80 t 0 0 W H ⟨0, [], 0⟩ st ⟨0, [], 0⟩ hb hw (by show 0 + st.nodes ≤ 4096 + 0; omega)
    have q1 : mx sides W 0 W = 0 := by cases sides <;> simp [mx]
    have q2 : my sides H 0 H = 0 := by cases sides <;> simp [my]
    rw [q1, q2] at e2
    refine ⟨s2, ?_, ?_, ?_, ?_, mirV_mirV items sides 80 t 0 0 W H _ _ hw⟩
    · unfold piecesV; rw [if_neg hz]; exact e2
    · have : s2.waste + 0 = 0 + st.waste := w2
      omega
    · rw [e3, e4]; simpa using e5
    · rw [e3, e4]; simpa using e6
theorem dupCells {w w1 : World} {b : Nat} {k a i : Int} {o : Option Addr} {n c : Nat} (hb : Below w.heap.size w w1) (h : w.cell? ⟨b, 0, none⟩ = some (.int .i64 k) ∧ w.cell? ⟨b, 1, none⟩ = some (.int .i64 a) ∧ w.cell? ⟨b, 2, none⟩ = some (.int .i64 i) ∧ w.cell? ⟨b, 3, none⟩ = some (.slice o n c)) :
    w1.cell? ⟨b, 0, none⟩ = some (.int .i64 k) ∧ w1.cell? ⟨b, 1, none⟩ = some (.int .i64 a) ∧ w1.cell? ⟨b, 2, none⟩ = some (.int .i64 i) ∧ w1.cell? ⟨b, 3, none⟩ = some (.slice o n c) :=
  ⟨keepCell hb h.1, keepCell hb h.2.1, keepCell hb h.2.2.1, keepCell hb h.2.2.2⟩
set_option maxRecDepth 100000 in
set_option maxHeartbeats 2000000 in
theorem invol_any (W H : Int) (oi : Option Addr) (items : List Item) (ci : Nat) (k a i : Int) (kids : List Tree) (oa : Option Addr) (cap : Nat) (sides : Bool) (w : World) (hm : items.length ≤ maxLen) (hx : Flat w 4 encItem oi items) (hT : TreeAt w (.mk k a i kids) [.int .i64 k, .int .i64 a, .int .i64 i, .slice oa kids.length cap]) :
    Calls Try.prog 8 #[.int .i64 W, .int .i64 H, .slice oi items.length ci, .agg #[.int .i64 k, .int .i64 a, .int .i64 i, .slice oa kids.length cap], .bool sides] w fun e w' => e = .returned (.bool true) ∧ Below w.heap.size w w' := by
  have hb0 : Below w.heap.size w (w.alloc (.cells #[.int .i64 k, .int .i64 a, .int .i64 i, .slice oa kids.length cap] 25)) := balloc (Below.refl _ w) _
  have hx0 := Lib.hid (hx.below hb0)
  have hT0 := Lib.hid (hT.under hb0)
  have b0 : (w.alloc (.cells #[.int .i64 k, .int .i64 a, .int .i64 i, .slice oa kids.length cap] 25)).cell? ⟨w.heap.size, 0, none⟩ = some (.int .i64 k) ∧ (w.alloc (.cells #[.int .i64 k, .int .i64 a, .int .i64 i, .slice oa kids.length cap] 25)).cell? ⟨w.heap.size, 1, none⟩ = some (.int .i64 a) ∧ (w.alloc (.cells #[.int .i64 k, .int .i64 a, .int .i64 i, .slice oa kids.length cap] 25)).cell? ⟨w.heap.size, 2, none⟩ = some (.int .i64 i) ∧ (w.alloc (.cells #[.int .i64 k, .int .i64 a, .int .i64 i, .slice oa kids.length cap] 25)).cell? ⟨w.heap.size, 3, none⟩ = some (.slice oa kids.length cap) := ⟨by go_simp, by go_simp, by go_simp, by go_simp⟩
  have hb0 := Lib.hid hb0
  have B0 := Lib.hid b0
  clear b0 hx hT
  go_enter Try.func8, Try.ntmps8
  go_wp2_with fail
  refine (cuts_any _).mono ?_
  rintro e w1 ⟨rfl, hb1⟩
  have hz1 := Lib.hid (bthen hb0.out hb1)
  have B1 := Lib.hid (dupCells hb1 B0.out)
  have hx1 := Lib.hid (hx0.out.below hb1)
  have hT1 := Lib.hid (hT0.out.under hb1)
  clear hb1 hx0 hT0 B0
  obtain ⟨m0, m1, m2, m3⟩ := B1.out
  go_wp2_with fail
  refine (Mirror_any W H oi items ci k a i kids oa cap sides _ hm hx1.out hT1.out).mono ?_
  rintro e w2 ⟨hb2, hres⟩
  clear m0 m1 m2 m3
  cases hp : piecesV W H items (.mk k a i kids) with
  | err c =>
    rw [hp] at hres
    have hc1 := piecesV_err hp
    have hc : (c != 0) = true := by simpa using hc1
    have hr : e = .returned (.tuple #[.agg #[.int .i64 0, .int .i64 0, .int .i64 0, .slice none 0 0], .int .i64 c]) := hres
    subst hr
    have HP := Lib.hid hp
    have B2 := dupCells hb2 B1.out
    have hz2 := Lib.hid (bthen hz1.out hb2)
    have hx2 := Lib.hid ((hx1.out.below hb2).below (balloc (Below.refl _ w2) (.cells #[.int .i64 0, .int .i64 0, .int .i64 0, .slice none 0 0] 25)))
    have hT2 := Lib.hid ((hT1.out.under hb2).under (balloc (Below.refl _ w2) (.cells #[.int .i64 0, .int .i64 0, .int .i64 0, .slice none 0 0] 25)))
    obtain ⟨m0, m1, m2, m3⟩ := B2
    have l2 := cell?_lt m0
    clear hres hp hc1 hb2 hx1 hT1 B1
    go_wp2_with fail
    refine (pieces_any W H oi items ci (.mk k a i kids) k a i oa kids.length cap _ hm hx2.out hT2.out).mono ?_
    rw [HP.out]
    rintro e w3 ⟨hb3, hr⟩
    have hr : e = .returned (.tuple #[.slice none 0 0, .int .i64 0, .int .i64 c]) := hr
    subst hr
    have hz3 := Lib.hid (bthen (balloc hz2.out _) hb3)
    clear hb3 m0 m1 m2 m3
    go_wp2
    go_ret
    exact ⟨rfl, hz3.out⟩
  | ok st =>
    rw [hp] at hres
    obtain ⟨k2, a2, i2, l2, o2, p2, hTe, rfl, hT2⟩ := hres
    obtain ⟨s2, hp2, hw2, hl2, hmem, hback⟩ := pieces_mir sides hp
    obtain ⟨hbx, hin, _, _, _, hlen⟩ := pieces_ok hp
    rw [hTe] at hT2 hp2 hback
    have HP := Lib.hid hp
    have HP2 := Lib.hid hp2
    have hw2 := Lib.hid hw2
    have hl2 := Lib.hid hl2
    have hmem := Lib.hid hmem
    have hback := Lib.hid hback
    have hin := Lib.hid hin
    have hbx := Lib.hid hbx
    have hA : Below w2.heap.size w2 (w2.alloc (.cells #[.int .i64 k2, .int .i64 a2, .int .i64 i2, .slice o2 l2.length p2] 25)) := balloc (Below.refl _ w2) _
    have B2 := dupCells hA (dupCells hb2 B1.out)
    have C2 : (w2.alloc (.cells #[.int .i64 k2, .int .i64 a2, .int .i64 i2, .slice o2 l2.length p2] 25)).cell? ⟨w2.heap.size, 0, none⟩ = some (.int .i64 k2) ∧ (w2.alloc (.cells #[.int .i64 k2, .int .i64 a2, .int .i64 i2, .slice o2 l2.length p2] 25)).cell? ⟨w2.heap.size, 1, none⟩ = some (.int .i64 a2) ∧ (w2.alloc (.cells #[.int .i64 k2, .int .i64 a2, .int .i64 i2, .slice o2 l2.length p2] 25)).cell? ⟨w2.heap.size, 2, none⟩ = some (.int .i64 i2) ∧ (w2.alloc (.cells #[.int .i64 k2, .int .i64 a2, .int .i64 i2, .slice o2 l2.length p2] 25)).cell? ⟨w2.heap.size, 3, none⟩ = some (.slice o2 l2.length p2) := ⟨by go_simp, by go_simp, by go_simp, by go_simp⟩
    have hz2 := Lib.hid (bthen (bthen hz1.out hb2) hA)
    have hx2 := Lib.hid ((hx1.out.below hb2).below hA)
    have hT1' := Lib.hid ((hT1.out.under hb2).under hA)
    have hM2 := Lib.hid (hT2.under hA)
    have hnlt : w.heap.size < w2.heap.size := Nat.lt_of_lt_of_le (cell?_lt B1.out.1) hb2.size
    have B2 := Lib.hid B2
    have C2 := Lib.hid C2
    clear hTe hT2 hp hp2 hb2 hx1 hT1 B1 hA
    obtain ⟨m0, m1, m2, m3⟩ := dupCells (Below.refl _ _) B2.out
    go_wp2_with fail
    refine (pieces_any W H oi items ci (.mk k a i kids) k a i oa kids.length cap _ hm hx2.out hT1'.out).mono ?_
    rw [HP.out]
    rintro e w3 ⟨hb3, oar, capr, rfl, hmr, hfr, hcr, hcm⟩
    have C3 := Lib.hid (dupCells hb3 C2.out)
    have hz3 := Lib.hid (bthen hz2.out hb3)
    have hx3 := Lib.hid (hx2.out.below hb3)
    have hM3 := Lib.hid (hM2.out.under hb3)
    have hfr := Lib.hid hfr
    clear m0 m1 m2 m3 hb3 B2 C2 hx2 hM2 hT1'
    obtain ⟨m0, m1, m2, m3⟩ := C3.out
    go_wp2_with fail
    refine (Mirror_any W H oi items ci k2 a2 i2 l2 o2 p2 sides _ hm hx3.out hM3.out).mono ?_
    rw [HP2.out]
    rintro e w4 ⟨hb4, k5, a5, i5, l5, o5, p5, hTe, rfl, hT5⟩
    rw [hback.out] at hTe hT5
    simp only [Tree.mk.injEq] at hTe
    obtain ⟨rfl, rfl, rfl, rfl⟩ := hTe
    have hA : Below w4.heap.size w4 (w4.alloc (.cells #[.int .i64 k, .int .i64 a, .int .i64 i, .slice o5 kids.length p5] 25)) := balloc (Below.refl _ w4) _
    have C4 := Lib.hid (dupCells hA (dupCells hb4 C3.out))
    have hz4 := Lib.hid (bthen (bthen hz3.out hb4) hA)
    have hx4 := Lib.hid ((hx3.out.below hb4).below hA)
    have hM4 := Lib.hid ((hM3.out.under hb4).under hA)
    have hfr4 := Lib.hid ((hfr.out.below hb4).below hA)
    have hT4 := Lib.hid (hT5.under hA)
    have l4 := Nat.lt_of_lt_of_le (cell?_lt C3.out.1) hb4.size
    clear m0 m1 m2 m3 hb4 C3 hx3 hM3 hfr hT5 hA
    go_wp2_with fail
    refine (pieces_any W H oi items ci (.mk k a i kids) k a i o5 kids.length p5 _ hm hx4.out hT4.out).mono ?_
    rw [HP.out]
    rintro e w5 ⟨hb5, oaa, capa, rfl, hma, hfa, hca, hcma⟩
    have C5 := Lib.hid (dupCells hb5 C4.out)
    have hz5 := Lib.hid (bthen hz4.out hb5)
    have hx5 := Lib.hid (hx4.out.below hb5)
    have hM5 := Lib.hid (hM4.out.under hb5)
    have hfr5 := Lib.hid (hfr4.out.below hb5)
    have hfa := Lib.hid hfa
    clear hb5 C4 hx4 hM4 hfr4 hT4 l4
    obtain ⟨m0, m1, m2, m3⟩ := C5.out
    go_wp2_with fail
    refine (pieces_any W H oi items ci (.mk k2 a2 i2 l2) k2 a2 i2 o2 l2.length p2 _ hm hx5.out hM5.out).mono ?_
    rw [HP2.out]
    rintro e w6 ⟨hb6, oal, capl, rfl, hml, hfl, hcl, hcml⟩
    have hz6 := Lib.hid (bthen hz5.out hb6)
    have hfr6 := Lib.hid (hfr5.out.below hb6)
    have hfa6 := Lib.hid (hfa.out.below hb6)
    have hfl := Lib.hid hfl
    clear m0 m1 m2 m3 hb6 C5 hx5 hM5 hfr5 hfa
    have t1 : (s2.waste != st.waste) = false := by rw [hw2.out]; simp
    have t2 : ((s2.rects.length : Int) != (st.rects.length : Int)) = false := by rw [hl2.out]; simp
    go_wp2_with (go_at_call 25; refine (equalRects_any _ _ _ _ _ _ hma hfa6.out hfr6.out).mono ?_; rintro e w7 ⟨rfl, hb7⟩)
    have hz7 := Lib.hid (bthen hz6.out hb7)
    have hfr7 := Lib.hid (hfr6.out.below hb7)
    have hfl7 := Lib.hid (hfl.out.below hb7)
    clear hb7 hfr6 hfa6 hfl
    go_loopw [108] (fun i wr => ∃ q : Nat, q ≤ st.rects.length ∧ i = .int .i64 q ∧ Below w7.heap.size w7 wr) (fun i _ => st.rects.length - (intOf i).toNat)
    case atStart => exact ⟨0, by omega, rfl, Below.refl _ _⟩
    case round =>
      obtain ⟨q, hq, rfl, hbr⟩ := hrel
      by_cases hlt : q < st.rects.length
      · obtain ⟨b, off, rfl, c0, c1, c2, c3, c4⟩ := (hfr7.out.below hbr).rect hlt
        obtain ⟨r1, r2, r3, r4, r5, r6⟩ := hin.out _ (List.getElem_mem hlt)
        obtain ⟨_, _, _, _, x5, x6⟩ := hbx.out
        have hme := hmem.out _ (List.getElem_mem hlt)
        have hfl8 := Lib.hid (hfl7.out.below hbr)
        obtain ⟨wo, rfl⟩ : ∃ wo : World, wo = wr := ⟨_, rfl⟩
        cases sides with
        | true =>
          have hme2 : (⟨st.rects[q].item, W - st.rects[q].x - st.rects[q].w, st.rects[q].y, st.rects[q].w, st.rects[q].h⟩ : Rect) ∈ s2.rects := hme
          have hme2 := Lib.hid hme2
          clear hme
          go_wp2_with fail
          have CC := containsRects_any oal s2.rects ⟨st.rects[q].item, W - st.rects[q].x - st.rects[q].w, st.rects[q].y, st.rects[q].w, st.rects[q].h⟩ capl (wo.alloc (.cells #[.int .i64 st.rects[q].item, .int .i64 (W - st.rects[q].x - st.rects[q].w), .int .i64 st.rects[q].y, .int .i64 st.rects[q].w, .int .i64 st.rects[q].h] 32)) hml (hfl8.out.below (balloc (Below.refl _ _) _)) hme2.out
          rw [hl2.out] at CC
          refine CC.mono ?_
          clear CC
          rintro e w8 ⟨rfl, hb8⟩
          go_wp2
          go_roundw
          case rel => exact ⟨q + 1, by omega, by go_num, bthen hbr (balloc_lt _ _ hb8)⟩
          case measure => simp [intOf]; omega
        | false =>
          have hme2 : (⟨st.rects[q].item, st.rects[q].x, H - st.rects[q].y - st.rects[q].h, st.rects[q].w, st.rects[q].h⟩ : Rect) ∈ s2.rects := hme
          have hme2 := Lib.hid hme2
          clear hme
          go_wp2_with fail
          have CC := containsRects_any oal s2.rects ⟨st.rects[q].item, st.rects[q].x, H - st.rects[q].y - st.rects[q].h, st.rects[q].w, st.rects[q].h⟩ capl (wo.alloc (.cells #[.int .i64 st.rects[q].item, .int .i64 st.rects[q].x, .int .i64 (H - st.rects[q].y - st.rects[q].h), .int .i64 st.rects[q].w, .int .i64 st.rects[q].h] 32)) hml (hfl8.out.below (balloc (Below.refl _ _) _)) hme2.out
          rw [hl2.out] at CC
          refine CC.mono ?_
          clear CC
          rintro e w8 ⟨rfl, hb8⟩
          go_wp2
          go_roundw
          case rel => exact ⟨q + 1, by omega, by go_num, bthen hbr (balloc_lt _ _ hb8)⟩
          case measure => simp [intOf]; omega
      · go_wp2
        go_ret
        exact ⟨rfl, bthen hz7.out hbr⟩
end Go.Proofs.Ythalimgejohffaa
