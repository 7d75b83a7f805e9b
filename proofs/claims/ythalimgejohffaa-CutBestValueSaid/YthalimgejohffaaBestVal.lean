/-
  The law CutBestValue: its walk. Own text.
-/
import Derived.Test.YthalimgejohffaaValue
import Derived.Test.YthalimgejohffaaAccept
import Derived.Test.YthalimgejohffaaMatch
namespace Go.Proofs.Ythalimgejohffaa
open Go.RowKit
set_option linter.unusedVariables false
set_option maxRecDepth 100000 in
set_option maxHeartbeats 4000000 in
theorem bestVal_any (W0 H0 : Int) (oi : Option Addr) (items : List Item) (ci : Nat) (w : World) (hm : items.length ≤ maxLen) (hx : Flat w 4 encItem oi items) :
    Calls Try.prog 7 #[.int .i64 W0, .int .i64 H0, .slice oi items.length ci] w fun e w' => e = .returned (.bool true) ∧ Below w.heap.size w w' := by
  have HX := Lib.hid hx
  clear hx
  by_cases hz : beginV W0 H0 items = 0
  · have hbx := beginV_zero hz
    unfold Box at hbx
    obtain ⟨W, rfl⟩ : ∃ W : Nat, W0 = (W : Int) := ⟨W0.toNat, by omega⟩
    obtain ⟨H, rfl⟩ : ∃ H : Nat, H0 = (H : Int) := ⟨H0.toNat, by omega⟩
    obtain ⟨hin1, hin2, hie⟩ := beginV_in hz
    obtain ⟨hm8, hall⟩ := itemsErr_zero hie
    have hall := Lib.hid hall
    obtain ⟨st, hp, hworth, hlen, hitem⟩ := best_pieces hz
    have hW1 : 1 ≤ W := by omega
    have hW2 : W ≤ 40 := by omega
    have hH1 : 1 ≤ H := by omega
    have hH2 : H ≤ 40 := by omega
    have HP := Lib.hid hp
    have HZ := Lib.hid hz
    have HIE := Lib.hid hie
    have hworth := Lib.hid hworth
    have hitem := Lib.hid hitem
    clear hp hz hie hbx
    go_enter Try.func7, Try.ntmps7
    go_wp2_with fail
    refine (cuts4_any _).mono ?_
    rintro e w1 ⟨rfl, hb1⟩
    have hx1 := Lib.hid (HX.out.below hb1)
    have hz1 := Lib.hid hb1
    clear hb1
    go_wp2_with fail
    refine (best_ok W H oi items ci _ hm hx1.out HZ.out).mono ?_
    rintro e w3 ⟨hb3, k, a, i, kids, oa, cap, hTe, rfl, hT⟩
    have hz3 := Lib.hid (bthen hz1.out hb3)
    have hx3 := Lib.hid ((hx1.out.below hb3).below (balloc (Below.refl _ w3) (.cells #[.int .i64 k, .int .i64 a, .int .i64 i, .slice oa kids.length cap] 25)))
    have hT := Lib.hid (hT.under (balloc (Below.refl _ w3) (.cells #[.int .i64 k, .int .i64 a, .int .i64 i, .slice oa kids.length cap] 25)))
    rw [hTe] at hT
    have hp2 : piecesV W H items (.mk k a i kids) = .ok st := by rw [← hTe]; exact HP.out
    have HP2 := Lib.hid hp2
    clear hb3 hTe hp2
    go_wp2_with (first
      | (go_at_call 15; refine (itemsError_any _ _ _ _ hm hx3.out).mono ?_; rintro e w' ⟨rfl, rfl⟩; rw [HIE.out])
      | (go_at_call 23; refine (in_any _ _ _ _).mono ?_; rintro e w' ⟨rfl, rfl⟩))
    refine (piled_any W H oi items ci (.mk k a i kids) k a i oa kids.length cap _ hm hx3.out hT.out).mono ?_
    rw [HP2.out]
    rintro e w4 ⟨hb4, kb, hkb, rfl, hwa⟩
    obtain ⟨iv, rv, hWK⟩ := hwa st rfl
    obtain ⟨or, cr, rfl, _, hmr, hfr⟩ := hWK.own.isSlice (fun _ => rfl)
    have d2 := hWK.c2
    have hz4 := Lib.hid (bthen (balloc hz3.out _) hb4)
    have hx4 := Lib.hid (hx3.out.below hb4)
    have hfr := Lib.hid hfr
    clear hb4 hwa hWK
    simp only [Res.code]
    go_wp2
    go_loopw [13, 69] (fun sv i wr => ∃ q : Nat, q ≤ st.rects.length ∧ i = .int .i64 q ∧ sv = .int .i64 (worth items (st.rects.take q)) ∧ Below w4.heap.size w4 wr) (fun _ i _ => st.rects.length - (intOf i).toNat)
    case atStart => exact ⟨0, by omega, rfl, by simp [worth], Below.refl _ _⟩
    case round =>
      obtain ⟨q, hq, rfl, rfl, hbr⟩ := hrel
      have hwb := worth_bd (fun j hj => (hall.out j hj).2.2.2.2) (st.rects.take q)
      have hlq : (st.rects.take q).length ≤ 4096 := by rw [List.length_take]; omega
      by_cases hlt : q < st.rects.length
      · obtain ⟨b, off, rfl, c0, c1, c2, c3, c4⟩ := (hfr.out.below hbr).rect hlt
        obtain ⟨p, hp, hpe⟩ := hitem.out q hlt
        obtain ⟨bi, offi, rfl, e0, e1, e2, e3⟩ := (hx4.out.below hbr).item hp
        have hvb := (hall.out p hp).2.2.2.2
        have E : Hid (worth items (st.rects.take (q + 1)) = worth items (st.rects.take q) + items[p].value) := worth_succ hlt hp hpe
        rw [hpe] at c0
        have hd := cell?_lt e0
        clear hpe
        go_wp2
        go_roundw
        case rel => exact ⟨q + 1, by omega, by go_num, by rw [E.out], balloc hbr _⟩
        case measure => simp [intOf]; omega
      · have E : Hid (worth items (st.rects.take q) = bval items W H) := by
          show worth items (st.rects.take q) = bval items W H
          rw [List.take_of_length_le (by omega)]; exact hworth.out
        rw [E.out]
        clear hwb
        go_wp2_with (go_at_call 24; refine (cutValue_any W H oi items ci _ hm8 (hx4.out.below hbr) hW1 hW2 hH1 hH2 (fun j hj => (hall.out j hj).2.2.2.2)).mono ?_; rintro e w8 ⟨rfl, hb8⟩)
        go_ret
        exact ⟨rfl, bthen (bthen hz4.out hbr) hb8⟩
  · rcases beginV_bad hz with ⟨h1, h2⟩ | ⟨h1, h2, h3⟩ | ⟨h1, h2, h3, h4⟩
    · have HZ := Lib.hid hz
      have E2 := Lib.hid h2; clear h2 hz
      go_enter Try.func7, Try.ntmps7
      go_wp2_with fail
      refine (cuts4_any _).mono ?_
      rintro e w1 ⟨rfl, hb1⟩
      have hx1 := Lib.hid (HX.out.below hb1)
      have hz1 := Lib.hid hb1
      clear hb1
      go_wp2_with fail
      refine (best_err W0 H0 oi items ci _ hm hx1.out HZ.out).mono ?_
      rw [E2.out]
      rintro e w3 ⟨rfl, hb3⟩
      have hz3 := Lib.hid (bthen hz1.out hb3)
      have hx3 := Lib.hid ((hx1.out.below hb3).below (balloc (Below.refl _ w3) (.cells #[.int .i64 0, .int .i64 0, .int .i64 0, .slice none 0 0] 25)))
      clear hb3
      go_wp2_with (first
        | (go_at_call 15; refine (itemsError_any _ _ _ _ hm hx3.out).mono ?_; rintro e w' ⟨rfl, rfl⟩)
        | (go_at_call 23; refine (in_any _ _ _ _).mono ?_; rintro e w' ⟨rfl, rfl⟩))
      go_ret
      exact ⟨rfl, balloc hz3.out _⟩
    · have HZ := Lib.hid hz
      have E2 := Lib.hid h3; clear h3 hz
      go_enter Try.func7, Try.ntmps7
      go_wp2_with fail
      refine (cuts4_any _).mono ?_
      rintro e w1 ⟨rfl, hb1⟩
      have hx1 := Lib.hid (HX.out.below hb1)
      have hz1 := Lib.hid hb1
      clear hb1
      go_wp2_with fail
      refine (best_err W0 H0 oi items ci _ hm hx1.out HZ.out).mono ?_
      rw [E2.out]
      rintro e w3 ⟨rfl, hb3⟩
      have hz3 := Lib.hid (bthen hz1.out hb3)
      have hx3 := Lib.hid ((hx1.out.below hb3).below (balloc (Below.refl _ w3) (.cells #[.int .i64 0, .int .i64 0, .int .i64 0, .slice none 0 0] 25)))
      clear hb3
      go_wp2_with (first
        | (go_at_call 15; refine (itemsError_any _ _ _ _ hm hx3.out).mono ?_; rintro e w' ⟨rfl, rfl⟩)
        | (go_at_call 23; refine (in_any _ _ _ _).mono ?_; rintro e w' ⟨rfl, rfl⟩))
      go_ret
      exact ⟨rfl, balloc hz3.out _⟩
    · have HZ := Lib.hid hz
      have E2 := Lib.hid h3; clear h3 hz
      have h5 : (itemsErr items != 0) = true := by simpa using h4
      clear h4
      go_enter Try.func7, Try.ntmps7
      go_wp2_with fail
      refine (cuts4_any _).mono ?_
      rintro e w1 ⟨rfl, hb1⟩
      have hx1 := Lib.hid (HX.out.below hb1)
      have hz1 := Lib.hid hb1
      clear hb1
      go_wp2_with fail
      refine (best_err W0 H0 oi items ci _ hm hx1.out HZ.out).mono ?_
      rw [E2.out]
      rintro e w3 ⟨rfl, hb3⟩
      have hz3 := Lib.hid (bthen hz1.out hb3)
      have hx3 := Lib.hid ((hx1.out.below hb3).below (balloc (Below.refl _ w3) (.cells #[.int .i64 0, .int .i64 0, .int .i64 0, .slice none 0 0] 25)))
      clear hb3
      go_wp2_with (first
        | (go_at_call 15; refine (itemsError_any _ _ _ _ hm hx3.out).mono ?_; rintro e w' ⟨rfl, rfl⟩)
        | (go_at_call 23; refine (in_any _ _ _ _).mono ?_; rintro e w' ⟨rfl, rfl⟩))
      go_ret
      exact ⟨rfl, balloc hz3.out _⟩
end Go.Proofs.Ythalimgejohffaa
