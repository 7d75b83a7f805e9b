/-
  The law CutBestAccepted: its walk. Own text.
-/
import Derived.Test.YthalimgejohffaaBest
import Derived.Test.YthalimgejohffaaKinds
import Derived.Test.YthalimgejohffaaCuts
namespace Go.Proofs.Ythalimgejohffaa
open Go.RowKit
set_option linter.unusedVariables false
/-- The pieces of the best tree. -/
theorem best_pieces {W H : Nat} {items : List Item} (hz : beginV W H items = 0) :
    ∃ s, piecesV W H items (treeV items 80 W H) = .ok s ∧ worth items s.rects = bval items W H ∧ s.rects.length ≤ 4096 ∧ ∀ q (hq : q < s.rects.length), ∃ p : Nat, ∃ hp : p < items.length, s.rects[q].item = (p : Int) := by
  have hb := beginV_zero hz
  have hx := hb
  unfold Box at hx
  have p1 : (W : Int) * H ≤ 40 * 40 := Int.mul_le_mul (by omega) (by omega) (by omega) (by omega)
  obtain ⟨s, hw, _, l, hr, hv⟩ := treeV_walk items 80 W H 0 0 ⟨0, [], 0⟩ (by omega) (by omega) (by omega) (by show ((0 : Nat) : Int) + _ ≤ _; omega)
  have hA := walkV_adds _ _ _ _ _ _ _ _ _ hb hw
  obtain ⟨_, h2, l', h3, h4, _, _, _, h8⟩ := hA
  have e : s.rects = l := hr
  have e' : s.rects = l' := h3
  refine ⟨s, by unfold piecesV; rw [if_neg (by rw [hz]; omega)]; exact hw, by rw [e]; exact hv, ?_, fun q hq => ?_⟩
  · rw [e']
    have : l'.length ≤ s.nodes - 0 := h8
    omega
  · obtain ⟨_, p, hp, e1, _⟩ := h4 s.rects[q] (by rw [← e']; exact List.getElem_mem hq)
    exact ⟨p, hp, e1⟩
theorem worth_bd {items : List Item} (hl : ∀ j (hj : j < items.length), 0 ≤ items[j].value ∧ items[j].value ≤ 1000) : ∀ l : List Rect, 0 ≤ worth items l ∧ worth items l ≤ 1000 * l.length := by
  intro l
  induction l with
  | nil => exact ⟨Int.le_refl _, Int.le_refl _⟩
  | cons r l ih =>
    have e : worth items (r :: l) = (items[r.item.toNat]?.map Item.value).getD 0 + worth items l := by simp [worth]
    rw [e, List.length_cons]
    have h : 0 ≤ (items[r.item.toNat]?.map Item.value).getD 0 ∧ (items[r.item.toNat]?.map Item.value).getD 0 ≤ 1000 := by
      by_cases hr : r.item.toNat < items.length
      · rw [List.getElem?_eq_getElem hr]
        exact hl _ hr
      · rw [List.getElem?_eq_none (by omega)]
        decide
    omega
theorem worth_succ {items : List Item} {l : List Rect} {q p : Nat} (hq : q < l.length) (hp : p < items.length) (e : l[q].item = (p : Int)) : worth items (l.take (q + 1)) = worth items (l.take q) + items[p].value := by
  rw [List.take_succ_eq_append_getElem hq, worth_append]
  simp [worth, e, hp]
set_option maxRecDepth 100000 in
set_option maxHeartbeats 4000000 in
theorem accept_any (W0 H0 : Int) (oi : Option Addr) (its : List Item) (ci : Nat) (w : World) (hm : its.length ≤ maxLen) (hx : Flat w 4 encItem oi its) :
    Calls Try.prog 6 #[.int .i64 W0, .int .i64 H0, .slice oi its.length ci] w fun e w' => e = .returned (.bool true) ∧ Below w.heap.size w w' := by
  have hWb := wi_bd W0 1 40 (by omega)
  have hHb := wi_bd H0 1 40 (by omega)
  obtain ⟨W, hW⟩ : ∃ W : Nat, wi W0 1 40 = (W : Int) := ⟨(wi W0 1 40).toNat, by omega⟩
  obtain ⟨H, hH⟩ : ∃ H : Nat, wi H0 1 40 = (H : Int) := ⟨(wi H0 1 40).toNat, by omega⟩
  rw [hW] at hWb
  rw [hH] at hHb
  have hz : Hid (beginV W H (kindsV its) = 0) := by show beginV W H (kindsV its) = 0; unfold beginV; rw [if_pos (by omega), kindsV_ok]
  have hall := Lib.hid (itemsErr_zero (kindsV_ok its)).2
  have hk8 := (itemsErr_zero (kindsV_ok its)).1
  obtain ⟨st, hp, hworth, hlen, hitem⟩ := best_pieces hz.out
  have HW := Lib.hid hW
  have HH := Lib.hid hH
  have HP := Lib.hid hp
  have hworth := Lib.hid hworth
  have hitem := Lib.hid hitem
  have hx := Lib.hid hx
  clear hW hH hp
  go_enter Try.func6, Try.ntmps6
  go_wp2_with fail
  refine (cuts_any _).mono ?_
  rintro e w1 ⟨rfl, hb1⟩
  have hx1 := Lib.hid (hx.out.below hb1)
  have hz1 := Lib.hid hb1
  clear hb1
  go_wp2_with fail
  refine (within_any _ _ _ _ (by omega) (by omega) (by omega)).mono ?_
  rintro e w' ⟨rfl, rfl⟩
  rw [HW.out]
  go_wp2_with fail
  refine (within_any _ _ _ _ (by omega) (by omega) (by omega)).mono ?_
  rintro e w' ⟨rfl, rfl⟩
  rw [HH.out]
  go_wp2_with fail
  refine (kinds_any _ _ _ _ hm hx1.out).mono ?_
  rintro e w2 ⟨ok, ck, rfl, hmk, hfk, hb2, _⟩
  have hz2 := Lib.hid (bthen hz1.out hb2)
  have hfk := Lib.hid hfk
  clear hb2
  go_wp2_with fail
  refine (best_ok W H ok (kindsV its) ck _ hmk hfk.out hz.out).mono ?_
  rintro e w3 ⟨hb3, k, a, i, kids, oa, cap, hTe, rfl, hT⟩
  have hz3 := Lib.hid (bthen hz2.out hb3)
  have hT := Lib.hid (hT.under (balloc (Below.refl _ w3) (.cells #[.int .i64 k, .int .i64 a, .int .i64 i, .slice oa kids.length cap] 25)))
  have hfk3 := Lib.hid ((hfk.out.below hb3).below (balloc (Below.refl _ w3) (.cells #[.int .i64 k, .int .i64 a, .int .i64 i, .slice oa kids.length cap] 25)))
  rw [hTe] at hT
  have hp2 : piecesV W H (kindsV its) (.mk k a i kids) = .ok st := by rw [← hTe]; exact HP.out
  have HP2 := Lib.hid hp2
  clear hb3 hTe hp2
  go_wp2_with fail
  refine (pieces_any W H ok (kindsV its) ck (.mk k a i kids) k a i oa kids.length cap _ hmk hfk3.out hT.out).mono ?_
  rw [HP2.out]
  rintro e w4 ⟨hb4, oar, capr, rfl, hmr, hfr, hcr, hcm⟩
  have hz4 := Lib.hid (bthen (balloc hz3.out _) hb4)
  have hfk4 := Lib.hid (hfk3.out.below hb4)
  have hfr := Lib.hid hfr
  clear hb4
  go_wp2
  go_loopw [13, 43] (fun sv i wr => ∃ q : Nat, q ≤ st.rects.length ∧ i = .int .i64 q ∧ sv = .int .i64 (worth (kindsV its) (st.rects.take q)) ∧ Below w4.heap.size w4 wr) (fun _ i _ => st.rects.length - (intOf i).toNat)
  case atStart => exact ⟨0, by omega, rfl, by simp [worth], Below.refl _ _⟩
  case round =>
    obtain ⟨q, hq, rfl, rfl, hbr⟩ := hrel
    have hwb := worth_bd (fun j hj => (hall.out j hj).2.2.2.2) (st.rects.take q)
    have hlq : (st.rects.take q).length ≤ 4096 := by rw [List.length_take]; omega
    by_cases hlt : q < st.rects.length
    · obtain ⟨b, off, rfl, c0, c1, c2, c3, c4⟩ := (hfr.out.below hbr).rect hlt
      obtain ⟨p, hp, hpe⟩ := hitem.out q hlt
      obtain ⟨bi, offi, rfl, d0, d1, d2, d3⟩ := (hfk4.out.below hbr).item hp
      have hvb := (hall.out p hp).2.2.2.2
      have E : Hid (worth (kindsV its) (st.rects.take (q + 1)) = worth (kindsV its) (st.rects.take q) + (kindsV its)[p].value) := worth_succ hlt hp hpe
      rw [hpe] at c0
      have hin : inB (p : Int) 0 (((kindsV its).length : Int) - 1) = true := inB_yes (by omega) (by omega)
      have hd := cell?_lt d0
      clear hpe
      go_wp2_with (go_at_call 22; refine (in_keep _ _ _ _).mono ?_; rintro e w' ⟨rfl, rfl⟩)
      go_roundw
      case rel => exact ⟨q + 1, by omega, by go_num, by rw [E.out], balloc hbr _⟩
      case measure => simp [intOf]; omega
    · have E : Hid (worth (kindsV its) (st.rects.take q) = bval (kindsV its) W H) := by
        show worth (kindsV its) (st.rects.take q) = bval (kindsV its) W H
        rw [List.take_of_length_le (by omega)]; exact hworth.out
      rw [E.out]
      clear hwb
      go_wp2
      go_ret
      exact ⟨rfl, bthen hz4.out hbr⟩
end Go.Proofs.Ythalimgejohffaa
