/-
  The law CutPiecesMatchReference: its walk. Own text.
-/
import Derived.Test.YthalimgejohffaaCuts4
import Derived.Test.YthalimgejohffaaPiled
namespace Go.Proofs.Ythalimgejohffaa
open Go.RowKit
set_option linter.unusedVariables false
theorem beginV_ok {W H : Int} {items : List Item} {t : Tree} {s : St} (h : piecesV W H items t = .ok s) : beginV W H items = 0 := by
  unfold piecesV at h
  split at h
  · cases h
  · rename_i hz; exact Decidable.not_not.1 hz
set_option maxRecDepth 100000 in
set_option maxHeartbeats 4000000 in
theorem match_any (W H : Int) (oi : Option Addr) (items : List Item) (ci : Nat) (t : Tree) (k a i : Int) (oa : Option Addr) (nk cap : Nat) (w : World) (hm : items.length ≤ maxLen) (hx : Flat w 4 encItem oi items) (hT : TreeAt w t [.int .i64 k, .int .i64 a, .int .i64 i, .slice oa nk cap]) :
    Calls Try.prog 4 #[.int .i64 W, .int .i64 H, .slice oi items.length ci, .agg #[.int .i64 k, .int .i64 a, .int .i64 i, .slice oa nk cap]] w fun e w' => e = .returned (.bool true) ∧ Below w.heap.size w w' := by
  have hx1 := Lib.hid (hx.below (balloc (Below.refl _ w) (.cells #[.int .i64 k, .int .i64 a, .int .i64 i, .slice oa nk cap] 25)))
  have b0 : (w.alloc (.cells #[.int .i64 k, .int .i64 a, .int .i64 i, .slice oa nk cap] 25)).cell? ⟨w.heap.size, 0, none⟩ = some (.int .i64 k) := by go_simp
  have b1 : (w.alloc (.cells #[.int .i64 k, .int .i64 a, .int .i64 i, .slice oa nk cap] 25)).cell? ⟨w.heap.size, 1, none⟩ = some (.int .i64 a) := by go_simp
  have b2 : (w.alloc (.cells #[.int .i64 k, .int .i64 a, .int .i64 i, .slice oa nk cap] 25)).cell? ⟨w.heap.size, 2, none⟩ = some (.int .i64 i) := by go_simp
  have b3 : (w.alloc (.cells #[.int .i64 k, .int .i64 a, .int .i64 i, .slice oa nk cap] 25)).cell? ⟨w.heap.size, 3, none⟩ = some (.slice oa nk cap) := by go_simp
  have hT1 : Hid (TreeAt (w.alloc (.cells #[.int .i64 k, .int .i64 a, .int .i64 i, .slice oa nk cap] 25)) t [.int .i64 k, .int .i64 a, .int .i64 i, .slice oa nk cap]) := hT.under (balloc (Below.refl _ w) _)
  clear hT hx
  go_enter Try.func4, Try.ntmps4
  go_wp2_with (go_at_call 12; refine (cuts4_any _).mono ?_; rintro e w1 ⟨rfl, hb1⟩; have m0 := keepCell hb1 b0; have m1 := keepCell hb1 b1; have m2 := keepCell hb1 b2; have m3 := keepCell hb1 b3; have hx2 := Lib.hid (hx1.out.below hb1); have hT2 := Lib.hid (hT1.out.under hb1))
  refine (pieces_any W H oi items ci t k a i oa nk cap _ hm hx2.out hT2.out).mono ?_
  rintro e w2 ⟨hb2, hres⟩
  have hb3 : Hid (Below w.heap.size w w2) := bthen (balloc_lt _ _ hb1) hb2
  have n0 := keepCell hb2 m0
  have n1 := keepCell hb2 m1
  have n2 := keepCell hb2 m2
  have n3 := keepCell hb2 m3
  have hx3 := Lib.hid (hx2.out.below hb2)
  have hT3 := Lib.hid (hT2.out.under hb2)
  clear b0 b1 b2 b3 m0 m1 m2 m3 hb1 hb2 hx1 hT1
  cases hp : piecesV W H items t with
  | err c =>
    rw [hp] at hres
    have hc1 := piecesV_err hp
    have hc : (c != 0) = true := by simpa using hc1
    have hres2 : e = .returned (.tuple #[.slice none 0 0, .int .i64 0, .int .i64 c]) := hres
    subst hres2
    have HP := Lib.hid hp
    clear hc1 hres hp
    go_wp2_with fail
    refine (piled_any W H oi items ci t k a i oa nk cap _ hm hx3.out hT3.out).mono ?_
    rw [HP.out]
    rintro e w3 ⟨hb4, kb, hkb, rfl, hwa⟩
    have hx4 := Lib.hid (hx3.out.below hb4)
    clear n0 n1 n2 n3 hwa
    simp only [Res.code]
    have hb5 := Lib.hid (bthen hb3.out hb4)
    clear hb4
    go_wp2_with (first
      | (go_at_call 14; refine (checkItems_any _ _ _ _ hm hx4.out).mono ?_; rintro e w4 ⟨rfl, hb6⟩; have hx5 := Lib.hid (hx4.out.below hb6))
      | (go_at_call 15; refine (itemsError_any _ _ _ _ hm hx5.out).mono ?_; rintro e w5 ⟨rfl, rfl⟩))
    go_ret
    exact ⟨rfl, bthen hb5.out hb6⟩
  | ok s =>
    rw [hp] at hres
    obtain ⟨oar, capr, rfl, hmr, hfr, hcr, hcm⟩ := hres
    obtain ⟨_, _, _, _, _, hlen⟩ := pieces_ok hp
    have HP := Lib.hid hp
    have hfr := Lib.hid hfr
    clear hp
    go_wp2_with fail
    refine (piled_any W H oi items ci t k a i oa nk cap _ hm hx3.out hT3.out).mono ?_
    rw [HP.out]
    rintro e w3 ⟨hb4, kb, hkb, rfl, hwa⟩
    obtain ⟨iv, rv, hW⟩ := hwa s rfl
    have hx4 := Lib.hid (hx3.out.below hb4)
    have hfr2 := Lib.hid (hfr.out.below hb4)
    clear n0 n1 n2 n3 hwa
    simp only [Res.code]
    have hb5 := Lib.hid (bthen hb3.out hb4)
    clear hb4
    have hW := Lib.hid hW
    go_wp2_with (first
      | (go_at_call 14; refine (checkItems_any _ _ _ _ hm hx4.out).mono ?_; rintro e w4 ⟨rfl, hb6⟩; have hx5 := Lib.hid (hx4.out.below hb6); have hW5 := hW.out.below hb6; have hfr5 := Lib.hid (hfr2.out.below hb6); obtain ⟨or, cr, rfl, _, hmr2, hf2⟩ := hW5.own.isSlice (fun _ => rfl); have d2 := hW5.c2; have d3 := hW5.c3; have hf2 := Lib.hid hf2; clear hW5)
      | (go_at_call 15; refine (itemsError_any _ _ _ _ hm hx5.out).mono ?_; rintro e w5 ⟨rfl, rfl⟩))
    go_loopw [75] (fun i wr => ∃ q : Nat, q ≤ s.rects.length ∧ i = .int .i64 q ∧ Below w4.heap.size w4 wr) (fun i _ => s.rects.length - (intOf i).toNat)
    case atStart => exact ⟨0, by omega, rfl, Below.refl _ _⟩
    case round =>
      obtain ⟨q, hq, rfl, hbr⟩ := hrel
      by_cases hlt : q < s.rects.length
      · obtain ⟨b, off, rfl, c0, c1, c2, c3, c4⟩ := (hfr5.out.below hbr).rect hlt
        obtain ⟨b', off', rfl, e0, e1, e2, e3, e4⟩ := (hf2.out.below hbr).rect hlt
        have d2' := keepCell hbr d2
        clear d2 d3
        go_wp2
        go_quiet (fail)
        go_wp2
        go_roundw
        case rel => exact ⟨q + 1, by omega, by go_num, bdrewN hbr _⟩
        case measure => simp [intOf]; omega
      · clear d2 d3
        go_wp2
        go_ret
        exact ⟨rfl, (bthen hb5.out hb6).trans (hbr.mono (bthen hb5.out hb6).size)⟩
end Go.Proofs.Ythalimgejohffaa
