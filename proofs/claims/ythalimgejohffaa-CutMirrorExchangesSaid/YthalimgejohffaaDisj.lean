/-
  The law CutPiecesDisjoint: its walk. Own text.
-/
import Derived.Test.YthalimgejohffaaPieces
namespace Go.Proofs.Ythalimgejohffaa
open Go.RowKit
set_option linter.unusedVariables false
theorem Flat.rect {w : World} {oa : Option Addr} {xs : List Rect} (h : Flat w 5 encRect oa xs) {i : Nat} (hi : i < xs.length) :
    ∃ b off, oa = some ⟨b, off, none⟩ ∧ w.cell? ⟨b, off + i * 5, none⟩ = some (.int .i64 xs[i].item) ∧ w.cell? ⟨b, off + i * 5 + 1, none⟩ = some (.int .i64 xs[i].x) ∧
      w.cell? ⟨b, off + i * 5 + 2, none⟩ = some (.int .i64 xs[i].y) ∧ w.cell? ⟨b, off + i * 5 + 3, none⟩ = some (.int .i64 xs[i].w) ∧ w.cell? ⟨b, off + i * 5 + 4, none⟩ = some (.int .i64 xs[i].h) := by
  obtain ⟨v0, hv0, b, off, e, h0⟩ := h i hi 0 (by omega)
  obtain ⟨v1, hv1, b1, off1, e1, h1⟩ := h i hi 1 (by omega)
  obtain ⟨v2, hv2, b2, off2, e2, h2⟩ := h i hi 2 (by omega)
  obtain ⟨v3, hv3, b3, off3, e3, h3⟩ := h i hi 3 (by omega)
  obtain ⟨v4, hv4, b4, off4, e4, h4⟩ := h i hi 4 (by omega)
  subst e
  simp only [Option.some.injEq, Addr.mk.injEq, and_true] at e1 e2 e3 e4
  obtain ⟨rfl, rfl⟩ := e1
  obtain ⟨rfl, rfl⟩ := e2
  obtain ⟨rfl, rfl⟩ := e3
  obtain ⟨rfl, rfl⟩ := e4
  simp [encRect] at hv0 hv1 hv2 hv3 hv4
  subst hv0 hv1 hv2 hv3 hv4
  exact ⟨b, off, rfl, by simpa using h0, by simpa [Nat.add_assoc] using h1, by simpa [Nat.add_assoc] using h2, by simpa [Nat.add_assoc] using h3, by simpa [Nat.add_assoc] using h4⟩
theorem piecesV_err {W H : Int} {items : List Item} {t : Tree} {c : Int} (h : piecesV W H items t = .err c) : c ≠ 0 := by
  unfold piecesV at h
  split at h
  · rename_i hz; cases h; exact hz
  · exact walkV_err _ _ _ _ _ _ _ _ _ h
theorem area_nonneg {l : List Rect} {x y w h : Int} (hin : ∀ r ∈ l, r.isIn x y w h) : 0 ≤ area l := by
  induction l with
  | nil => simp [area]
  | cons r l ih =>
    obtain ⟨_, _, b1, b2, _⟩ := hin r (by simp)
    have h3 : 0 ≤ r.w * r.h := Int.mul_nonneg (by omega) (by omega)
    have h4 := ih (fun q hq => hin q (by simp [hq]))
    have e : area (r :: l) = r.w * r.h + area l := by simp [area]
    omega
theorem area_take {l : List Rect} {x y w h : Int} (hin : ∀ r ∈ l, r.isIn x y w h) (k : Nat) : 0 ≤ area (l.take k) ∧ area (l.take k) ≤ area l := by
  have e : area l = area (l.take k) + area (l.drop k) := by rw [← area_append, List.take_append_drop]
  have h1 := area_nonneg (l := l.take k) (fun r hr => hin r (List.mem_of_mem_take hr))
  have h2 := area_nonneg (l := l.drop k) (fun r hr => hin r (List.mem_of_mem_drop hr))
  omega
theorem area_succ {l : List Rect} {k : Nat} (h : k < l.length) : area (l.take (k + 1)) = area (l.take k) + l[k].w * l[k].h := by
  rw [List.take_succ_eq_append_getElem h, area_append]
  simp [area]
/-- What the law needs of the answer. -/
theorem pieces_ok {W H : Int} {items : List Item} {t : Tree} {s : St} (h : piecesV W H items t = .ok s) :
    Box 0 0 W H ∧ (∀ r ∈ s.rects, r.isIn 0 0 W H) ∧ s.rects.Pairwise Rect.off ∧ 0 ≤ s.waste ∧ s.waste + area s.rects = W * H ∧ s.rects.length ≤ 4096 := by
  unfold piecesV at h
  split at h
  · cases h
  · rename_i hz
    have hb := beginV_zero (Decidable.not_not.1 hz)
    obtain ⟨h1, h2, l, h3, h4, h5, h6, h7, h8⟩ := walkV_adds _ _ _ _ _ _ _ _ _ hb h
    have e : s.rects = l := h3
    rw [e]
    exact ⟨hb, fun r hr => (h4 r hr).1, h5, h6, by have : s.waste - 0 + area l = W * H := h7; omega, by omega⟩
set_option maxRecDepth 100000 in
set_option maxHeartbeats 4000000 in
theorem disj_any (W H : Int) (oi : Option Addr) (items : List Item) (ci : Nat) (t : Tree) (k a i : Int) (oa : Option Addr) (nk cap : Nat) (w : World) (hm : items.length ≤ maxLen) (hx : Flat w 4 encItem oi items) (hT : TreeAt w t [.int .i64 k, .int .i64 a, .int .i64 i, .slice oa nk cap])
    (hcuts : ∀ w : World, Calls Try.prog 10 #[] w fun e w' => e = .returned (.bool true) ∧ Below w.heap.size w w') :
    Calls Try.prog 3 #[.int .i64 W, .int .i64 H, .slice oi items.length ci, .agg #[.int .i64 k, .int .i64 a, .int .i64 i, .slice oa nk cap]] w fun e w' => e = .returned (.bool true) ∧ Below w.heap.size w w' := by
  have hx1 := Lib.hid (hx.below (balloc (Below.refl _ w) (.cells #[.int .i64 k, .int .i64 a, .int .i64 i, .slice oa nk cap] 25)))
  have b0 : (w.alloc (.cells #[.int .i64 k, .int .i64 a, .int .i64 i, .slice oa nk cap] 25)).cell? ⟨w.heap.size, 0, none⟩ = some (.int .i64 k) := by go_simp
  have b1 : (w.alloc (.cells #[.int .i64 k, .int .i64 a, .int .i64 i, .slice oa nk cap] 25)).cell? ⟨w.heap.size, 1, none⟩ = some (.int .i64 a) := by go_simp
  have b2 : (w.alloc (.cells #[.int .i64 k, .int .i64 a, .int .i64 i, .slice oa nk cap] 25)).cell? ⟨w.heap.size, 2, none⟩ = some (.int .i64 i) := by go_simp
  have b3 : (w.alloc (.cells #[.int .i64 k, .int .i64 a, .int .i64 i, .slice oa nk cap] 25)).cell? ⟨w.heap.size, 3, none⟩ = some (.slice oa nk cap) := by go_simp
  have hT1 : Hid (TreeAt (w.alloc (.cells #[.int .i64 k, .int .i64 a, .int .i64 i, .slice oa nk cap] 25)) t [.int .i64 k, .int .i64 a, .int .i64 i, .slice oa nk cap]) := hT.under (balloc (Below.refl _ w) _)
  have HCU := Lib.hid hcuts
  clear hT hx hcuts
  go_enter Try.func3, Try.ntmps3
  go_wp2_with (go_at_call 10; refine (HCU.out _).mono ?_; rintro e w1 ⟨rfl, hb1⟩; have m0 := keepCell hb1 b0; have m1 := keepCell hb1 b1; have m2 := keepCell hb1 b2; have m3 := keepCell hb1 b3; have hx2 := Lib.hid (hx1.out.below hb1); have hT2 := Lib.hid (hT1.out.under hb1))
  refine (pieces_any W H oi items ci t k a i oa nk cap _ hm hx2.out hT2.out).mono ?_
  rintro e w2 ⟨hb2, hres⟩
  have hb3 : Below w.heap.size w w2 := bthen (balloc_lt _ _ hb1) hb2
  cases hp : piecesV W H items t with
  | err c =>
    rw [hp] at hres
    have hc1 := piecesV_err hp
    have hc : (c != 0) = true := by simpa using hc1
    have hres2 : e = .returned (.tuple #[.slice none 0 0, .int .i64 0, .int .i64 c]) := hres
    subst hres2
    clear hc1 hres b0 b1 b2 b3 m0 m1 m2 m3
    go_wp2
    go_ret
    exact ⟨rfl, hb3⟩
  | ok s =>
    rw [hp] at hres
    obtain ⟨oar, capr, rfl, hmr, hfr, hcr, hcm⟩ := hres
    obtain ⟨hbx, hin, hoff, hw0, har, hlen⟩ := pieces_ok hp
    have hA := hbx.area
    obtain ⟨_, _, x3, x4, x5, x6⟩ := hbx
    have HIN := Lib.hid hin
    have HOFF := Lib.hid hoff
    have HAR := Lib.hid har
    have hcm9 : capr ≤ 9223372036854775807 := by unfold maxLen at hcm; omega
    clear hin hoff har b0 b1 b2 b3 m0 m1 m2 m3 hb2
    go_wp2
    go_loopw [12, 36] (fun av i wr => ∃ q : Nat, q ≤ s.rects.length ∧ i = .int .i64 q ∧ av = .int .i64 (s.waste + area (s.rects.take q)) ∧ Below w2.heap.size w2 wr) (fun _ i _ => s.rects.length - (intOf i).toNat)
    case atStart => exact ⟨0, by omega, rfl, by show _ = Value.int .i64 (s.waste + area []); simp [area], Below.refl _ _⟩
    case round =>
      obtain ⟨q, hq, rfl, rfl, hbr⟩ := hrel
      have hP := area_take HIN.out q
      by_cases hlt : q < s.rects.length
      · obtain ⟨b, off, rfl, c0, c1, c2, c3, c4⟩ := (hfr.below hbr).rect hlt
        have hP1 := area_take HIN.out (q + 1)
        rw [area_succ hlt] at hP1
        obtain ⟨i1, i2, i3, i4, i5, i6⟩ := HIN.out _ (List.getElem_mem hlt)
        have hmul := mul_bd s.rects[q].w s.rects[q].h 40 40 (by omega) (by omega) (by omega) (by omega)
        have hbd := HAR.out
        have g1 : IntKind.i64.wrap (s.rects[q].w * s.rects[q].h) = s.rects[q].w * s.rects[q].h := IntWalk.i64_in _ (by omega)
        have g2 : IntKind.i64.wrap (s.waste + area (s.rects.take q) + s.rects[q].w * s.rects[q].h) = s.waste + area (s.rects.take q) + s.rects[q].w * s.rects[q].h := IntWalk.i64_in _ (by omega)
        have HS : Hid (s.waste + area (s.rects.take (q + 1)) = s.waste + area (s.rects.take q) + s.rects[q].w * s.rects[q].h) := by show _ = _; rw [area_succ hlt]; omega
        clear hP1 hbd hmul
        obtain ⟨wo, rfl⟩ : ∃ wo : World, wo = wr := ⟨_, rfl⟩
        go_wp2
        trace "D2"
        go_loopw [88] (fun i wi => ∃ m : Nat, m ≤ q ∧ i = .int .i64 m ∧ Below wo.heap.size wo wi ∧ wi.cell? ⟨wo.heap.size, 0, none⟩ = some (.int .i64 s.rects[q].item) ∧ wi.cell? ⟨wo.heap.size, 1, none⟩ = some (.int .i64 s.rects[q].x) ∧ wi.cell? ⟨wo.heap.size, 2, none⟩ = some (.int .i64 s.rects[q].y) ∧ wi.cell? ⟨wo.heap.size, 3, none⟩ = some (.int .i64 s.rects[q].w) ∧ wi.cell? ⟨wo.heap.size, 4, none⟩ = some (.int .i64 s.rects[q].h)) (fun i _ => q - (intOf i).toNat)
        case atStart => exact ⟨0, by omega, rfl, (Below.refl _ _).alloc (Nat.le_refl _) _, by go_simp, by go_simp, by go_simp, by go_simp, by go_simp⟩
        case round =>
          obtain ⟨m, hmq, rfl, hbi, d0, d1, d2, d3, d4⟩ := hrel
          by_cases hltm : m < q
          · have hlm : m < s.rects.length := by omega
            obtain ⟨b', off', e', p0, p1, p2, p3, p4⟩ := (hfr.below (bthen hbr hbi)).rect hlm
            simp only [Option.some.injEq, Addr.mk.injEq, and_true] at e'
            obtain ⟨rfl, rfl⟩ := e'
            obtain ⟨j1, j2, j3, j4, j5, j6⟩ := HIN.out _ (List.getElem_mem hlm)
            have ho : s.rects[m].off s.rects[q] := (List.pairwise_iff_getElem.1 HOFF.out) m q hlm hlt hltm
            have hcase : (s.rects[m].x + s.rects[m].w ≤ s.rects[q].x) ∨ (s.rects[q].x < s.rects[m].x + s.rects[m].w ∧ s.rects[q].x + s.rects[q].w ≤ s.rects[m].x) ∨ (s.rects[q].x < s.rects[m].x + s.rects[m].w ∧ s.rects[m].x < s.rects[q].x + s.rects[q].w ∧ s.rects[m].y + s.rects[m].h ≤ s.rects[q].y) ∨
              (s.rects[q].x < s.rects[m].x + s.rects[m].w ∧ s.rects[m].x < s.rects[q].x + s.rects[q].w ∧ s.rects[q].y < s.rects[m].y + s.rects[m].h ∧ s.rects[q].y + s.rects[q].h ≤ s.rects[m].y) := by unfold Rect.off at ho; omega
            clear ho hP
            have hlo := cell?_lt p0
            have hd0 := cell?_lt d0
            rcases hcase with z1 | ⟨z1, z2⟩ | ⟨z1, z2, z3⟩ | ⟨z1, z2, z3, z4⟩
            all_goals
              go_wp2
              go_roundw
              case rel => exact ⟨m + 1, by omega, by go_num, balloc hbi _, by go_simp, by go_simp, by go_simp, by go_simp, by go_simp⟩
              case measure => simp [intOf]; omega
          · clear d0 d1 d2 d3 d4
            go_wp2
            go_roundw
            case rel => exact ⟨q + 1, by omega, by go_num, by rw [HS.out], bthen hbr hbi⟩
            case measure => simp [intOf]; omega
      · have EQ : Hid (s.waste + area (s.rects.take q) = W * H) := by
          show _ = _
          rw [List.take_of_length_le (by omega)]
          exact HAR.out
        rw [EQ.out]
        have gm : IntKind.i64.wrap (W * H) = W * H := IntWalk.i64_in _ (by omega)
        clear hP
        trace "D3"
        go_wp2
        go_ret
        exact ⟨rfl, bthen hb3 hbr⟩
end Go.Proofs.Ythalimgejohffaa
