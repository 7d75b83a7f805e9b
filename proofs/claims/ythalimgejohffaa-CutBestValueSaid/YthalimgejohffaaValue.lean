/-
  ref3.CutValue: its walk. Own text.
-/
import Derived.Test.YthalimgejohffaaBest
namespace Go.Proofs.Ythalimgejohffaa
open Go.RowKit
set_option linter.unusedVariables false
theorem elemInt : ElemType Try.prog 3 (.int .i64 0) 1 8 := ElemType.mk (by kernel_rfl) rfl (by decide)
def bv0 (items : List Item) (a b : Nat) : Int := if a = 0 ∨ b = 0 then 0 else bval items a b
theorem bv0_zero {items : List Item} {a b : Nat} (h : a = 0 ∨ b = 0) : bv0 items a b = 0 := by unfold bv0; rw [if_pos h]
theorem bv0_pos {items : List Item} {a b : Nat} (h1 : 1 ≤ a) (h2 : 1 ≤ b) : bv0 items a b = bval items a b := by unfold bv0; rw [if_neg (by omega)]
structure VTab (w : World) (g : Nat) (f : Nat → Int) : Prop where
  at' : ∀ i, i < 1681 → w.cell? ⟨g, i, none⟩ = some (.int .i64 (f i))
  fz : ∀ o, w.frozen? ⟨g, o, none⟩ = false
theorem VTab.below {w w' : World} {B g : Nat} {f : Nat → Int} (h : VTab w g f) (hb : Below B w w') (hl : g < B) : VTab w' g f :=
  ⟨fun i hi => by rw [hb.cell (p := ⟨g, i, none⟩) hl]; exact h.at' i hi, fun o => by rw [hb.frozen (p := ⟨g, o, none⟩) hl]; exact h.fz o⟩
theorem VTab.set {w : World} {g : Nat} {f : Nat → Int} (h : VTab w g f) {i : Nat} (hi : i < 1681) (v : Int) : VTab (w.setCell ⟨g, i, none⟩ (.int .i64 v)) g (fun j => if j = i then v else f j) := by
  have a1 := h.at' i hi
  have f0 := h.fz i
  refine ⟨fun j hj => ?_, fun o => ?_⟩
  · by_cases e : j = i
    · subst e
      simp only [if_pos]
      go_simp
    · simp only [if_neg e]
      rw [cell_set_ne e]
      exact h.at' j hj
  · have := h.fz o
    go_simp
theorem VTab.congr {w : World} {g : Nat} {f f' : Nat → Int} (h : VTab w g f) (he : ∀ i, i < 1681 → f i = f' i) : VTab w g f' := ⟨fun i hi => by rw [← he i hi]; exact h.at' i hi, h.fz⟩
theorem divmod41 {a b : Nat} (hb : b ≤ 40) : (a * 41 + b) / 41 = a ∧ (a * 41 + b) % 41 = b := by omega
/-- The reference's table behind all sizes ahead of (xx, yy); those beyond H stay 0. -/
def rowTo (items : List Item) (H xx yy : Nat) (idx : Nat) : Int :=
  if (idx / 41 < xx ∧ idx % 41 ≤ H) ∨ (idx / 41 = xx ∧ idx % 41 < yy ∧ idx % 41 ≤ H) then bv0 items (idx / 41) (idx % 41) else 0
theorem rowTo_at {items : List Item} {H xx yy a b : Nat} (hH : H ≤ 40) (h1 : 1 ≤ a) (h2 : 1 ≤ b) (hb : b ≤ H) (h : a < xx ∨ (a = xx ∧ b < yy)) : rowTo items H xx yy (a * 41 + b) = bval items a b := by
  obtain ⟨e1, e2⟩ := divmod41 (a := a) (show b ≤ 40 by omega)
  unfold rowTo
  rw [e1, e2, if_pos (by omega), bv0_pos h1 h2]
theorem rowTo_start (items : List Item) (H i : Nat) : (0 : Int) = rowTo items H 1 0 i := by
  unfold rowTo
  by_cases h : (i / 41 < 1 ∧ i % 41 ≤ H) ∨ (i / 41 = 1 ∧ i % 41 < 0 ∧ i % 41 ≤ H)
  · rw [if_pos h, bv0_zero (.inl (by omega))]
  · rw [if_neg h]
theorem rowTo_row (items : List Item) (H x i : Nat) : rowTo items H x 0 i = rowTo items H x 1 i := by
  unfold rowTo
  by_cases h1 : i / 41 < x ∧ i % 41 ≤ H
  · rw [if_pos (.inl h1), if_pos (.inl h1)]
  · rw [if_neg (by omega)]
    by_cases h2 : (i / 41 < x ∧ i % 41 ≤ H) ∨ (i / 41 = x ∧ i % 41 < 1 ∧ i % 41 ≤ H)
    · rw [if_pos h2, bv0_zero (.inr (by omega))]
    · rw [if_neg h2]
theorem rowTo_next (items : List Item) (H x i : Nat) : rowTo items H x (H + 1) i = rowTo items H (x + 1) 0 i := by
  unfold rowTo
  by_cases h1 : (i / 41 < x ∨ i / 41 = x) ∧ i % 41 ≤ H
  · rw [if_pos (by omega), if_pos (by omega)]
  · rw [if_neg (by omega), if_neg (by omega)]
theorem rowTo_set (items : List Item) (H x y i : Nat) (hH : H ≤ 40) (hx : 1 ≤ x) (hy1 : 1 ≤ y) (hy : y ≤ H) : (if i = x * 41 + y then bval items x y else rowTo items H x y i) = rowTo items H x (y + 1) i := by
  by_cases e : i = x * 41 + y
  · subst e
    rw [if_pos rfl, rowTo_at hH hx hy1 hy (by omega)]
  · rw [if_neg e]
    have hne : ¬ (i / 41 = x ∧ i % 41 = y) := by omega
    unfold rowTo
    by_cases h1 : (i / 41 < x ∧ i % 41 ≤ H) ∨ (i / 41 = x ∧ i % 41 < y ∧ i % 41 ≤ H)
    · rw [if_pos h1, if_pos (by omega)]
    · rw [if_neg h1, if_neg (by omega)]
theorem itemsMax_succ {items : List Item} {w h : Int} {k : Nat} (hk : k < items.length) : itemsMax items w h (k + 1) = if fitsB items[k] w h = true then max (itemsMax items w h k) items[k].value else itemsMax items w h k := by
  simp only [itemsMax, List.getElem?_eq_getElem hk]
set_option maxRecDepth 100000 in
set_option maxHeartbeats 8000000 in
theorem cutValue_any (W H : Nat) (oi : Option Addr) (items : List Item) (ci : Nat) (w : World) (hm : items.length ≤ 8) (hx : Flat w 4 encItem oi items) (hw1 : 1 ≤ W) (hw2 : W ≤ 40) (hh1 : 1 ≤ H) (hh2 : H ≤ 40)
    (hl : ∀ j (hj : j < items.length), 0 ≤ items[j].value ∧ items[j].value ≤ 1000) :
    Calls Try.prog 24 #[.int .i64 W, .int .i64 H, .slice oi items.length ci] w fun e w' => e = .returned (.int .i64 (bval items W H)) ∧ Below w.heap.size w w' := by
  have hl2 : Hid (∀ j (hj : j < items.length), items[j].value ≤ 1000) := fun j hj => (hl j hj).2
  have hl := Lib.hid hl
  have HX := Lib.hid hx
  clear hx
  obtain ⟨nn, hnn⟩ : ∃ nn : Nat, (1681 : Int) = (nn : Int) := ⟨1681, rfl⟩
  have hn1 : nn ≤ 1681 := by omega
  have hn2 : 1681 ≤ nn := by omega
  have hnn := Lib.hid hnn
  go_enter Try.func24, Try.ntmps24
  go_wp2_with (at_make; go_must (refine wpList_makeArr rfl _ _ 73 rfl elemInt Try.underlying73 w.heap.size (Value.int .i64) 0 rfl _ _ nn rfl rfl hnn.out hnn.out (by omega) (by unfold maxLen; omega) (Nat.le_refl _) ?_))
  intro w2 ha2 hb2
  have hV2 : Hid (VTab w2 w.heap.size (rowTo items H 1 0)) := by
    refine VTab.congr (f := fun _ => 0) ⟨fun i hi => ?_, fun o => ha2.frozen o⟩ (fun i _ => rowTo_start items H i)
    have h := ha2.cell (i := i) (by rw [List.length_replicate]; omega)
    rw [List.getElem_replicate] at h
    exact h
  have hgl : w.heap.size < w2.heap.size := ha2.lt.2
  have hb2 := Lib.hid hb2
  clear ha2
  go_wp2
  go_loopw [8, 9, 10, 13, 14] (fun xs _ _ _ _ wr => ∃ x : Nat, 1 ≤ x ∧ x ≤ W + 1 ∧ xs = .int .i64 x ∧ Below w.heap.size w wr ∧ VTab wr w.heap.size (rowTo items H x 0) ∧ w.heap.size < wr.heap.size) (fun xs _ _ _ _ _ => W + 1 - (intOf xs).toNat)
  case atStart => exact ⟨1, by omega, by omega, by go_num, hb2.out, hV2.out, hgl⟩
  case round =>
    obtain ⟨x, hx1, hx2, rfl, hbr, hV, hgr⟩ := hrel
    clear hV2 hb2 hgl
    have hBR := Lib.hid hbr
    have hV := Lib.hid hV
    clear hbr
    by_cases hlt : x ≤ W
    · obtain ⟨wo, rfl⟩ : ∃ wo : World, wo = wr := ⟨_, rfl⟩
      go_wp2
      go_loopw [9, 10, 13, 14] (fun ys _ _ _ wi2 => ∃ y : Nat, 1 ≤ y ∧ y ≤ H + 1 ∧ ys = .int .i64 y ∧ Below w.heap.size w wi2 ∧ VTab wi2 w.heap.size (rowTo items H x y) ∧ w.heap.size < wi2.heap.size) (fun ys _ _ _ _ => H + 1 - (intOf ys).toNat)
      case atStart => exact ⟨1, by omega, by omega, by go_num, hBR.out, hV.out.congr fun i _ => rowTo_row items H x i, hgr⟩
      case round =>
        obtain ⟨y, hy1, hy2, rfl, hbi, hVi, hgi⟩ := hrel
        clear hV hBR hgr
        have hVi := Lib.hid hVi
        have hbi := Lib.hid hbi
        by_cases hlty : y ≤ H
        · obtain ⟨w5, rfl⟩ : ∃ w5 : World, w5 = wr := ⟨_, rfl⟩
          go_wp2
          -- the kinds
          go_loopw [10, 28] (fun vs ks wk => ∃ k : Nat, k ≤ items.length ∧ ks = .int .i64 k ∧ vs = .int .i64 (itemsMax items x y k) ∧ Below w5.heap.size w5 wk) (fun _ ks _ => items.length - (intOf ks).toNat)
          case atStart => exact ⟨0, by omega, rfl, rfl, Below.refl _ _⟩
          case round =>
            obtain ⟨k, hk, rfl, rfl, hbk⟩ := hrel
            by_cases hltk : k < items.length
            · obtain ⟨b, off, rfl, c0, c1, c2, c3⟩ := (HX.out.below (hbi.out.trans (hbk.mono (Nat.le_of_lt hgi)))).item hltk
              have hS := Lib.hid (itemsMax_succ (w := (x : Int)) (h := (y : Int)) hltk)
              have hvb := hl.out k hltk
              rcases fits_cases items[k] x y with ⟨h1, h2, E⟩ | ⟨h1 | ⟨h1, h2⟩, ⟨h3, E⟩ | ⟨h3, h4, E⟩ | ⟨h3, h4, h5, E⟩ | ⟨h3, h4, h5, E⟩⟩
              all_goals
                have HE := Lib.hid E
                clear E
                by_cases hv : itemsMax items x y k < items[k].value
                all_goals
                  go_wp2
                  go_roundw
                  case rel =>
                    refine ⟨k + 1, by omega, by go_num, ?_, balloc hbk _⟩
                    rw [hS.out, HE.out]
                    simp <;> omega
                  case measure => simp [intOf]; omega
            · obtain rfl : k = items.length := by omega
              have HBK := Lib.hid hbk
              clear hbk
              go_wp2
              go_loopw [10, 13] (fun vs ks wk => ∃ m : Nat, m + 1 ≤ x ∧ ks = .int .i64 (m + 1) ∧ vs = .int .i64 (sidesMax (bval items) x y (itemsMax items x y items.length) m) ∧ Below w5.heap.size w5 wk) (fun _ ks _ => x + 1 - (intOf ks).toNat)
              case atStart => exact ⟨0, by omega, by go_num, rfl, HBK.out⟩
              case round =>
                obtain ⟨m, hmk, rfl, rfl, hbk⟩ := hrel
                clear HBK
                by_cases hltm : m + 1 < x
                · have hb1 := bval_small hl2.out (a := m + 1) (b := y) (by omega) (by omega) (by omega) (by omega)
                  have hb2 := bval_small hl2.out (a := x - (m + 1)) (b := y) (by omega) (by omega) (by omega) (by omega)
                  have c1 : wr.cell? ⟨w.heap.size, (m + 1) * 41 + y, none⟩ = some (.int .i64 (bval items (m + 1) (y))) := by
                    have h := ((hVi.out.below hbk hgi).at' ((m + 1) * 41 + y) (by omega))
                    rw [rowTo_at hh2 (by omega) (by omega) (by omega) (.inl (by omega))] at h
                    exact h
                  have c2 : wr.cell? ⟨w.heap.size, (x - (m + 1)) * 41 + y, none⟩ = some (.int .i64 (bval items (x - (m + 1)) (y))) := by
                    have h := ((hVi.out.below hbk hgi).at' ((x - (m + 1)) * 41 + y) (by omega))
                    rw [rowTo_at hh2 (by omega) (by omega) (by omega) (.inl (by omega))] at h
                    exact h
                  have n1 : (((m : Int) + 1) * 41 + (y : Int)).toNat = (m + 1) * 41 + y := by omega
                  have n2 : (((x : Int) - ((m : Int) + 1)) * 41 + (y : Int)).toNat = (x - (m + 1)) * 41 + y := by omega
                  have p1 : (0 : Int) ≤ ((m : Int) + 1) * 41 + (y : Int) := by omega
                  have p2 : ((m : Int) + 1) * 41 + (y : Int) < (1681 : Int) := by omega
                  have p3 : (0 : Int) ≤ ((x : Int) - ((m : Int) + 1)) * 41 + (y : Int) := by omega
                  have p4 : ((x : Int) - ((m : Int) + 1)) * 41 + (y : Int) < (1681 : Int) := by omega
                  have hS : Hid (sidesMax (bval items) x y (itemsMax items x y items.length) (m + 1) = max (sidesMax (bval items) x y (itemsMax items x y items.length) m) (bval items (m + 1) (y) + bval items (x - (m + 1)) (y))) := rfl
                  have gs : IntKind.i64.wrap (bval items (m + 1) (y) + bval items (x - (m + 1)) (y)) = bval items (m + 1) (y) + bval items (x - (m + 1)) (y) := IntWalk.i64_in _ (by omega)
                  have s0 : IntKind.i64.wrap (((m : Int) + 1) * 41) = ((m : Int) + 1) * 41 := IntWalk.i64_in _ (by omega)
                  have s1 : IntKind.i64.wrap (((m : Int) + 1) * 41 + (y : Int)) = ((m : Int) + 1) * 41 + (y : Int) := IntWalk.i64_in _ (by omega)
                  have s2 : IntKind.i64.wrap ((x : Int) - ((m : Int) + 1)) = (x : Int) - ((m : Int) + 1) := IntWalk.i64_in _ (by omega)
                  have s3 : IntKind.i64.wrap (((x : Int) - ((m : Int) + 1)) * 41) = ((x : Int) - ((m : Int) + 1)) * 41 := IntWalk.i64_in _ (by omega)
                  have s4 : IntKind.i64.wrap (((x : Int) - ((m : Int) + 1)) * 41 + (y : Int)) = ((x : Int) - ((m : Int) + 1)) * 41 + (y : Int) := IntWalk.i64_in _ (by omega)
                  by_cases hv : sidesMax (bval items) x y (itemsMax items x y items.length) m < bval items (m + 1) (y) + bval items (x - (m + 1)) (y)
                  all_goals
                    go_wp2
                    go_quiet (fail)
                    clear gs s0 s1 s2 s3 s4 n1 n2
                    go_wp2
                    go_roundw
                    case rel =>
                      refine ⟨m + 1, by omega, by go_num, ?_, bdrewN hbk _⟩
                      rw [hS.out]
                      simp <;> omega
                    case measure => simp [intOf]; omega
                · have hmx : Hid (m = x - 1) := by show m = x - 1; omega
                  obtain ⟨m2, rfl⟩ : ∃ m2 : Nat, m2 = m := ⟨_, rfl⟩
                  have HBK := Lib.hid hbk
                  clear hbk
                  go_wp2
                  go_loopw [10, 14] (fun vs ks wk => ∃ m : Nat, m + 1 ≤ y ∧ ks = .int .i64 (m + 1) ∧ vs = .int .i64 (endsMax (bval items) x y (sidesMax (bval items) x y (itemsMax items x y items.length) m2) m) ∧ Below w5.heap.size w5 wk) (fun _ ks _ => y + 1 - (intOf ks).toNat)
                  case atStart => exact ⟨0, by omega, by go_num, rfl, HBK.out⟩
                  case round =>
                    obtain ⟨m, hmk, rfl, rfl, hbk⟩ := hrel
                    clear HBK
                    by_cases hltm : m + 1 < y
                    · have hb1 := bval_small hl2.out (a := x) (b := m + 1) (by omega) (by omega) (by omega) (by omega)
                      have hb2 := bval_small hl2.out (a := x) (b := y - (m + 1)) (by omega) (by omega) (by omega) (by omega)
                      have c1 : wr.cell? ⟨w.heap.size, x * 41 + (m + 1), none⟩ = some (.int .i64 (bval items (x) (m + 1))) := by
                        have h := ((hVi.out.below hbk hgi).at' (x * 41 + (m + 1)) (by omega))
                        rw [rowTo_at hh2 (by omega) (by omega) (by omega) (.inr ⟨rfl, by omega⟩)] at h
                        exact h
                      have c2 : wr.cell? ⟨w.heap.size, x * 41 + (y - (m + 1)), none⟩ = some (.int .i64 (bval items (x) (y - (m + 1)))) := by
                        have h := ((hVi.out.below hbk hgi).at' (x * 41 + (y - (m + 1))) (by omega))
                        rw [rowTo_at hh2 (by omega) (by omega) (by omega) (.inr ⟨rfl, by omega⟩)] at h
                        exact h
                      have n1 : ((x : Int) * 41 + ((m : Int) + 1)).toNat = x * 41 + (m + 1) := by omega
                      have n2 : ((x : Int) * 41 + (y : Int) - ((m : Int) + 1)).toNat = x * 41 + (y - (m + 1)) := by omega
                      have p1 : (0 : Int) ≤ (x : Int) * 41 + ((m : Int) + 1) := by omega
                      have p2 : (x : Int) * 41 + ((m : Int) + 1) < (1681 : Int) := by omega
                      have p3 : (0 : Int) ≤ (x : Int) * 41 + (y : Int) - ((m : Int) + 1) := by omega
                      have p4 : (x : Int) * 41 + (y : Int) - ((m : Int) + 1) < (1681 : Int) := by omega
                      have hS : Hid (endsMax (bval items) x y (sidesMax (bval items) x y (itemsMax items x y items.length) m2) (m + 1) = max (endsMax (bval items) x y (sidesMax (bval items) x y (itemsMax items x y items.length) m2) m) (bval items (x) (m + 1) + bval items (x) (y - (m + 1)))) := rfl
                      have gs : IntKind.i64.wrap (bval items (x) (m + 1) + bval items (x) (y - (m + 1))) = bval items (x) (m + 1) + bval items (x) (y - (m + 1)) := IntWalk.i64_in _ (by omega)
                      have s0 : IntKind.i64.wrap ((x : Int) * 41) = (x : Int) * 41 := IntWalk.i64_in _ (by omega)
                      have s1 : IntKind.i64.wrap ((x : Int) * 41 + ((m : Int) + 1)) = (x : Int) * 41 + ((m : Int) + 1) := IntWalk.i64_in _ (by omega)
                      have s2 : IntKind.i64.wrap ((x : Int) * 41 + (y : Int)) = (x : Int) * 41 + (y : Int) := IntWalk.i64_in _ (by omega)
                      have s3 : IntKind.i64.wrap ((x : Int) * 41 + (y : Int) - ((m : Int) + 1)) = (x : Int) * 41 + (y : Int) - ((m : Int) + 1) := IntWalk.i64_in _ (by omega)
                      by_cases hv : endsMax (bval items) x y (sidesMax (bval items) x y (itemsMax items x y items.length) m2) m < bval items (x) (m + 1) + bval items (x) (y - (m + 1))
                      all_goals
                        go_wp2
                        go_quiet (fail)
                        clear gs s0 s1 s2 s3 n1 n2
                        go_wp2
                        go_roundw
                        case rel =>
                          refine ⟨m + 1, by omega, by go_num, ?_, bdrewN hbk _⟩
                          rw [hS.out]
                          simp <;> omega
                        case measure => simp [intOf]; omega
                    · have hmy : Hid (m = y - 1) := by show m = y - 1; omega
                      have hE : Hid (endsMax (bval items) x y (sidesMax (bval items) x y (itemsMax items x y items.length) m2) m = bval items x y) := by
                        show _ = _
                        rw [hmx.out, hmy.out]
                        exact maxes_eq items hx1 hy1
                      have hVk := (hVi.out.below hbk hgi)
                      have a1 := hVk.at' (x * 41 + y) (by omega)
                      have a2 := hVk.fz (x * 41 + y)
                      have HVK := Lib.hid hVk
                      have hbk2 := Lib.hid (hbi.out.trans (hbk.mono (Nat.le_of_lt hgi)))
                      have hgk : w.heap.size < wr.heap.size := Nat.lt_of_lt_of_le hgi hbk.size
                      clear hVk hbk
                      rw [hE.out]
                      go_wp2
                      go_roundw
                      case rel =>
                        refine ⟨y + 1, by omega, by omega, by go_num, ?_, (HVK.out.set (i := x * 41 + y) (by omega) (bval items x y)).congr fun i _ => rowTo_set items H x y i hh2 hx1 hy1 hlty, by simp [World.setCell]; omega⟩
                        have hb9 := hbk2.out
                        go_grown
                      case measure => simp [intOf]; omega
        · obtain rfl : y = H + 1 := by omega
          have hVn := Lib.hid (hVi.out.congr fun i _ => rowTo_next items H x i)
          clear hVi
          go_wp2
          go_roundw
          case rel => exact ⟨x + 1, by omega, by omega, by go_num, hbi.out, hVn.out, hgi⟩
          case measure => simp [intOf]; omega
    · have hxW : Hid (x = W + 1) := by show x = W + 1; omega
      have c1 : wr.cell? ⟨w.heap.size, W * 41 + H, none⟩ = some (.int .i64 (bval items W H)) := by
        have h := hV.out.at' (W * 41 + H) (by omega)
        rw [hxW.out, rowTo_at hh2 hw1 hh1 (Nat.le_refl _) (.inl (by omega))] at h
        exact h
      go_wp2
      go_ret
      exact ⟨rfl, hBR.out⟩
end Go.Proofs.Ythalimgejohffaa
