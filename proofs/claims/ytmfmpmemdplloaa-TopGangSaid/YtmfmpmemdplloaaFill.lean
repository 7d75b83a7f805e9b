/-
  cut.table's fill: its walk. Own text.
-/
import Derived.Test.YtmfmpmemdplloaaTab
import Derived.Test.YtmfmpmemdplloaaCut
import Derived.Deep.RegionHeld3
namespace Go.Proofs.Ytmfmpmemdplloaa
open Go.RowKit
set_option linter.unusedVariables false
theorem bval_small {l : List Item} (hl : ∀ j (hj : j < l.length), l[j].value ≤ 1000) {a b : Nat} (h1 : 1 ≤ a) (h2 : a ≤ 40) (h3 : 1 ≤ b) (h4 : b ≤ 40) : 0 ≤ bval l a b ∧ bval l a b ≤ 1600000 := by
  have h := bval_bd hl (a + b) a b (Nat.le_refl _) h1 h3
  have p : (a : Int) * b ≤ 40 * 40 := Int.mul_le_mul (by omega) (by omega) (by omega) (by omega)
  omega
theorem itemsTo_succ {items : List Item} {w h : Int} {k : Nat} (hk : k < items.length) : itemsTo items w h (k + 1) = if fitsB items[k] w h = true ∧ (itemsTo items w h k).value < items[k].value then ⟨items[k].value, 1, 0, k⟩ else itemsTo items w h k := by
  simp only [itemsTo, List.getElem?_eq_getElem hk]
theorem itemsTo_bd {items : List Item} (hl : ∀ j (hj : j < items.length), items[j].value ≤ 1000) (w h : Int) {k : Nat} (hk : k ≤ items.length) : 0 ≤ (itemsTo items w h k).value ∧ (itemsTo items w h k).value ≤ 1000 := by
  obtain ⟨h1, _, h3⟩ := itemsTo_spec items w h k hk
  refine ⟨h1, ?_⟩
  rcases h3 with e | ⟨j, hj, _, e⟩
  · rw [e]; decide
  · rw [e]; exact hl j hj
/-- The variable that holds the choice so far. -/
structure ChVar (w : World) (b : Nat) (c : Choice) : Prop where
  at' : ChAt w b 0 c
  fz : ∀ o, w.frozen? ⟨b, o, none⟩ = false
theorem ChVar.set {w : World} {b : Nat} {c : Choice} (h : ChVar w b c) (c' : Choice) :
    ChVar ((((w.setCell ⟨b, 0, none⟩ (.int .i64 c'.value)).setCell ⟨b, 1, none⟩ (.int .i64 c'.kind)).setCell ⟨b, 2, none⟩ (.int .i64 c'.at')).setCell ⟨b, 3, none⟩ (.int .i64 c'.item)) b c' := by
  obtain ⟨⟨a1, a2, a3, a4⟩, fz⟩ := h
  simp only [Nat.zero_add] at a2 a3 a4
  have f0 := fz 0
  refine ⟨⟨?_, ?_, ?_, ?_⟩, fun o => ?_⟩
  · go_simp
  · go_simp
  · go_simp
  · go_simp
  · have := fz o
    go_simp
theorem ChVar.below {w w' : World} {B b : Nat} {c : Choice} (h : ChVar w b c) (hb : Below B w w') (hl : b < B) : ChVar w' b c := ⟨h.at'.below hb hl, fun o => by rw [hb.frozen (p := ⟨b, o, none⟩) hl]; exact h.fz o⟩
theorem ChVar.lt {w : World} {b : Nat} {c : Choice} (h : ChVar w b c) : b < w.heap.size := cell?_lt h.at'.v
set_option maxRecDepth 100000 in
set_option maxHeartbeats 4000000 in
theorem fill_any (H x y g n cap : Nat) (F : Nat → Choice) (oi : Option Addr) (items : List Item) (ci : Nat) (w : World) (hT : Tab w g n F) (hH : H ≤ 40) (hx1 : 1 ≤ x) (hx : x ≤ 40) (hy1 : 1 ≤ y) (hy : y ≤ H) (hn : n ≤ 1681) (hi : x * (H + 1) + y < n)
    (hm : items.length ≤ 8) (hl : ∀ j (hj : j < items.length), items[j].value ≤ 1000) (hxs : Flat w 4 encItem oi items) (hF : ∀ a b, a ≤ x → b ≤ y → a + b < x + y → (F (a * (H + 1) + b)).value = bval items a b ∧ a * (H + 1) + b < n) :
    Calls Try.prog 11 #[.agg #[.int .i64 H, .slice (some ⟨g, 0, none⟩) n cap], .int .i64 x, .int .i64 y, .slice oi items.length ci] w (RetChoice (fillV (bval items) items x y) w) := by
  have hglt : g < w.heap.size := (hT.at' _ hi).lt
  have hF := Lib.hid hF
  have hT := Lib.hid hT
  have hxs := Lib.hid hxs
  have hi := Lib.hid hi
  go_enter Try.func11, Try.ntmps11
  go_wp2
  have hb0 : Below w.heap.size w (((w.alloc (.cells #[.int .i64 H, .slice (some ⟨g, 0, none⟩) n cap] 49)).alloc (.cells #[.int .i64 0, .int .i64 0, .int .i64 0, .int .i64 0] 51)).alloc (.cells #[.int .i64 0, .int .i64 0, .int .i64 0, .int .i64 0] 51)) := balloc (balloc (balloc (Below.refl _ w) _) _) _
  have q0 : (((w.alloc (.cells #[.int .i64 H, .slice (some ⟨g, 0, none⟩) n cap] 49)).alloc (.cells #[.int .i64 0, .int .i64 0, .int .i64 0, .int .i64 0] 51)).alloc (.cells #[.int .i64 0, .int .i64 0, .int .i64 0, .int .i64 0] 51)).cell? ⟨w.heap.size, 0, none⟩ = some (.int .i64 H) := by go_simp
  have q1 : (((w.alloc (.cells #[.int .i64 H, .slice (some ⟨g, 0, none⟩) n cap] 49)).alloc (.cells #[.int .i64 0, .int .i64 0, .int .i64 0, .int .i64 0] 51)).alloc (.cells #[.int .i64 0, .int .i64 0, .int .i64 0, .int .i64 0] 51)).cell? ⟨w.heap.size, 1, none⟩ = some (.slice (some ⟨g, 0, none⟩) n cap) := by go_simp
  have z8 : ChVar (((w.alloc (.cells #[.int .i64 H, .slice (some ⟨g, 0, none⟩) n cap] 49)).alloc (.cells #[.int .i64 0, .int .i64 0, .int .i64 0, .int .i64 0] 51)).alloc (.cells #[.int .i64 0, .int .i64 0, .int .i64 0, .int .i64 0] 51)) (w.heap.size + 1) .zero := ⟨⟨by unfold Choice.zero; go_simp, by unfold Choice.zero; go_simp, by unfold Choice.zero; go_simp, by unfold Choice.zero; go_simp⟩, fun o => by go_simp⟩
  have z9 : ChVar (((w.alloc (.cells #[.int .i64 H, .slice (some ⟨g, 0, none⟩) n cap] 49)).alloc (.cells #[.int .i64 0, .int .i64 0, .int .i64 0, .int .i64 0] 51)).alloc (.cells #[.int .i64 0, .int .i64 0, .int .i64 0, .int .i64 0] 51)) (w.heap.size + 1 + 1) .zero := ⟨⟨by unfold Choice.zero; go_simp, by unfold Choice.zero; go_simp, by unfold Choice.zero; go_simp, by unfold Choice.zero; go_simp⟩, fun o => by go_simp⟩
  have lt0 : (((w.alloc (.cells #[.int .i64 H, .slice (some ⟨g, 0, none⟩) n cap] 49)).alloc (.cells #[.int .i64 0, .int .i64 0, .int .i64 0, .int .i64 0] 51)).alloc (.cells #[.int .i64 0, .int .i64 0, .int .i64 0, .int .i64 0] 51)).heap.size = w.heap.size + 3 := by simp
  revert hb0 q0 q1 z8 z9 lt0
  generalize World.alloc (World.alloc (World.alloc w _) _) _ = w0
  intro hb0 q0 q1 z8 z9 lt0
  have hb0 := Lib.hid hb0
  have Z8 := Lib.hid z8
  have Z9 := Lib.hid z9
  have lt0 := Lib.hid lt0
  have Q0 := Lib.hid q0
  have Q1 := Lib.hid q1
  clear q0 q1 z8 z9
  go_loopw [18] (fun i wr => ∃ k : Nat, k ≤ items.length ∧ i = .int .i64 k ∧ Below (w.heap.size + 1 + 1) w0 wr ∧ ChVar wr (w.heap.size + 1 + 1) (itemsTo items x y k)) (fun i _ => items.length - (intOf i).toNat)
  case atStart => exact ⟨0, by omega, rfl, Below.refl _ _, Z9.out⟩
  case round =>
    obtain ⟨k, hk, rfl, hbr, hc⟩ := hrel
    have hbw : Below w.heap.size w wr := hb0.out.trans (hbr.mono (by omega))
    have hlt2 : w.heap.size + 1 + 1 < wr.heap.size := hc.lt
    have hcb := itemsTo_bd hl (x : Int) (y : Int) hk
    by_cases hlt : k < items.length
    · obtain ⟨b, off, rfl, c0, c1, c2, c3⟩ := (hxs.out.below hbw).item hlt
      have hS := Lib.hid (itemsTo_succ (w := (x : Int)) (h := (y : Int)) hlt)
      generalize hcc : itemsTo items x y k = cc at *
      have hcc := Lib.hid hcc
      have bx2 : (wr.alloc (.cells #[.int .i64 items[k].w, .int .i64 items[k].h, .int .i64 items[k].value, .bool items[k].turn] 23)).cell? ⟨wr.heap.size, 2, none⟩ = some (.int .i64 items[k].value) := by go_simp
      have hcx : ChVar (wr.alloc (.cells #[.int .i64 items[k].w, .int .i64 items[k].h, .int .i64 items[k].value, .bool items[k].turn] 23)) (w.heap.size + 1 + 1) cc := hc.below (balloc (Below.refl _ wr) _) hlt2
      have hbx : Hid (Below (w.heap.size + 1 + 1) w0 (wr.alloc (.cells #[.int .i64 items[k].w, .int .i64 items[k].h, .int .i64 items[k].value, .bool items[k].turn] 23))) := hbr.alloc (by omega) _
      have hc := Lib.hid hc
      have hbw := Lib.hid hbw
      have hbr := Lib.hid hbr
      obtain ⟨wo, rfl⟩ : ∃ wo : World, wo = wr := ⟨_, rfl⟩
      cases hf : fitsB items[k] x y with
      | false =>
        have HF := Lib.hid hf; clear hf
        have E : Hid (itemsTo items x y (k + 1) = cc) := by show itemsTo items x y (k + 1) = cc; rw [hS.out, HF.out]; simp
        go_wp2_with (go_at_call 20; refine (fits_any items[k] _ _ _).mono ?_; rintro e w3 ⟨rfl, hb3⟩; rw [HF.out]; have hb4 := hbx.out.trans (hb3.mono (by simp; omega)); have hc3 := hcx.below hb3 (by simp; omega))
        go_roundw
        case rel => exact ⟨k + 1, by omega, by go_num, hb4, by rw [E.out]; exact hc3⟩
        case measure => simp [intOf]; omega
      | true =>
        have HF := Lib.hid hf; clear hf
        by_cases hv : cc.value < items[k].value
        · have E : Hid (itemsTo items x y (k + 1) = ⟨items[k].value, 1, 0, k⟩) := by show itemsTo items x y (k + 1) = _; rw [hS.out, HF.out]; simp [hv]
          go_wp2_with (go_at_call 20; refine (fits_any items[k] _ _ _).mono ?_; rintro e w3 ⟨rfl, hb3⟩; rw [HF.out]; have hb4 := Lib.hid (hbx.out.trans (hb3.mono (by simp; omega))); have hc3 := hcx.below hb3 (by simp; omega); have HC3 := Lib.hid hc3; obtain ⟨⟨d0, d1, d2, d3⟩, df⟩ := hc3; simp only [Nat.zero_add] at d1 d2 d3; have df0 := df 0; have df1 := df 1; have df2 := df 2; have df3 := df 3; clear df; have m2 := keepCell hb3 bx2)
          go_roundw
          case rel => exact ⟨k + 1, by omega, by go_num, (((hb4.out.setCell (Nat.le_refl _) _).setCell (Nat.le_refl _) _).setCell (Nat.le_refl _) _).setCell (Nat.le_refl _) _, by rw [E.out]; exact HC3.out.set ⟨items[k].value, 1, 0, k⟩⟩
          case measure => simp [intOf]; omega
        · have E : Hid (itemsTo items x y (k + 1) = cc) := by show itemsTo items x y (k + 1) = _; rw [hS.out, HF.out]; simp [hv]
          go_wp2_with (go_at_call 20; refine (fits_any items[k] _ _ _).mono ?_; rintro e w3 ⟨rfl, hb3⟩; rw [HF.out]; have hb4 := Lib.hid (hbx.out.trans (hb3.mono (by simp; omega))); have hc3 := hcx.below hb3 (by simp; omega); have HC3 := Lib.hid hc3; obtain ⟨⟨d0, d1, d2, d3⟩, df⟩ := hc3; clear df; have m2 := keepCell hb3 bx2)
          go_roundw
          case rel => exact ⟨k + 1, by omega, by go_num, hb4.out, by rw [E.out]; exact HC3.out⟩
          case measure => simp [intOf]; omega
    · obtain rfl : k = items.length := by omega
      have HC0 := Lib.hid hc
      have HB0 := Lib.hid hbr
      clear hc hbr hbw hlt2
      go_wp2
      go_loopw [12] (fun i wr => ∃ m : Nat, m ≤ x / 2 ∧ i = .int .i64 (m + 1) ∧ Below (w.heap.size + 1 + 1) w0 wr ∧ ChVar wr (w.heap.size + 1 + 1) (sidesTo (bval items) x y (itemsTo items x y items.length) m)) (fun i _ => x + 1 - (intOf i).toNat)
      case atStart => exact ⟨0, by omega, by go_num, HB0.out, HC0.out⟩
      case round =>
        obtain ⟨m, hmk, rfl, hbr, hc⟩ := hrel
        clear HC0 HB0
        have hbw : Below w.heap.size w wr := hb0.out.trans (hbr.mono (by omega))
        have hlt2 : w.heap.size + 1 + 1 < wr.heap.size := hc.lt
        have k0 := (hbr.cell (p := ⟨w.heap.size, 0, none⟩) (by show w.heap.size < w.heap.size + 1 + 1; omega)).trans Q0.out
        have k1 := (hbr.cell (p := ⟨w.heap.size, 1, none⟩) (by show w.heap.size < w.heap.size + 1 + 1; omega)).trans Q1.out
        by_cases hlt : m < x / 2
        · have hb1 := bval_small hl (a := m + 1) (b := y) (by omega) (by omega) (by omega) (by omega)
          have hb2 := bval_small hl (a := x - (m + 1)) (b := y) (by omega) (by omega) (by omega) (by omega)
          obtain ⟨v1, j1⟩ := hF.out (m + 1) y (by omega) (by omega) (by omega)
          obtain ⟨v2, j2⟩ := hF.out (x - (m + 1)) (y) (by omega) (by omega) (by omega)
          have gs : IntKind.i64.wrap (bval items (m + 1) y + bval items (x - (m + 1)) (y)) = bval items (m + 1) y + bval items (x - (m + 1)) (y) := IntWalk.i64_in _ (by omega)
          have gd : IntKind.i64.wrap ((x : Int) - ((m : Int) + 1)) = (x : Int) - ((m : Int) + 1) := IntWalk.i64_in _ (by omega)
          have hTr := Lib.hid (hT.out.below hbw hglt)
          have hS : Hid (sidesTo (bval items) x y (itemsTo items x y items.length) (m + 1) = if (sidesTo (bval items) x y (itemsTo items x y items.length) m).value < bval items (m + 1) y + bval items (x - (m + 1)) (y) then ⟨bval items (m + 1) y + bval items (x - (m + 1)) (y), 2, ((m + 1 : Nat) : Int), 0⟩ else sidesTo (bval items) x y (itemsTo items x y items.length) m) := rfl
          generalize hcc : sidesTo (bval items) x y (itemsTo items x y items.length) m = cc at *
          have hcc := Lib.hid hcc
          have HC := Lib.hid hc
          have HBR := Lib.hid hbr
          have hbw := Lib.hid hbw
          have j1 := Lib.hid j1
          have j2 := Lib.hid j2
          clear hc hbr
          obtain ⟨wo, rfl⟩ : ∃ wo : World, wo = wr := ⟨_, rfl⟩
          have hgo : g < wo.heap.size := Nat.lt_of_lt_of_le hglt hbw.out.size
          have hSS : Hid (∀ w', Below wo.heap.size wo w' → (Below wo.heap.size wo w' ∧ w'.cell? ⟨w.heap.size, 0, none⟩ = some (.int .i64 H) ∧ w'.cell? ⟨w.heap.size, 1, none⟩ = some (.slice (some ⟨g, 0, none⟩) n cap))) := fun w' hb => ⟨hb, keepCell hb k0, keepCell hb k1⟩
          clear k0 k1
          have hfd := field0
          go_wp2
          go_region_held3 (fun w' => Below wo.heap.size wo w' ∧ w'.cell? ⟨w.heap.size, 0, none⟩ = some (.int .i64 H) ∧ w'.cell? ⟨w.heap.size, 1, none⟩ = some (.slice (some ⟨g, 0, none⟩) n cap))
            ((refine hSS.out _ ?_; go_grown))
            (first | fail | (go_simp; go_at_call 13; (with_reducible refine (of_any H (m + 1) y _ _ (by omega) (by rfl) g n cap F _ (hTr.out.below (And.left (by assumption)) hgo) hH (by omega) (by omega) hn j1.out).mono ?_); rintro e w3 ⟨rfl, hb3⟩; have hz3 : Below wo.heap.size wo w3 := bthen (And.left (by assumption)) hb3; have sz3 := hz3.size) | (go_simp; go_at_call 13; (with_reducible refine (of_any H (x - (m + 1)) (y) _ _ (by omega) (by rfl) g n cap F _ (hTr.out.below (And.left (by assumption)) hgo) hH (by omega) (by omega) hn j2.out).mono ?_); rintro e w4 ⟨rfl, hb4⟩; have hz4 : Below wo.heap.size wo w4 := bthen (And.left (by assumption)) hb4; have sz4 := hz4.size))
          clear gs gd hfd hSS hTr v1 v2
          have hb5 := Lib.hid (HBR.out.trans (hz4.mono (by omega)))
          have hc5 := HC.out.below hz4 hlt2
          have HC5 := Lib.hid hc5
          obtain ⟨⟨d0, d1, d2, d3⟩, df⟩ := hc5
          simp only [Nat.zero_add] at d1 d2 d3
          have df0 := df 0; have df1 := df 1; have df2 := df 2; have df3 := df 3
          clear df
          by_cases hv : cc.value < bval items (m + 1) y + bval items (x - (m + 1)) (y)
          · have E : Hid (sidesTo (bval items) x y (itemsTo items x y items.length) (m + 1) = ⟨bval items (m + 1) y + bval items (x - (m + 1)) (y), 2, ((m + 1 : Nat) : Int), 0⟩) := by show sidesTo (bval items) x y (itemsTo items x y items.length) (m + 1) = _; rw [hS.out, if_pos hv]
            go_wp2
            go_roundw
            case rel => exact ⟨m + 1, by omega, by go_num, (((hb5.out.setCell (Nat.le_refl _) _).setCell (Nat.le_refl _) _).setCell (Nat.le_refl _) _).setCell (Nat.le_refl _) _, by rw [E.out]; exact HC5.out.set ⟨bval items (m + 1) y + bval items (x - (m + 1)) (y), 2, (m : Int) + 1, 0⟩⟩
            case measure => simp [intOf]; omega
          · have E : Hid (sidesTo (bval items) x y (itemsTo items x y items.length) (m + 1) = cc) := by show sidesTo (bval items) x y (itemsTo items x y items.length) (m + 1) = _; rw [hS.out, if_neg hv]
            go_wp2
            go_roundw
            case rel => exact ⟨m + 1, by omega, by go_num, hb5.out, by rw [E.out]; exact HC5.out⟩
            case measure => simp [intOf]; omega
        · have hm2 : Hid (m = x / 2) := by show m = x / 2; omega
          obtain ⟨m2, rfl⟩ : ∃ m2 : Nat, m2 = m := ⟨_, rfl⟩
          clear k0 k1
          have hmx2 := hm2
          obtain ⟨mx2, rfl⟩ : ∃ mx2 : Nat, mx2 = m2 := ⟨_, rfl⟩
          have HC0 := Lib.hid hc
          have HB0 := Lib.hid hbr
          clear hc hbr hbw hlt2
          go_wp2
          go_loopw [14] (fun i wr => ∃ m : Nat, m ≤ y / 2 ∧ i = .int .i64 (m + 1) ∧ Below (w.heap.size + 1 + 1) w0 wr ∧ ChVar wr (w.heap.size + 1 + 1) (endsTo (bval items) x y (sidesTo (bval items) x y (itemsTo items x y items.length) mx2) m)) (fun i _ => y + 1 - (intOf i).toNat)
          case atStart => exact ⟨0, by omega, by go_num, HB0.out, HC0.out⟩
          case round =>
            obtain ⟨m, hmk, rfl, hbr, hc⟩ := hrel
            clear HC0 HB0
            have hbw : Below w.heap.size w wr := hb0.out.trans (hbr.mono (by omega))
            have hlt2 : w.heap.size + 1 + 1 < wr.heap.size := hc.lt
            have k0 := (hbr.cell (p := ⟨w.heap.size, 0, none⟩) (by show w.heap.size < w.heap.size + 1 + 1; omega)).trans Q0.out
            have k1 := (hbr.cell (p := ⟨w.heap.size, 1, none⟩) (by show w.heap.size < w.heap.size + 1 + 1; omega)).trans Q1.out
            by_cases hlt : m < y / 2
            · have hb1 := bval_small hl (a := x) (b := m + 1) (by omega) (by omega) (by omega) (by omega)
              have hb2 := bval_small hl (a := x) (b := y - (m + 1)) (by omega) (by omega) (by omega) (by omega)
              obtain ⟨v1, j1⟩ := hF.out (x) (m + 1) (by omega) (by omega) (by omega)
              obtain ⟨v2, j2⟩ := hF.out (x) (y - (m + 1)) (by omega) (by omega) (by omega)
              have gs : IntKind.i64.wrap (bval items (x) (m + 1) + bval items (x) (y - (m + 1))) = bval items (x) (m + 1) + bval items (x) (y - (m + 1)) := IntWalk.i64_in _ (by omega)
              have gd : IntKind.i64.wrap ((y : Int) - ((m : Int) + 1)) = (y : Int) - ((m : Int) + 1) := IntWalk.i64_in _ (by omega)
              have hTr := Lib.hid (hT.out.below hbw hglt)
              have hS : Hid (endsTo (bval items) x y (sidesTo (bval items) x y (itemsTo items x y items.length) mx2) (m + 1) = if (endsTo (bval items) x y (sidesTo (bval items) x y (itemsTo items x y items.length) mx2) m).value < bval items (x) (m + 1) + bval items (x) (y - (m + 1)) then ⟨bval items (x) (m + 1) + bval items (x) (y - (m + 1)), 3, ((m + 1 : Nat) : Int), 0⟩ else endsTo (bval items) x y (sidesTo (bval items) x y (itemsTo items x y items.length) mx2) m) := rfl
              generalize hcc : endsTo (bval items) x y (sidesTo (bval items) x y (itemsTo items x y items.length) mx2) m = cc at *
              have hcc := Lib.hid hcc
              have HC := Lib.hid hc
              have HBR := Lib.hid hbr
              have hbw := Lib.hid hbw
              have j1 := Lib.hid j1
              have j2 := Lib.hid j2
              clear hc hbr
              obtain ⟨wo, rfl⟩ : ∃ wo : World, wo = wr := ⟨_, rfl⟩
              have hgo : g < wo.heap.size := Nat.lt_of_lt_of_le hglt hbw.out.size
              have hSS : Hid (∀ w', Below wo.heap.size wo w' → (Below wo.heap.size wo w' ∧ w'.cell? ⟨w.heap.size, 0, none⟩ = some (.int .i64 H) ∧ w'.cell? ⟨w.heap.size, 1, none⟩ = some (.slice (some ⟨g, 0, none⟩) n cap))) := fun w' hb => ⟨hb, keepCell hb k0, keepCell hb k1⟩
              clear k0 k1
              have hfd := field0
              go_wp2
              go_region_held3 (fun w' => Below wo.heap.size wo w' ∧ w'.cell? ⟨w.heap.size, 0, none⟩ = some (.int .i64 H) ∧ w'.cell? ⟨w.heap.size, 1, none⟩ = some (.slice (some ⟨g, 0, none⟩) n cap))
                ((refine hSS.out _ ?_; go_grown))
                (first | fail | (go_simp; go_at_call 13; (with_reducible refine (of_any H (x) (m + 1) _ _ (by rfl) (by omega) g n cap F _ (hTr.out.below (And.left (by assumption)) hgo) hH (by omega) (by omega) hn j1.out).mono ?_); rintro e w3 ⟨rfl, hb3⟩; have hz3 : Below wo.heap.size wo w3 := bthen (And.left (by assumption)) hb3; have sz3 := hz3.size) | (go_simp; go_at_call 13; (with_reducible refine (of_any H (x) (y - (m + 1)) _ _ (by rfl) (by omega) g n cap F _ (hTr.out.below (And.left (by assumption)) hgo) hH (by omega) (by omega) hn j2.out).mono ?_); rintro e w4 ⟨rfl, hb4⟩; have hz4 : Below wo.heap.size wo w4 := bthen (And.left (by assumption)) hb4; have sz4 := hz4.size))
              clear gs gd hfd hSS hTr v1 v2
              have hb5 := Lib.hid (HBR.out.trans (hz4.mono (by omega)))
              have hc5 := HC.out.below hz4 hlt2
              have HC5 := Lib.hid hc5
              obtain ⟨⟨d0, d1, d2, d3⟩, df⟩ := hc5
              simp only [Nat.zero_add] at d1 d2 d3
              have df0 := df 0; have df1 := df 1; have df2 := df 2; have df3 := df 3
              clear df
              by_cases hv : cc.value < bval items (x) (m + 1) + bval items (x) (y - (m + 1))
              · have E : Hid (endsTo (bval items) x y (sidesTo (bval items) x y (itemsTo items x y items.length) mx2) (m + 1) = ⟨bval items (x) (m + 1) + bval items (x) (y - (m + 1)), 3, ((m + 1 : Nat) : Int), 0⟩) := by show endsTo (bval items) x y (sidesTo (bval items) x y (itemsTo items x y items.length) mx2) (m + 1) = _; rw [hS.out, if_pos hv]
                go_wp2
                go_roundw
                case rel => exact ⟨m + 1, by omega, by go_num, (((hb5.out.setCell (Nat.le_refl _) _).setCell (Nat.le_refl _) _).setCell (Nat.le_refl _) _).setCell (Nat.le_refl _) _, by rw [E.out]; exact HC5.out.set ⟨bval items (x) (m + 1) + bval items (x) (y - (m + 1)), 3, (m : Int) + 1, 0⟩⟩
                case measure => simp [intOf]; omega
              · have E : Hid (endsTo (bval items) x y (sidesTo (bval items) x y (itemsTo items x y items.length) mx2) (m + 1) = cc) := by show endsTo (bval items) x y (sidesTo (bval items) x y (itemsTo items x y items.length) mx2) (m + 1) = _; rw [hS.out, if_neg hv]
                go_wp2
                go_roundw
                case rel => exact ⟨m + 1, by omega, by go_num, hb5.out, by rw [E.out]; exact HC5.out⟩
                case measure => simp [intOf]; omega
            · have hm2 : Hid (m = y / 2) := by show m = y / 2; omega
              obtain ⟨m2, rfl⟩ : ∃ m2 : Nat, m2 = m := ⟨_, rfl⟩
              clear k0 k1
              have hcq := hc
              have z8 := Z8.out.below hbr (by omega)
              obtain ⟨⟨d0, d1, d2, d3⟩, df⟩ := hc
              simp only [Nat.zero_add] at d1 d2 d3
              obtain ⟨⟨f0, f1, f2, f3⟩, ff⟩ := z8
              simp only [Nat.zero_add] at f1 f2 f3
              have ff0 := ff 0; have ff1 := ff 1; have ff2 := ff 2; have ff3 := ff 3
              have hfin : Hid (endsTo (bval items) x y (sidesTo (bval items) x y (itemsTo items x y items.length) mx2) m2 = fillV (bval items) items x y) := by show _ = _; rw [hm2.out, hmx2.out]; rfl
              rw [hfin.out] at d0 d1 d2 d3
              generalize hcf : fillV (bval items) items x y = cf at d0 d1 d2 d3
              have hcf := Lib.hid hcf
              clear df ff hcq hfin
              have hbw := Lib.hid hbw
              go_wp2
              try simp only [Exit.inBlock, Exit.then]
              have hres : Try.f11.results = #[.cell 8 51] := rfl
              refine bodyPost_ret (v := .agg #[.int .i64 cf.value, .int .i64 cf.kind, .int .i64 cf.at', .int .i64 cf.item]) (by simp only [results, hres]; go_simp) rfl ?_
              have hzz := hbw.out
              exact ⟨by rw [hcf.out], by go_grown⟩
end Go.Proofs.Ytmfmpmemdplloaa
