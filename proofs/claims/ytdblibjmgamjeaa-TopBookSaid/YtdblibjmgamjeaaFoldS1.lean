/-
  The walk of fold's fold, side 1. Printed by gen_fold.py. Own text.
-/
import Derived.Test.YtdblibjmgamjeaaConcatLeaf
import Derived.Deep.RegionHeld3
import Derived.Deep.AppendLies
import Derived.BigQuiet
import Derived.Deep.RegionLaw
import Derived.BigRegion
import Derived.Deep.QuietTactic
namespace Go.Proofs.Ytdblibjmgamjeaa
open Go.RowKit
set_option linter.unusedVariables false
theorem foldRes1 : Try.f38.results = #[.cell 4 105] := rfl
set_option maxRecDepth 100000 in
set_option maxHeartbeats 16000000 in
theorem fold_1 (s : Sht) (L : Nat) (over : Bool) (hw : WfS s) (h1 : 1 ≤ L) (h2 : L < s.cols) (hc8 : s.cols ≤ 8) (hr8 : s.rows ≤ 8) (hpl : ∀ c r, (pileV s c r).length ≤ 32) (oa : Option Addr) (cap : Nat) (w : World) (hp : Rows1 w 4 encLeaf oa s.piles) :
    Calls Try.prog 38 #[.agg #[.int .i64 s.cols, .int .i64 s.rows, .slice oa s.piles.length cap], .agg #[.int .i64 1, .int .i64 L, .bool over]] w (RetSht (foldV s ⟨1, L, over⟩) w) := by
  have HEX : Hid (∀ W, Calls Try.prog 37 #[.agg #[.int .i64 s.cols, .int .i64 s.rows, .slice oa s.piles.length cap], .agg #[.int .i64 1, .int .i64 L, .bool over]] W (fun e w' => e = .returned (.int .i64 s.cols) ∧ Below W.heap.size W w')) := fun W => extent_any s ⟨1, L, over⟩ _ ⟨_, _, _, rfl⟩ W
  have HAC : Hid (∀ W, Calls Try.prog 55 #[.agg #[.int .i64 1, .int .i64 L, .bool over]] W (fun e w' => e = .returned (.bool true) ∧ Below W.heap.size W w')) := fun W => across_any ⟨1, L, over⟩ W
  have HPI : Hid (∀ W (c r : Int), Below w.heap.size w W → -1000000 ≤ c ∧ c ≤ 1000000 → -1000000 ≤ r ∧ r ≤ 1000000 → Calls Try.prog 56 #[.agg #[.int .i64 s.cols, .int .i64 s.rows, .slice oa s.piles.length cap], .int .i64 c, .int .i64 r] W (RetPile (pileV s c r) W)) := fun W c r hb hc hr => pile_any s hw (by omega) (by omega) c r hc hr oa cap W (hp.below hb)
  obtain ⟨C, hC⟩ : ∃ C, C = s.cols := ⟨_, rfl⟩
  obtain ⟨R, hR⟩ : ∃ R, R = s.rows := ⟨_, rfl⟩
  obtain ⟨N, hN⟩ : ∃ N, N = s.piles.length := ⟨_, rfl⟩
  rw [← hC] at HEX HPI h2 hc8
  rw [← hR] at HEX HPI hr8
  rw [← hN] at HEX HPI
  rw [← hC, ← hR, ← hN]
  have HC := Lib.hid hC
  have HR := Lib.hid hR
  have HW := Lib.hid hw
  have HPL := Lib.hid hpl
  have hsz : ∀ S : Nat, S = max L (C - L) → sizeV s ⟨1, L, over⟩ = (S : Int) := fun S hS => by
    unfold sizeV extV
    rw [if_pos (show acrossV ⟨1, (L : Int), over⟩ = true from rfl)]
    show max (L : Int) ((s.cols : Int) - L) = S
    rw [← hC]
    omega
  have HSZ := Lib.hid hsz
  clear hC hR hN hw hp hpl hsz
  obtain ⟨W3, hW3⟩ : ∃ W3, W3 = ((w.alloc (.cells #[.int .i64 C, .int .i64 R, .slice oa N cap] 105)).alloc (.cells #[.int .i64 1, .int .i64 L, .bool over] 108)).alloc (.cells #[.int .i64 0, .int .i64 0, .slice none 0 0] 105) := ⟨_, rfl⟩
  have hz3 : W3.heap.size = w.heap.size + 1 + 1 + 1 := by rw [hW3, World.size_alloc, World.size_alloc, World.size_alloc]
  have hb3 : Below w.heap.size w W3 := by rw [hW3]; exact (((Below.refl _ w).alloc (Nat.le_refl _) _).alloc (by simp) _).alloc (by simp; omega) _
  have ht2 : FTab (fun v : Value => v) W3 w.heap.size 3 (outF (.int .i64 C) (.int .i64 R) (.slice oa N cap)) := by
    rw [hW3]; exact ((outF_new w _ _ _ _).alloc (by simp) _).alloc (by simp; omega) _
  have ht3 : FTab (fun v : Value => v) W3 (w.heap.size + 1) 3 (outF (.int .i64 1) (.int .i64 L) (.bool over)) := by
    have h := outF_new (w.alloc (.cells #[.int .i64 C, .int .i64 R, .slice oa N cap] 105)) (.int .i64 1) (.int .i64 L) (.bool over) 108
    rw [World.size_alloc] at h
    rw [hW3]; exact h.alloc (by simp) _
  have ht4 : FTab (fun v : Value => v) W3 (w.heap.size + 1 + 1) 3 (outF (.int .i64 0) (.int .i64 0) (.slice none 0 0)) := by
    have h := outF_new ((w.alloc (.cells #[.int .i64 C, .int .i64 R, .slice oa N cap] 105)).alloc (.cells #[.int .i64 1, .int .i64 L, .bool over] 108)) (.int .i64 0) (.int .i64 0) (.slice none 0 0) 105
    rw [World.size_alloc, World.size_alloc] at h
    rw [hW3]; exact h
  have HB3 := Lib.hid hb3
  have HT2 := Lib.hid ht2
  have HT3 := Lib.hid ht3
  have HT4 := Lib.hid ht4
  have HZ3 := Lib.hid hz3
  have HW3 : Hid (((w.alloc (.cells #[.int .i64 C, .int .i64 R, .slice oa N cap] 105)).alloc (.cells #[.int .i64 1, .int .i64 L, .bool over] 108)).alloc (.cells #[.int .i64 0, .int .i64 0, .slice none 0 0] 105) = W3) := hW3.symm
  clear hb3 ht2 ht3 ht4 hz3 hW3
  go_enter Try.func38, Try.ntmps38
  go_upto_region 1 with fail
  rw [HW3.out]
  have c0 : W3.cell? ⟨w.heap.size, 0, none⟩ = some (.int .i64 C) := HT2.out.at' 0 (by omega)
  have c1 : W3.cell? ⟨w.heap.size, 1, none⟩ = some (.int .i64 R) := HT2.out.at' 1 (by omega)
  have c2 : W3.cell? ⟨w.heap.size, 2, none⟩ = some (.slice oa N cap) := HT2.out.at' 2 (by omega)
  have d0 : W3.cell? ⟨w.heap.size + 1, 0, none⟩ = some (.int .i64 1) := HT3.out.at' 0 (by omega)
  have d1 : W3.cell? ⟨w.heap.size + 1, 1, none⟩ = some (.int .i64 L) := HT3.out.at' 1 (by omega)
  have d2 : W3.cell? ⟨w.heap.size + 1, 2, none⟩ = some (.bool over) := HT3.out.at' 2 (by omega)
  go_wp2_with fail
  refine (HEX.out W3).mono ?_
  rintro e w4 ⟨rfl, hb4⟩
  have HB4 := Lib.hid hb4
  have c0 := keepCell hb4 c0
  have c1 := keepCell hb4 c1
  have d0 := keepCell hb4 d0
  have d1 := keepCell hb4 d1
  have d2 := keepCell hb4 d2
  have c2 := keepCell hb4 c2
  clear hb4 HEX
  have x1 : IntKind.i64.wrap ((C : Int) - (L : Int)) = (C : Int) - (L : Int) := IntWalk.i64_in _ (by omega)
  go_upto_region 4 with fail
  obtain ⟨S, hS⟩ : ∃ S : Nat, S = max L (C - L) := ⟨_, rfl⟩
  have hif : (if (L : Int) < (C : Int) - (L : Int) then (C : Int) - (L : Int) else (L : Int)) = (S : Int) := by split <;> omega
  rw [hif]
  have HSS := Lib.hid hS
  have HSV : Hid (sizeV s ⟨1, L, over⟩ = (S : Int)) := HSZ.out S hS
  have HFV : Hid (foldV s ⟨1, L, over⟩ = ⟨S, R, preV S (foldP s ⟨1, L, over⟩) (R * S)⟩) := by
    have e1 : colsV s ⟨1, L, over⟩ = S := by unfold colsV; rw [if_pos (show acrossV ⟨1, (L : Int), over⟩ = true from rfl)]; rw [HSV.out]; rfl
    have e2 : rowsV s ⟨1, L, over⟩ = R := by unfold rowsV; rw [if_pos (show acrossV ⟨1, (L : Int), over⟩ = true from rfl)]; exact HR.out.symm
    show foldV s _ = _
    unfold foldV
    rw [e1, e2]
    rfl
  clear hif hS
  obtain ⟨W5, hW5⟩ : ∃ W5, W5 = w4.alloc (.cells #[.int .i64 C, .int .i64 R, .slice none 0 0] 105) := ⟨_, rfl⟩
  have hb5 : Below w4.heap.size w4 W5 := by rw [hW5]; exact balloc (Below.refl _ w4) _
  have hz5 : W5.heap.size = w4.heap.size + 1 := by rw [hW5]; exact World.size_alloc _ _
  have ht7 : FTab (fun v : Value => v) W5 w4.heap.size 3 (outF (.int .i64 C) (.int .i64 R) (.slice none 0 0)) := by rw [hW5]; exact outF_new w4 _ _ _ _
  rw [← hW5]
  obtain ⟨g, hg⟩ : ∃ g, g = w4.heap.size := ⟨_, rfl⟩
  rw [← hg] at hz5 ht7 ⊢
  have hgl : w.heap.size + 1 + 1 < g := by have h1 := HB4.out.size; rw [HZ3.out] at h1; omega
  have c0 := keepCell hb5 c0
  have c1 := keepCell hb5 c1
  have d0 := keepCell hb5 d0
  have d1 := keepCell hb5 d1
  have d2 := keepCell hb5 d2
  have c2 := keepCell hb5 c2
  have HB5 : Hid (Below W3.heap.size W3 W5) := bthen HB4.out hb5
  clear hb5 hW5 HB4 hg x1
  go_wp2_with fail
  refine (HAC.out W5).mono ?_
  rintro e w6 ⟨rfl, hb6⟩
  have HT7 := Lib.hid (ht7.below hb6 (by omega))
  have e0 : w6.cell? ⟨g, 0, none⟩ = some (.int .i64 C) := HT7.out.at' 0 (by omega)
  have ef : ∀ o, w6.frozen? ⟨g, o, none⟩ = false := HT7.out.fz
  have HB6 : Hid (Below W3.heap.size W3 w6) := bthen HB5.out hb6
  have HG6 : Hid (g < w6.heap.size) := by have := hb6.size; show _ < _; omega
  have c0 := keepCell hb6 c0
  have c1 := keepCell hb6 c1
  have d0 := keepCell hb6 d0
  have d1 := keepCell hb6 d1
  have d2 := keepCell hb6 d2
  have c2 := keepCell hb6 c2
  clear hb6 ht7 hz5 HB5
  go_upto_region 7 with fail
  obtain ⟨W7, hW7⟩ : ∃ W7, W7 = w6.setCell ⟨g, 0, none⟩ (.int .i64 S) := ⟨_, rfl⟩
  have hb7 : Below g w6 W7 := by rw [hW7]; exact (Below.refl g w6).setCell (p := ⟨g, 0, none⟩) (Nat.le_refl _) _
  have ht7 : FTab (fun v : Value => v) W7 g 3 (outF (.int .i64 S) (.int .i64 R) (.slice none 0 0)) := by
    rw [hW7]
    exact (HT7.out.set (i := 0) (by omega) (.int .i64 S)).congr (fun i hi => by match i, hi with | 0, _ => rfl | 1, _ => rfl | 2, _ => rfl)
  rw [← hW7]
  have c0 : W7.cell? ⟨w.heap.size, 0, none⟩ = some (.int .i64 C) := by rw [hb7.cell (p := ⟨w.heap.size, 0, none⟩) (by show w.heap.size < g; omega)]; exact c0
  have c1 : W7.cell? ⟨w.heap.size, 1, none⟩ = some (.int .i64 R) := by rw [hb7.cell (p := ⟨w.heap.size, 1, none⟩) (by show w.heap.size < g; omega)]; exact c1
  have c2 : W7.cell? ⟨w.heap.size, 2, none⟩ = some (.slice oa N cap) := by rw [hb7.cell (p := ⟨w.heap.size, 2, none⟩) (by show w.heap.size < g; omega)]; exact c2
  have d0 : W7.cell? ⟨w.heap.size + 1, 0, none⟩ = some (.int .i64 1) := by rw [hb7.cell (p := ⟨w.heap.size + 1, 0, none⟩) (by show w.heap.size + 1 < g; omega)]; exact d0
  have d1 : W7.cell? ⟨w.heap.size + 1, 1, none⟩ = some (.int .i64 L) := by rw [hb7.cell (p := ⟨w.heap.size + 1, 1, none⟩) (by show w.heap.size + 1 < g; omega)]; exact d1
  have d2 : W7.cell? ⟨w.heap.size + 1, 2, none⟩ = some (.bool over) := by rw [hb7.cell (p := ⟨w.heap.size + 1, 2, none⟩) (by show w.heap.size + 1 < g; omega)]; exact d2
  have e1 : W7.cell? ⟨g, 1, none⟩ = some (.int .i64 R) := ht7.at' 1 (by omega)
  have HBW : Hid (Below w.heap.size w W7) := (HB3.out.trans (HB6.out.mono HB3.out.size)).trans (hb7.mono (by omega))
  have HT4 : Hid (FTab (fun v : Value => v) W7 (w.heap.size + 1 + 1) 3 (outF (.int .i64 0) (.int .i64 0) (.slice none 0 0))) := (HT4.out.below HB6.out (by have := HZ3.out; omega)).below hb7 hgl
  have HSH : Hid (ShtU W7 g W7 (.int .i64 S) (.int .i64 R) (.slice none 0 0) [] (preV S (foldP s ⟨1, L, over⟩) 0)) := ⟨Below.refl _ _, ht7, RowsU.nil _ _, fun u hu => (by cases hu), by rw [hW7]; simp; exact HG6.out⟩
  have HPI : Hid (∀ W (c r : Int), Below g W7 W → -1000000 ≤ c ∧ c ≤ 1000000 → -1000000 ≤ r ∧ r ≤ 1000000 → Calls Try.prog 56 #[.agg #[.int .i64 C, .int .i64 R, .slice oa N cap], .int .i64 c, .int .i64 r] W (RetPile (pileV s c r) W)) := fun W c r hb hc hr => HPI.out W c r (HBW.out.trans (hb.mono (by omega))) hc hr
  have HCL : Hid (∀ W, Below g W7 W → W.cell? ⟨w.heap.size, 0, none⟩ = some (.int .i64 C) ∧ W.cell? ⟨w.heap.size, 1, none⟩ = some (.int .i64 R) ∧ W.cell? ⟨w.heap.size, 2, none⟩ = some (.slice oa N cap) ∧ W.cell? ⟨w.heap.size + 1, 0, none⟩ = some (.int .i64 1) ∧ W.cell? ⟨w.heap.size + 1, 1, none⟩ = some (.int .i64 L) ∧ W.cell? ⟨w.heap.size + 1, 2, none⟩ = some (.bool over)) := fun W hb =>
    ⟨by rw [hb.cell (p := ⟨w.heap.size, 0, none⟩) (by show w.heap.size < g; omega)]; exact c0, by rw [hb.cell (p := ⟨w.heap.size, 1, none⟩) (by show w.heap.size < g; omega)]; exact c1, by rw [hb.cell (p := ⟨w.heap.size, 2, none⟩) (by show w.heap.size < g; omega)]; exact c2, by rw [hb.cell (p := ⟨w.heap.size + 1, 0, none⟩) (by show w.heap.size + 1 < g; omega)]; exact d0, by rw [hb.cell (p := ⟨w.heap.size + 1, 1, none⟩) (by show w.heap.size + 1 < g; omega)]; exact d1, by rw [hb.cell (p := ⟨w.heap.size + 1, 2, none⟩) (by show w.heap.size + 1 < g; omega)]; exact d2⟩
  clear hb7 ht7 hW7 e0 ef HG6 HT7 HB6
  go_wp2_with fail
  go_loopw [47] (fun i wr => ∃ r : Nat, r ≤ R ∧ i = .int .i64 r ∧ Hid (∃ v us, ShtU W7 g wr (.int .i64 S) (.int .i64 R) v us (preV S (foldP s ⟨1, L, over⟩) (r * S)))) (fun i _ => R - (intOf i).toNat)
  case atStart => exact ⟨0, by omega, rfl, _, _, by rw [Nat.zero_mul]; exact HSH.out⟩
  case round =>
    clear HSH c0 c1 c2 d0 d1 d2 e1
    obtain ⟨r, hr, rfl, HX⟩ := hrel
    obtain ⟨wa, rfl⟩ : ∃ wa : World, wa = wr := ⟨_, rfl⟩
    obtain ⟨v0, us0, hx⟩ := HX.out
    have e0 : wa.cell? ⟨g, 0, none⟩ = some (.int .i64 S) := hx.tab.at' 0 (by omega)
    have HX := Lib.hid hx
    clear hx
    by_cases hlt : r < R
    · have hS8 : S ≤ 8 := by have := HSS.out; omega
      have kd : (r : Int) < (R : Int) := by omega
      go_wp2_with fail
      go_loopw [52] (fun j wr => ∃ c : Nat, c ≤ S ∧ j = .int .i64 c ∧ Hid (∃ v us, ShtU W7 g wr (.int .i64 S) (.int .i64 R) v us (preV S (foldP s ⟨1, L, over⟩) (r * S + c)))) (fun j _ => S - (intOf j).toNat)
      case atStart => exact ⟨0, by omega, rfl, _, _, HX.out⟩
      case round =>
        clear HX e0
        obtain ⟨c, hc, rfl, HY⟩ := hrel
        obtain ⟨wb, rfl⟩ : ∃ wb : World, wb = wr := ⟨_, rfl⟩
        by_cases hct : c < S
        · have cd : (c : Int) < (S : Int) := by omega
          obtain ⟨v, us, hy⟩ := HY.out
          have HY := Lib.hid hy
          obtain ⟨c0, c1, c2, d0, d1, d2⟩ := HCL.out wb hy.bel
          have HBY := Lib.hid hy.bel
          clear hy
          have hS8 : S ≤ 8 := by have := HSS.out; omega
          go_wp2_with fail
          refine (HAC.out wb).mono ?_
          rintro e wc ⟨rfl, hbc⟩
          have HY := Lib.hid (HY.out.below hbc)
          obtain ⟨c0, c1, c2, d0, d1, d2⟩ := HCL.out wc HY.out.bel
          clear hbc HBY
          have x4 : IntKind.i64.wrap ((S : Int) - 1) = (S : Int) - 1 := IntWalk.i64_in _ (by omega)
          have x5 : IntKind.i64.wrap ((S : Int) - 1 - (c : Int)) = (S : Int) - 1 - (c : Int) := IntWalk.i64_in _ (by omega)
          go_upto_region 19 with fail
          obtain ⟨iv, hiv⟩ : ∃ iv : Int, iv = (S : Int) - 1 - (c : Int) := ⟨_, rfl⟩
          rw [← hiv]
          have hiv0 : 0 ≤ iv := by omega
          have hiv8 : iv ≤ 8 := by omega
          have HIV := Lib.hid hiv
          clear hiv x4 x5
          have x1 : IntKind.i64.wrap ((L : Int) - 1) = (L : Int) - 1 := IntWalk.i64_in _ (by omega)
          have x2 : IntKind.i64.wrap ((L : Int) - 1 - iv) = (L : Int) - 1 - iv := IntWalk.i64_in _ (by omega)
          have x3 : IntKind.i64.wrap ((L : Int) + iv) = (L : Int) + iv := IntWalk.i64_in _ (by omega)
          go_quiet (fail)
          have HY := Lib.hid (HY.out.below (bdrewN (Below.refl _ wc) nq))
          generalize wc.drewN nq = wd at *
          obtain ⟨c0, c1, c2, d0, d1, d2⟩ := HCL.out wd HY.out.bel
          obtain ⟨mv, hmv⟩ : ∃ mv : Int, mv = (L : Int) + iv := ⟨_, rfl⟩
          obtain ⟨fv, hfv⟩ : ∃ fv : Int, fv = (L : Int) - 1 - iv := ⟨_, rfl⟩
          rw [← hmv, ← hfv]
          have HMV : Hid (mv = (L : Int) + iv ∧ fv = (L : Int) - 1 - iv) := ⟨hmv, hfv⟩
          have HBD : Hid (mv ≤ 1000000 ∧ -1000000 ≤ mv ∧ fv ≤ 1000000 ∧ -1000000 ≤ fv) := ⟨by omega, by omega, by omega, by omega⟩
          clear x1 x2 x3 hmv hfv
          go_upto_region 22 with fail
          have hS22 : Hid (∀ W, Below wd.heap.size wd W → Below wd.heap.size wd W ∧ W.cell? ⟨w.heap.size, 0, none⟩ = some (.int .i64 C) ∧ W.cell? ⟨w.heap.size, 1, none⟩ = some (.int .i64 R) ∧ W.cell? ⟨w.heap.size, 2, none⟩ = some (.slice oa N cap)) := fun W hb => ⟨hb, keepCell hb c0, keepCell hb c1, keepCell hb c2⟩
          have HP1 : Hid (∀ W, Below wd.heap.size wd W → Calls Try.prog 56 #[.agg #[.int .i64 C, .int .i64 R, .slice oa N cap], .int .i64 c, .int .i64 mv] W (RetPile (pileV s c mv) W)) := fun W hb => HPI.out W c mv (HY.out.bel.trans (hb.mono (by have := HY.out.lt; omega))) (by omega) (by have := HBD.out; omega)
          have HP2 : Hid (∀ W, Below wd.heap.size wd W → Calls Try.prog 56 #[.agg #[.int .i64 C, .int .i64 R, .slice oa N cap], .int .i64 c, .int .i64 fv] W (RetPile (pileV s c fv) W)) := fun W hb => HPI.out W c fv (HY.out.bel.trans (hb.mono (by have := HY.out.lt; omega))) (by omega) (by have := HBD.out; omega)
          go_region_held3 (fun w' => Below wd.heap.size wd w' ∧ w'.cell? ⟨w.heap.size, 0, none⟩ = some (.int .i64 C) ∧ w'.cell? ⟨w.heap.size, 1, none⟩ = some (.int .i64 R) ∧ w'.cell? ⟨w.heap.size, 2, none⟩ = some (.slice oa N cap))
            (first | (refine hS22.out _ ?_; (first | assumption | go_grown)))
            (first | fail | (go_at_call 56; ((with_reducible refine (HP1.out _ (And.left (by assumption))).mono ?_); rintro e w7 ⟨o7, k7, rfl, z7, f7, hb7⟩; have hz7 : Below wd.heap.size wd w7 := bthen (And.left (by assumption)) hb7)) | (go_at_call 56; ((with_reducible refine (HP2.out _ (And.left (by assumption))).mono ?_); rintro e w8 ⟨o8, k8, rfl, z8, f8, hb8⟩; have hz8 : Below wd.heap.size wd w8 := bthen (And.left (by assumption)) hb8)))
          have HY := Lib.hid (HY.out.below hz8)
          have HMW := Lib.hid hz8
          clear f7 f8 z7 z8 hb7 hb8 hz7 hz8 HP1 HP2 hS22
          obtain ⟨c0, c1, c2, d0, d1, d2⟩ := HCL.out w8 HY.out.bel
          go_wp2_with fail
          refine (HAC.out w8).mono ?_
          rintro e w9 ⟨rfl, hb9⟩
          have HY := Lib.hid (HY.out.below hb9)
          obtain ⟨c0, c1, c2, d0, d1, d2⟩ := HCL.out w9 HY.out.bel
          clear hb9 HMW
          go_upto_region 24 with fail
          have hS24 : Hid (∀ W, Below w9.heap.size w9 W → Below w9.heap.size w9 W ∧ W.cell? ⟨w.heap.size, 0, none⟩ = some (.int .i64 C) ∧ W.cell? ⟨w.heap.size, 1, none⟩ = some (.int .i64 R) ∧ W.cell? ⟨w.heap.size, 2, none⟩ = some (.slice oa N cap)) := fun W hb => ⟨hb, keepCell hb c0, keepCell hb c1, keepCell hb c2⟩
          have HP1 : Hid (∀ W, Below w9.heap.size w9 W → Calls Try.prog 56 #[.agg #[.int .i64 C, .int .i64 R, .slice oa N cap], .int .i64 mv, .int .i64 r] W (RetPile (pileV s mv r) W)) := fun W hb => HPI.out W mv r (HY.out.bel.trans (hb.mono (by have := HY.out.lt; omega))) (by have := HBD.out; omega) (by omega)
          have HP2 : Hid (∀ W, Below w9.heap.size w9 W → Calls Try.prog 56 #[.agg #[.int .i64 C, .int .i64 R, .slice oa N cap], .int .i64 fv, .int .i64 r] W (RetPile (pileV s fv r) W)) := fun W hb => HPI.out W fv r (HY.out.bel.trans (hb.mono (by have := HY.out.lt; omega))) (by have := HBD.out; omega) (by omega)
          go_region_held3 (fun w' => Below w9.heap.size w9 w' ∧ w'.cell? ⟨w.heap.size, 0, none⟩ = some (.int .i64 C) ∧ w'.cell? ⟨w.heap.size, 1, none⟩ = some (.int .i64 R) ∧ w'.cell? ⟨w.heap.size, 2, none⟩ = some (.slice oa N cap))
            (first | (refine hS24.out _ ?_; (first | assumption | go_grown)))
            (first | fail | (go_at_call 56; ((with_reducible refine (HP1.out _ (And.left (by assumption))).mono ?_); rintro e w10 ⟨o1, k1, rfl, z1, f1, hb10⟩; have hz10 : Below w9.heap.size w9 w10 := bthen (And.left (by assumption)) hb10)) | (go_at_call 56; ((with_reducible refine (HP2.out _ (And.left (by assumption))).mono ?_); rintro e w11 ⟨o2, k2, rfl, z2, f2, hb11⟩; have hz11 : Below w9.heap.size w9 w11 := bthen (And.left (by assumption)) hb11)))
          have HY := Lib.hid (HY.out.below hz11)
          obtain ⟨c0, c1, c2, d0, d1, d2⟩ := HCL.out w11 HY.out.bel
          obtain ⟨p1, hp1⟩ : ∃ p1, p1 = pileV s mv r := ⟨_, rfl⟩
          obtain ⟨p2, hp2⟩ : ∃ p2, p2 = pileV s fv r := ⟨_, rfl⟩
          have HPS : Hid (p1 = pileV s mv r ∧ p2 = pileV s fv r) := ⟨hp1, hp2⟩
          rw [← hp1] at f1
          rw [← hp2] at f2
          have HQ1 : Hid (PileR w11 (.slice o1 p1.length k1) p1) := ⟨o1, k1, rfl, z1, by rw [hp1]; have := HPL.out mv r; unfold maxLen; omega, (f1.below hb10).below hb11⟩
          have HQ2 : Hid (PileR w11 (.slice o2 p2.length k2) p2) := ⟨o2, k2, rfl, z2, by rw [hp2]; have := HPL.out fv r; unfold maxLen; omega, f2.below hb11⟩
          have hl1 : p1.length ≤ 32 := by rw [hp1]; exact HPL.out _ _
          have hl2 : p2.length ≤ 32 := by rw [hp2]; exact HPL.out _ _
          rw [← hp1, ← hp2]
          clear f1 f2 z1 z2 hb10 hb11 hz10 hz11 HP1 HP2 hS24 hp1 hp2
          go_wp2_with fail
          refine (HAC.out w11).mono ?_
          rintro e w12 ⟨rfl, hb12⟩
          have HY := Lib.hid (HY.out.below hb12)
          have HQ1 := Lib.hid (HQ1.out.below hb12)
          have HQ2 := Lib.hid (HQ2.out.below hb12)
          obtain ⟨c0, c1, c2, d0, d1, d2⟩ := HCL.out w12 HY.out.bel
          clear hb12
          have HFF : Hid (Calls Try.prog 57 #[.slice o1 p1.length k1, .bool true] w12 (RetLeaves (flipV true p1) w12)) := by
            obtain ⟨o', k', e', -, -, hf⟩ := HQ1.out
            simp only [Value.slice.injEq] at e'
            obtain ⟨rfl, -, rfl⟩ := e'
            exact flipped_any true o1 k1 p1 (by omega) w12 hf
          go_wp2_with fail
          refine HFF.out.mono ?_
          rintro e w13 ⟨v3, rfl, hown3, hb13⟩
          obtain ⟨o3, k3, hv3, -⟩ := hown3.isSlc
          have HL3 : Hid ((flipV true p1).length = p1.length) := by show _ = _; unfold flipV; simp
          have HQ3 : Hid (PileR w13 v3 (flipV true p1)) := hown3.isSlice (fun _ => rfl)
          obtain ⟨p3, hp3⟩ : ∃ p3, p3 = flipV true p1 := ⟨_, rfl⟩
          rw [← hp3] at HQ3 HL3 hv3
          have HP3 := Lib.hid hp3
          subst hv3
          have HY := Lib.hid (HY.out.below hb13)
          have HQ2 := Lib.hid (HQ2.out.below hb13)
          obtain ⟨c0, c1, c2, d0, d1, d2⟩ := HCL.out w13 HY.out.bel
          clear hown3 hb13 HFF HQ1 hp3
          have HFP : Hid (foldP s ⟨1, L, over⟩ c r = if over = true then p3 ++ p2 else p2 ++ p3) := by
            show _ = _
            rw [HP3.out, HPS.out.1, HPS.out.2, HMV.out.1, HMV.out.2, HIV.out]
            have hsv := HSV.out
            cases over <;> simp [foldP, movP, fixP, movV, fixV, posV, acrossV, firstV, hsv]
          go_upto_region 26 with fail
          cases over with
          | true =>
            go_upto_region 28 with fail
            have g2 : w13.cell? ⟨g, 2, none⟩ = some v := HY.out.tab.at' 2 (by omega)
            obtain ⟨ov, kv, hv, -⟩ := HY.out.ps.op.isSlc
            obtain ⟨n, hn⟩ : ∃ n, n = us.length := ⟨_, rfl⟩
            rw [← hn] at hv
            subst hv
            have hlen : us.length = r * S + c := by rw [HY.out.ps.len, preV_len]
            have hrc : r * S ≤ 8 * 8 := Nat.mul_le_mul (by omega) (by omega)
            have HNU := Lib.hid hn
            have hn9 : n ≤ 1000 := by omega
            obtain ⟨p4, hp4⟩ : ∃ p4, p4 = p3 ++ p2 := ⟨_, rfl⟩
            obtain ⟨m, hm⟩ : ∃ m, m = p4.length := ⟨_, rfl⟩
            have HCON : Hid (∀ W, Below w13.heap.size w13 W → W.heap[w13.heap.size]? = some (.cells #[.slice o3 p3.length k3, .slice o2 p2.length k2] 111 (0, 0)) → Calls Try.prog 58 #[.slice (some ⟨w13.heap.size, 0, none⟩) 2 2] W (fun e w' => ∃ o k, e = .returned (.slice o m k) ∧ Own w' W.heap.size 115 4 encLeaf (.slice o m k) p4 ∧ Below W.heap.size W w')) := by
              intro W hb hh
              have hrow : Rows1 W 4 encLeaf (some ⟨w13.heap.size, 0, none⟩) [p3, p2] := by
                intro i hi
                match i, hi with
                | 0, _ => exact ⟨_, 0, _, rfl, by rw [cell_of_row _ w13.heap.size 0 _ _ (0, 0) hh]; rfl, HQ3.out.below hb⟩
                | 1, _ => exact ⟨_, 0, _, rfl, by rw [cell_of_row _ w13.heap.size 1 _ _ (0, 0) hh]; rfl, HQ2.out.below hb⟩
              have h := concatLeaf (some ⟨w13.heap.size, 0, none⟩) [p3, p2] 2 W (by simp) hrow (by have := HL3.out; simp [total]; omega)
              refine h.mono fun e w' ⟨v, e1, h1, h2⟩ => ?_
              have e2 : [p3, p2].flatten = p4 := by rw [hp4]; simp
              rw [e2] at h1
              obtain ⟨o, k, e3, -⟩ := h1.isSlc
              rw [← hm] at e3
              subst e3
              exact ⟨o, k, e1, h1, h2⟩
            have hm64 : m ≤ 64 := by rw [hm, hp4, List.length_append]; have := HL3.out; omega
            have HP4 := Lib.hid hp4
            have HMM := Lib.hid hm
            clear hn hlen hrc hp4 hm
            have g2a : (w13.alloc (.cells #[.slice o3 p3.length k3, .slice o2 p2.length k2] 111)).cell? ⟨g, 2, none⟩ = some (.slice ov n kv) := keepCell (balloc (Below.refl _ w13) _) g2
            go_region_law (first | (refine step_app1L (by rfl) (.tmp 106) (.tmp 111) 103 (by rfl) elemPile Try.underlying103 (g + 1) (.slice ov n kv) us encV (by rfl) (HY14.out.ps.op.alloc _) (.slice o4 m k4) ⟨w14.heap.size, 0, none⟩ 1 (by rfl) (by rfl) (World.news1 w14 _ _) (by simp [encV, Value.oneCell']) (by have := HNU.out; omega) (by have := HNU.out; unfold maxLen; omega) (by have := HY14.out.lt; simp; omega) ?_; rw [← HNU.out]; intro g5 cap5 w15 hown15 hgr15 hat15; have HOWN15 := Lib.hid hown15; have HGR15 := Lib.hid hgr15; have HAT15 := Lib.hid hat15; have hmid := (HY14.out.below (balloc (Below.refl _ w14) _)).mid hgr15; have m2 : w15.cell? ⟨g, 2, none⟩ = some (.slice ov n kv) := hmid.at' 2 (by omega); have mf := hmid.fz 2; clear hown15 hgr15 hat15 hmid) | (go_simp; go_at_call 58; refine (HCON.out _ (by go_grown) (by exact heap_alloc_new _ _)).mono ?_; rintro e w14 ⟨o4, k4, rfl, hown4, hb14⟩; have hz14 : Below w13.heap.size w13 w14 := bthen (w1 := (w13.alloc (.cells #[.slice o3 p3.length k3, .slice o2 p2.length k2] 111)).drew) (balloc (Below.refl _ w13) (.cells #[.slice o3 p3.length k3, .slice o2 p2.length k2] 111)).drew hb14; have g14 : w14.cell? ⟨g, 2, none⟩ = some (.slice ov n kv) := keepCell hz14 g2; have g14a : (w14.alloc (.cells #[.slice o4 m k4] 111)).cell? ⟨g, 2, none⟩ = some (.slice ov n kv) := keepCell (balloc (Below.refl _ w14) _) g14; have HY14 := Lib.hid (HY.out.below hz14); have HOWN4 := Lib.hid hown4; clear hown4 hb14 hz14))
            all_goals
              have HNX : Hid (ShtU W7 g (w15.setCell ⟨g, 2, none⟩ (.slice (some ⟨g5, 0, none⟩) (n + 1) cap5)) (.int .i64 S) (.int .i64 R) (.slice (some ⟨g5, 0, none⟩) (n + 1) cap5) (us ++ [.slice o4 m k4]) (preV S (foldP s ⟨1, L, true⟩) (r * S + (c + 1)))) := by
                have e : preV S (foldP s ⟨1, L, true⟩) (r * S + (c + 1)) = preV S (foldP s ⟨1, L, true⟩) (r * S + c) ++ [p4] := by
                  show preV S (foldP s ⟨1, L, true⟩) (r * S + c + 1) = _
                  unfold preV
                  rw [grid_snoc (R := 0) (foldP s ⟨1, L, true⟩) hct, HFP.out, HP4.out]
                  rfl
                show ShtU _ _ _ _ _ _ _ _
                rw [e]
                refine (HY14.out.below (balloc (Below.refl _ w14) (.cells #[.slice o4 m k4] 111))).add ((HOWN4.out.isSlice (fun _ => rfl)).below (balloc (Below.refl _ w14) _)) (fun b hb => ?_) HOWN15.out HGR15.out ?_
                · obtain ⟨q1, q2⟩ := HOWN4.out.blk hb
                  have q3 : w13.heap.size + 1 ≤ b := by
                    refine Nat.le_trans (Nat.le_of_eq ?_) q1
                    exact (World.size_alloc w13 _).symm
                  refine ⟨by simp; omega, fun e2 => ?_, by have := HY.out.lt; omega⟩
                  have := (HY.out.ps.op.blk e2).2
                  omega
                · rcases HAT15.out with h | h
                  · exact .inl h.symm
                  · exact .inr (by rw [h]; rfl)
              clear HOWN15 HGR15 HAT15 HY14 HOWN4 HCON m2 mf g14 g14a g2 g2a
              go_wp2_with fail
              go_roundw
              case rel => exact ⟨c + 1, by omega, by go_num, _, _, HNX.out⟩
              case measure => simp [intOf]; omega
          | false =>
            go_upto_region 28 with fail
            have g2 : w13.cell? ⟨g, 2, none⟩ = some v := HY.out.tab.at' 2 (by omega)
            obtain ⟨ov, kv, hv, -⟩ := HY.out.ps.op.isSlc
            obtain ⟨n, hn⟩ : ∃ n, n = us.length := ⟨_, rfl⟩
            rw [← hn] at hv
            subst hv
            have hlen : us.length = r * S + c := by rw [HY.out.ps.len, preV_len]
            have hrc : r * S ≤ 8 * 8 := Nat.mul_le_mul (by omega) (by omega)
            have HNU := Lib.hid hn
            have hn9 : n ≤ 1000 := by omega
            obtain ⟨p4, hp4⟩ : ∃ p4, p4 = p2 ++ p3 := ⟨_, rfl⟩
            obtain ⟨m, hm⟩ : ∃ m, m = p4.length := ⟨_, rfl⟩
            have HCON : Hid (∀ W, Below w13.heap.size w13 W → W.heap[w13.heap.size]? = some (.cells #[.slice o2 p2.length k2, .slice o3 p3.length k3] 111 (0, 0)) → Calls Try.prog 58 #[.slice (some ⟨w13.heap.size, 0, none⟩) 2 2] W (fun e w' => ∃ o k, e = .returned (.slice o m k) ∧ Own w' W.heap.size 115 4 encLeaf (.slice o m k) p4 ∧ Below W.heap.size W w')) := by
              intro W hb hh
              have hrow : Rows1 W 4 encLeaf (some ⟨w13.heap.size, 0, none⟩) [p2, p3] := by
                intro i hi
                match i, hi with
                | 0, _ => exact ⟨_, 0, _, rfl, by rw [cell_of_row _ w13.heap.size 0 _ _ (0, 0) hh]; rfl, HQ2.out.below hb⟩
                | 1, _ => exact ⟨_, 0, _, rfl, by rw [cell_of_row _ w13.heap.size 1 _ _ (0, 0) hh]; rfl, HQ3.out.below hb⟩
              have h := concatLeaf (some ⟨w13.heap.size, 0, none⟩) [p2, p3] 2 W (by simp) hrow (by have := HL3.out; simp [total]; omega)
              refine h.mono fun e w' ⟨v, e1, h1, h2⟩ => ?_
              have e2 : [p2, p3].flatten = p4 := by rw [hp4]; simp
              rw [e2] at h1
              obtain ⟨o, k, e3, -⟩ := h1.isSlc
              rw [← hm] at e3
              subst e3
              exact ⟨o, k, e1, h1, h2⟩
            have hm64 : m ≤ 64 := by rw [hm, hp4, List.length_append]; have := HL3.out; omega
            have HP4 := Lib.hid hp4
            have HMM := Lib.hid hm
            clear hn hlen hrc hp4 hm
            have g2a : (w13.alloc (.cells #[.slice o2 p2.length k2, .slice o3 p3.length k3] 111)).cell? ⟨g, 2, none⟩ = some (.slice ov n kv) := keepCell (balloc (Below.refl _ w13) _) g2
            go_region_law (first | (refine step_app1L (by rfl) (.tmp 106) (.tmp 111) 103 (by rfl) elemPile Try.underlying103 (g + 1) (.slice ov n kv) us encV (by rfl) (HY14.out.ps.op.alloc _) (.slice o4 m k4) ⟨w14.heap.size, 0, none⟩ 1 (by rfl) (by rfl) (World.news1 w14 _ _) (by simp [encV, Value.oneCell']) (by have := HNU.out; omega) (by have := HNU.out; unfold maxLen; omega) (by have := HY14.out.lt; simp; omega) ?_; rw [← HNU.out]; intro g5 cap5 w15 hown15 hgr15 hat15; have HOWN15 := Lib.hid hown15; have HGR15 := Lib.hid hgr15; have HAT15 := Lib.hid hat15; have hmid := (HY14.out.below (balloc (Below.refl _ w14) _)).mid hgr15; have m2 : w15.cell? ⟨g, 2, none⟩ = some (.slice ov n kv) := hmid.at' 2 (by omega); have mf := hmid.fz 2; clear hown15 hgr15 hat15 hmid) | (go_simp; go_at_call 58; refine (HCON.out _ (by go_grown) (by exact heap_alloc_new _ _)).mono ?_; rintro e w14 ⟨o4, k4, rfl, hown4, hb14⟩; have hz14 : Below w13.heap.size w13 w14 := bthen (w1 := (w13.alloc (.cells #[.slice o2 p2.length k2, .slice o3 p3.length k3] 111)).drew) (balloc (Below.refl _ w13) (.cells #[.slice o2 p2.length k2, .slice o3 p3.length k3] 111)).drew hb14; have g14 : w14.cell? ⟨g, 2, none⟩ = some (.slice ov n kv) := keepCell hz14 g2; have g14a : (w14.alloc (.cells #[.slice o4 m k4] 111)).cell? ⟨g, 2, none⟩ = some (.slice ov n kv) := keepCell (balloc (Below.refl _ w14) _) g14; have HY14 := Lib.hid (HY.out.below hz14); have HOWN4 := Lib.hid hown4; clear hown4 hb14 hz14))
            all_goals
              have HNX : Hid (ShtU W7 g (w15.setCell ⟨g, 2, none⟩ (.slice (some ⟨g5, 0, none⟩) (n + 1) cap5)) (.int .i64 S) (.int .i64 R) (.slice (some ⟨g5, 0, none⟩) (n + 1) cap5) (us ++ [.slice o4 m k4]) (preV S (foldP s ⟨1, L, false⟩) (r * S + (c + 1)))) := by
                have e : preV S (foldP s ⟨1, L, false⟩) (r * S + (c + 1)) = preV S (foldP s ⟨1, L, false⟩) (r * S + c) ++ [p4] := by
                  show preV S (foldP s ⟨1, L, false⟩) (r * S + c + 1) = _
                  unfold preV
                  rw [grid_snoc (R := 0) (foldP s ⟨1, L, false⟩) hct, HFP.out, HP4.out]
                  rfl
                show ShtU _ _ _ _ _ _ _ _
                rw [e]
                refine (HY14.out.below (balloc (Below.refl _ w14) (.cells #[.slice o4 m k4] 111))).add ((HOWN4.out.isSlice (fun _ => rfl)).below (balloc (Below.refl _ w14) _)) (fun b hb => ?_) HOWN15.out HGR15.out ?_
                · obtain ⟨q1, q2⟩ := HOWN4.out.blk hb
                  have q3 : w13.heap.size + 1 ≤ b := by
                    refine Nat.le_trans (Nat.le_of_eq ?_) q1
                    exact (World.size_alloc w13 _).symm
                  refine ⟨by simp; omega, fun e2 => ?_, by have := HY.out.lt; omega⟩
                  have := (HY.out.ps.op.blk e2).2
                  omega
                · rcases HAT15.out with h | h
                  · exact .inl h.symm
                  · exact .inr (by rw [h]; rfl)
              clear HOWN15 HGR15 HAT15 HY14 HOWN4 HCON m2 mf g14 g14a g2 g2a
              go_wp2_with fail
              go_roundw
              case rel => exact ⟨c + 1, by omega, by go_num, _, _, HNX.out⟩
              case measure => simp [intOf]; omega
        · obtain rfl : S = c := by omega
          obtain ⟨v, us, hy⟩ := HY.out
          have HY := Lib.hid hy
          clear hy
          go_wp2_with fail
          go_roundw
          case rel => exact ⟨r + 1, by omega, by go_num, v, us, by rw [Nat.add_mul, Nat.one_mul]; exact HY.out⟩
          case measure => simp [intOf]; omega
    · obtain rfl : R = r := by omega
      have hx := HX.out
      have hr2 : FTab (fun v : Value => v) wa (w.heap.size + 1 + 1) 3 (outF (.int .i64 0) (.int .i64 0) (.slice none 0 0)) := HT4.out.below hx.bel hgl
      obtain ⟨oq, capq, hv, -⟩ := hx.rows
      rw [preV_len] at hv
      subst hv
      have hrs := res_set (x := .int .i64 S) (y := .int .i64 R) (z := .slice oq (R * S) capq) hr2
      have hbw := hrs.bel (HBW.out.trans (hx.bel.mono (by omega))) (by omega)
      obtain ⟨oa', cap', hv', hrows⟩ := hx.done hrs hgl
      rw [preV_len] at hv'
      simp only [Value.slice.injEq] at hv'
      obtain ⟨rfl, -, rfl⟩ := hv'
      have HF : Hid (RetSht ⟨S, R, preV S (foldP s ⟨1, L, over⟩) (R * S)⟩ w (.returned (.agg #[.int .i64 S, .int .i64 R, .slice oq (R * S) capq])) (resW wa (w.heap.size + 1 + 1) (.int .i64 S) (.int .i64 R) (.slice oq (R * S) capq))) :=
        ⟨oq, capq, by rw [preV_len], hrows.mono (by omega), hbw⟩
      have z0 : wa.cell? ⟨g, 0, none⟩ = some (.int .i64 S) := hx.tab.at' 0 (by omega)
      have z1 : wa.cell? ⟨g, 1, none⟩ = some (.int .i64 R) := hx.tab.at' 1 (by omega)
      have z2 : wa.cell? ⟨g, 2, none⟩ = some (.slice oq (R * S) capq) := hx.tab.at' 2 (by omega)
      have r0 : wa.cell? ⟨w.heap.size + 1 + 1, 0, none⟩ = some (.int .i64 0) := hr2.at' 0 (by omega)
      have r1 : wa.cell? ⟨w.heap.size + 1 + 1, 1, none⟩ = some (.int .i64 0) := hr2.at' 1 (by omega)
      have r2 : wa.cell? ⟨w.heap.size + 1 + 1, 2, none⟩ = some (.slice none 0 0) := hr2.at' 2 (by omega)
      have rf := hr2.fz
      obtain ⟨n, hn⟩ : ∃ n, n = R * S := ⟨_, rfl⟩
      have HRS := Lib.hid hrs
      have HN := Lib.hid hn
      rw [← hn] at z2 HF HRS
      clear hx hr2 hn HX hrs hbw hrows
      repeat (first | go_values | go_skip | go_guarded | go_step | go_upon)
      obtain ⟨W9, hW9⟩ : ∃ W9, W9 = resW wa (w.heap.size + 1 + 1) (.int .i64 S) (.int .i64 R) (.slice oq n capq) := ⟨_, rfl⟩
      rw [← hW9] at HF HRS
      unfold resW at hW9
      rw [← hW9]
      have e0 := HRS.out.c0
      have e1 := HRS.out.c1
      have e2 := HRS.out.c2
      clear hW9
      refine bodyPost_ret (v := .agg #[.int .i64 S, .int .i64 R, .slice oq n capq]) (by simp only [results, foldRes1]; go_simp) rfl ?_
      rw [HFV.out, ← HN.out]
      exact HF.out
end Go.Proofs.Ytdblibjmgamjeaa
