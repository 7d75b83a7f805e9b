/-
  The walk of bindery.frameOf. Printed by gen_frame.py. Own text.
-/
import Derived.Test.YtdblibjmgamjeaaPlc
import Derived.Deep.RegionHeld3
namespace Go.Proofs.Ytdblibjmgamjeaa
open Go.RowKit
set_option linter.unusedVariables false
theorem frameRes : Try.f34.results = #[.cell 2 95] := rfl
def fmF (a b c d : Value) : Nat → Value
  | 0 => a
  | 1 => b
  | 2 => c
  | _ => d
theorem fmF_new (w : World) (a b c d : Value) (t : TypeId) : FTab (fun v : Value => v) (w.alloc (.cells #[a, b, c, d] t)) w.heap.size 4 (fmF a b c d) :=
  (pgF_new w a b c d t).congr fun i hi => match i, hi with
    | 0, _ => rfl
    | 1, _ => rfl
    | 2, _ => rfl
    | 3, _ => rfl
def setF (W : World) (t : Nat) (a b c d : Value) : World := (((W.setCell ⟨t, 0, none⟩ a).setCell ⟨t, 1, none⟩ b).setCell ⟨t, 2, none⟩ c).setCell ⟨t, 3, none⟩ d
theorem setF_at {W : World} {t : Nat} {f : Nat → Value} (h : FTab (fun v : Value => v) W t 4 f) (a b c d : Value) : FTab (fun v : Value => v) (setF W t a b c d) t 4 (fmF a b c d) ∧ ∀ {B : Nat} {w : World}, Below B w W → B ≤ t → Below B w (setF W t a b c d) := by
  have t4 := (((h.set (i := 0) (by omega) a).set (i := 1) (by omega) b).set (i := 2) (by omega) c).set (i := 3) (by omega) d
  refine ⟨t4.congr fun i hi => ?_, fun hb hl => ?_⟩
  · match i, hi with
    | 0, _ => rfl
    | 1, _ => rfl
    | 2, _ => rfl
    | 3, _ => rfl
  · exact (((hb.setCell (p := ⟨t, 0, none⟩) hl _).setCell (p := ⟨t, 1, none⟩) hl _).setCell (p := ⟨t, 2, none⟩) hl _).setCell (p := ⟨t, 3, none⟩) hl _
abbrev frameV (l : Lay) : Value := .agg #[.int .i64 (l.w + l.fore + l.spine), .int .i64 (l.h + 2 * l.head), .int .i64 (oneW l), .int .i64 (oneH l)]
set_option maxRecDepth 100000 in
set_option maxHeartbeats 16000000 in
theorem frame_any (l : Lay) (x : Sht) (hx : Good l x) (os : Option Addr) (cs : Nat) (w : World) (hs : StpAt w l os cs) :
    Calls Try.prog 34 #[layV l os l.sc.steps.length cs] w fun e w' => e = .returned (frameV l) ∧ Below w.heap.size w w' := by
  have hr := hx.rng
  have hob := one_bd hx.f hr
  have hlb := leaf_bd hr
  have hcc : l.sc.cols ≤ 8 ∧ l.sc.rows ≤ 8 ∧ 1 ≤ l.sc.cols ∧ 1 ≤ l.sc.rows := ⟨hx.f.inn.2.1, hx.f.inn.2.2.2.1, hx.f.inn.1, hx.f.inn.2.2.1⟩
  have HPG : Hid (∀ W, Below w.heap.size w W → Calls Try.prog 20 #[.agg #[.int .i64 l.sc.cols, .int .i64 l.sc.rows, .slice os l.sc.steps.length cs]] W (RetPages l.sc W)) := fun W hb => pages_any l.sc os cs W (hs.f.below hb) hs.m hs.c
  obtain ⟨m, hm⟩ : ∃ m, m = l.sc.steps.length := ⟨_, rfl⟩
  rw [← hm] at HPG ⊢
  have b1 := hr.w; have b2 := hr.h; have b3 := hr.head; have b4 := hr.fore; have b5 := hr.spine; have b6 := hr.margin
  obtain ⟨A, hA⟩ : ∃ q, q = l.w + l.fore + l.spine := ⟨_, rfl⟩
  obtain ⟨Bh, hBh⟩ : ∃ q, q = l.h + 2 * l.head := ⟨_, rfl⟩
  have x1 : IntKind.i64.wrap (l.w + l.fore) = l.w + l.fore := IntWalk.i64_in _ (by omega)
  have x2 : IntKind.i64.wrap (l.w + l.fore + l.spine) = A := by rw [hA]; exact IntWalk.i64_in _ (by omega)
  have x3 : IntKind.i64.wrap (2 * l.head) = 2 * l.head := IntWalk.i64_in _ (by omega)
  have x4 : IntKind.i64.wrap (l.h + 2 * l.head) = Bh := by rw [hBh]; exact IntWalk.i64_in _ (by omega)
  obtain ⟨LW, hLW⟩ : ∃ LW, LW = leafW l := ⟨_, rfl⟩
  obtain ⟨LH, hLH⟩ : ∃ LH, LH = leafH l := ⟨_, rfl⟩
  have HLW : Hid (LW = if lies l = true then Bh else A) := by show _ = _; rw [hLW, hA, hBh]; rfl
  have HLH : Hid (LH = if lies l = true then A else Bh) := by show _ = _; rw [hLH, hA, hBh]; rfl
  have HLI : Hid (lies l = (turnV (sideV l.sc) % 2 == 1)) := rfl
  have HX := Lib.hid hx.f
  obtain ⟨SW, hSW⟩ : ∃ q, q = oneW l := ⟨_, rfl⟩
  obtain ⟨SH, hSH⟩ : ∃ q, q = oneH l := ⟨_, rfl⟩
  have heW : SW = 2 * l.margin + l.sc.cols * LW := by rw [hSW, hLW]; rfl
  have heH : SH = 2 * l.margin + l.sc.rows * LH := by rw [hSH, hLH]; rfl
  have HEW := Lib.hid heW
  have HEH := Lib.hid heH
  have HSB : Hid (SW ≤ 3200 ∧ SH ≤ 3200 ∧ 1 ≤ SW ∧ 1 ≤ SH ∧ 1 ≤ LW ∧ 1 ≤ LH ∧ LW ≤ 384 ∧ LH ≤ 384) := by show _ ∧ _; rw [hSW, hSH, hLW, hLH]; omega
  have HFV : Hid (frameV l = .agg #[.int .i64 A, .int .i64 Bh, .int .i64 SW, .int .i64 SH]) := by show _ = _; rw [hA, hBh, hSW, hSH]
  clear hLW hLH hSW hSH hob hlb heW heH hA hBh
  obtain ⟨W1, hW1⟩ : ∃ W1, W1 = (w.alloc (layO l os m cs)).alloc (.cells #[.int .i64 0, .int .i64 0, .int .i64 0, .int .i64 0] 95) := ⟨_, rfl⟩
  have hb1 : Below w.heap.size w W1 := by rw [hW1]; exact balloc (balloc (Below.refl _ w) _) _
  have hz1 : W1.heap.size = w.heap.size + 1 + 1 := by rw [hW1]; simp
  have ht1 : FTab (fun v : Value => v) W1 w.heap.size 11 (layF l os m cs) := by rw [hW1]; exact (layF_new w l os m cs _).alloc (by simp) _
  have ht2 : FTab (fun v : Value => v) W1 (w.heap.size + 1) 4 (fmF (.int .i64 0) (.int .i64 0) (.int .i64 0) (.int .i64 0)) := by
    have h := fmF_new (w.alloc (layO l os m cs)) (.int .i64 0) (.int .i64 0) (.int .i64 0) (.int .i64 0) 95
    rw [World.size_alloc] at h
    rw [hW1]; exact h
  have HW1 : Hid ((w.alloc (layO l os m cs)).alloc (.cells #[.int .i64 0, .int .i64 0, .int .i64 0, .int .i64 0] 95) = W1) := hW1.symm
  unfold layO at HW1
  obtain ⟨W2, hW2⟩ : ∃ W2, W2 = W1.alloc (.cells #[.int .i64 A, .int .i64 Bh, .int .i64 0, .int .i64 0] 95) := ⟨_, rfl⟩
  have hb2 : Below W1.heap.size W1 W2 := by rw [hW2]; exact balloc (Below.refl _ W1) _
  have ht3 : FTab (fun v : Value => v) W2 W1.heap.size 4 (fmF (.int .i64 A) (.int .i64 Bh) (.int .i64 0) (.int .i64 0)) := by rw [hW2]; exact fmF_new W1 _ _ _ _ _
  have hl3 : W1.heap.size < W2.heap.size := by rw [hW2]; simp
  obtain ⟨g, hg⟩ : ∃ g, g = W1.heap.size := ⟨_, rfl⟩
  rw [← hg] at ht3 hl3
  have hgg : w.heap.size + 1 < g := by omega
  have HT1 := Lib.hid (ht1.below hb2 (by omega))
  have HT2 := Lib.hid (ht2.below hb2 (by omega))
  have HT3 := Lib.hid ht3
  have HB2 := Lib.hid (bthen hb1 hb2)
  have HL3 := Lib.hid hl3
  have HW2 : Hid (W1.alloc (.cells #[.int .i64 A, .int .i64 Bh, .int .i64 0, .int .i64 0] 95) = W2) := hW2.symm
  have HG := Lib.hid hg
  have c0 : W1.cell? ⟨w.heap.size, 0, none⟩ = some (.int .i64 l.sc.cols) := ht1.at' 0 (by omega)
  have c3 : W1.cell? ⟨w.heap.size, 3, none⟩ = some (.int .i64 l.w) := ht1.at' 3 (by omega)
  have c4 : W1.cell? ⟨w.heap.size, 4, none⟩ = some (.int .i64 l.h) := ht1.at' 4 (by omega)
  have c5 : W1.cell? ⟨w.heap.size, 5, none⟩ = some (.int .i64 l.head) := ht1.at' 5 (by omega)
  have c6 : W1.cell? ⟨w.heap.size, 6, none⟩ = some (.int .i64 l.fore) := ht1.at' 6 (by omega)
  have c7 : W1.cell? ⟨w.heap.size, 7, none⟩ = some (.int .i64 l.spine) := ht1.at' 7 (by omega)
  clear hW1 hb1 hz1 ht1 ht2 hW2 hb2 ht3 hl3 hg hs hx hr hm
  go_enter Try.func34, Try.ntmps34
  go_upto_region 1 with fail
  rw [HW1.out]
  clear HW1
  go_upto_region 2 with fail
  rw [HW2.out, ← HG.out]
  clear HW2 c0 c3 c4 c5 c6 c7 x1 x2 x3 x4 b1 b2 b3 b4 b5
  have g0 : W2.cell? ⟨g, 0, none⟩ = some (.int .i64 A) := HT3.out.at' 0 (by omega)
  have g1 : W2.cell? ⟨g, 1, none⟩ = some (.int .i64 Bh) := HT3.out.at' 1 (by omega)
  go_quiet (fail)
  have HBq : Hid (Below W2.heap.size W2 (W2.drewN nq)) := bdrewN (Below.refl _ W2) nq
  clear g0 g1
  generalize W2.drewN nq = w2 at *
  have hcl : ∀ W, Below W2.heap.size W2 W → W.cell? ⟨w.heap.size, 0, none⟩ = some (.int .i64 l.sc.cols) ∧ W.cell? ⟨w.heap.size, 1, none⟩ = some (.int .i64 l.sc.rows) ∧ W.cell? ⟨w.heap.size, 2, none⟩ = some (.slice os m cs) ∧ W.cell? ⟨w.heap.size, 8, none⟩ = some (.int .i64 l.margin) := fun W hb => by
    have h := HT1.out.below hb (by have := HL3.out; omega)
    exact ⟨h.at' 0 (by omega), h.at' 1 (by omega), h.at' 2 (by omega), h.at' 8 (by omega)⟩
  have HCL := Lib.hid hcl
  clear hcl
  obtain ⟨c0, c1, c2, -⟩ := HCL.out w2 HBq.out
  have HP := Lib.hid (HPG.out w2 (HB2.out.trans (HBq.out.mono HB2.out.size)))
  go_wp2_with fail
  refine HP.out.mono ?_
  intro e w3 hret
  obtain ⟨hb3, oa, cap, rfl, hcap, hfl⟩ := hret.ok HX.out
  obtain ⟨h0, ht0⟩ := HX.out.first
  obtain ⟨pb, poff, rfl, p0, p1, p2, p3⟩ := hfl.pg h0
  have hpg := HX.out.pgin h0
  obtain ⟨p, hp⟩ : ∃ p, p = (pagesV l.sc x)[0] := ⟨_, rfl⟩
  rw [← hp] at p0 p1 p2 p3 ht0 hpg
  obtain ⟨PL, hPL⟩ : ∃ PL, PL = (pagesV l.sc x).length := ⟨_, rfl⟩
  have hpl0 : (0 : Int) < (PL : Int) := by omega
  rw [← hPL]
  have HB3 := Lib.hid (bthen HBq.out hb3)
  obtain ⟨tr0, tr4⟩ := hpg.t
  obtain ⟨t, htt⟩ : ∃ t, t = p.turn := ⟨_, rfl⟩
  rw [← htt] at p3 tr0 tr4 ht0
  simp only [Nat.zero_mul, Nat.add_zero] at p3
  have HT0 := Lib.hid ht0
  clear hcap hfl hp hPL p0 p1 p2 hpg hb3 hret h0 ht0 htt c0 c1 c2 HP HPG
  by_cases hl : t % 2 = 1
  · have t1 : (t % 2 == 1) = true := by simpa using hl
    have hli : lies l = true := by rw [HLI.out, ← HT0.out]; exact t1
    have hW := HLW.out
    have hH := HLH.out
    rw [if_pos hli] at hW hH
    clear HLW HLH
    obtain rfl : Bh = LW := hW.symm
    obtain rfl : A = LH := hH.symm
    clear hl hli
    have x5 : IntKind.i64.wrap (2 * l.margin) = 2 * l.margin := IntWalk.i64_in _ (by omega)
    obtain ⟨CW, hCW⟩ : ∃ q, q = l.sc.cols * Bh := ⟨_, rfl⟩
    obtain ⟨CH, hCH⟩ : ∃ q, q = l.sc.rows * A := ⟨_, rfl⟩
    have hsb := HSB.out
    have y1 : SW = 2 * l.margin + CW := by rw [hCW]; exact HEW.out
    have y2 : SH = 2 * l.margin + CH := by rw [hCH]; exact HEH.out
    have x6 : IntKind.i64.wrap (l.sc.cols * Bh) = CW := by rw [← hCW]; exact IntWalk.i64_in _ (by omega)
    have x7 : IntKind.i64.wrap (l.sc.rows * A) = CH := by rw [← hCH]; exact IntWalk.i64_in _ (by omega)
    have x8 : IntKind.i64.wrap (2 * l.margin + CW) = SW := by rw [← y1]; exact IntWalk.i64_in _ (by omega)
    have x9 : IntKind.i64.wrap (2 * l.margin + CH) = SH := by rw [← y2]; exact IntWalk.i64_in _ (by omega)
    clear hCW hCH y1 y2 hsb
    have ht3 := HT3.out.below HB3.out HL3.out
    have ht2 := HT2.out.below HB3.out (by have := HL3.out; omega)
    have g2 : w3.cell? ⟨g, 2, none⟩ = some (.int .i64 0) := ht3.at' 2 (by omega)
    have g3 : w3.cell? ⟨g, 3, none⟩ = some (.int .i64 0) := ht3.at' 3 (by omega)
    have gf := ht3.fz
    have n1 : g ≠ w.heap.size := by omega
    have n2 : w.heap.size ≠ g := by omega
    obtain ⟨c0, c1, c2, c8⟩ := HCL.out w3 HB3.out
    go_upto_region 6 with fail
    clear p3
    go_region_held3 (fun W => W.cell? ⟨w.heap.size, 0, none⟩ = some (.int .i64 l.sc.cols) ∧ W.cell? ⟨w.heap.size, 1, none⟩ = some (.int .i64 l.sc.rows) ∧ W.cell? ⟨w.heap.size, 8, none⟩ = some (.int .i64 l.margin))
      ((refine ⟨?_, ?_, ?_⟩ <;> go_simp)) (fail)
    all_goals
      obtain ⟨w6, hw6⟩ : ∃ w6, w6 = ((w3.setCell ⟨g, 2, none⟩ (.int .i64 SW)).setCell ⟨g, 3, none⟩ (.int .i64 SH)).drew := ⟨_, rfl⟩
      have h6 : FTab (fun v : Value => v) w6 g 4 (fmF (.int .i64 A) (.int .i64 Bh) (.int .i64 SW) (.int .i64 SH)) := by
        rw [hw6]
        exact (((ht3.set (i := 2) (by omega) (.int .i64 SW)).set (i := 3) (by omega) (.int .i64 SH)).congr fun i hi => match i, hi with
          | 0, _ => rfl
          | 1, _ => rfl
          | 2, _ => rfl
          | 3, _ => rfl).drew
      have h7 : FTab (fun v : Value => v) w6 (w.heap.size + 1) 4 (fmF (.int .i64 0) (.int .i64 0) (.int .i64 0) (.int .i64 0)) := by
        rw [hw6]
        exact ((ht2.other (b := g) (by omega) _).other (b := g) (by omega) _).drew
      have hb6 : Below w.heap.size w w6 := by
        rw [hw6]
        have hb := HB2.out.trans (HB3.out.mono HB2.out.size)
        exact ((hb.setCell (p := ⟨g, 2, none⟩) (by show w.heap.size ≤ g; omega) _).setCell (p := ⟨g, 3, none⟩) (by show w.heap.size ≤ g; omega) _).drew
      have HW6 : Hid (((w3.setCell ⟨g, 2, none⟩ (.int .i64 SW)).setCell ⟨g, 3, none⟩ (.int .i64 SH)).drew = w6) := hw6.symm
      have hr := setF_at h7 (.int .i64 A) (.int .i64 Bh) (.int .i64 SW) (.int .i64 SH)
      have HR := Lib.hid hr.1
      have HF : Hid (Below w.heap.size w (setF w6 (w.heap.size + 1) (.int .i64 A) (.int .i64 Bh) (.int .i64 SW) (.int .i64 SH))) := hr.2 hb6 (by omega)
      have e0 : w6.cell? ⟨g, 0, none⟩ = some (.int .i64 A) := h6.at' 0 (by omega)
      have e1 : w6.cell? ⟨g, 1, none⟩ = some (.int .i64 Bh) := h6.at' 1 (by omega)
      have e2 : w6.cell? ⟨g, 2, none⟩ = some (.int .i64 SW) := h6.at' 2 (by omega)
      have e3 : w6.cell? ⟨g, 3, none⟩ = some (.int .i64 SH) := h6.at' 3 (by omega)
      have r0 : w6.cell? ⟨w.heap.size + 1, 0, none⟩ = some (.int .i64 0) := h7.at' 0 (by omega)
      have r1 : w6.cell? ⟨w.heap.size + 1, 1, none⟩ = some (.int .i64 0) := h7.at' 1 (by omega)
      have r2 : w6.cell? ⟨w.heap.size + 1, 2, none⟩ = some (.int .i64 0) := h7.at' 2 (by omega)
      have r3 : w6.cell? ⟨w.heap.size + 1, 3, none⟩ = some (.int .i64 0) := h7.at' 3 (by omega)
      have rf := h7.fz
      clear hw6 h6 h7 hb6 hr ht3 ht2 g2 g3 gf c0 c1 c2 c8
      rw [HW6.out]
      clear HW6
      repeat (first | go_values | go_skip | go_guarded | go_step | go_upon)
      obtain ⟨W9, hW9⟩ : ∃ W9, W9 = setF w6 (w.heap.size + 1) (.int .i64 A) (.int .i64 Bh) (.int .i64 SW) (.int .i64 SH) := ⟨_, rfl⟩
      rw [← hW9] at HF HR
      unfold setF at hW9
      rw [← hW9]
      have q0 : W9.cell? ⟨w.heap.size + 1, 0, none⟩ = some (.int .i64 A) := HR.out.at' 0 (by omega)
      have q1 : W9.cell? ⟨w.heap.size + 1, 1, none⟩ = some (.int .i64 Bh) := HR.out.at' 1 (by omega)
      have q2 : W9.cell? ⟨w.heap.size + 1, 2, none⟩ = some (.int .i64 SW) := HR.out.at' 2 (by omega)
      have q3 : W9.cell? ⟨w.heap.size + 1, 3, none⟩ = some (.int .i64 SH) := HR.out.at' 3 (by omega)
      clear hW9
      refine bodyPost_ret (v := .agg #[.int .i64 A, .int .i64 Bh, .int .i64 SW, .int .i64 SH]) (by simp only [results, frameRes]; go_simp) rfl ?_
      exact ⟨by rw [HFV.out], HF.out⟩
  · have t1 : (t % 2 == 1) = false := by simpa using hl
    have hli : ¬ lies l = true := by rw [HLI.out, ← HT0.out, t1]; decide
    have hW := HLW.out
    have hH := HLH.out
    rw [if_neg hli] at hW hH
    clear HLW HLH
    obtain rfl : A = LW := hW.symm
    obtain rfl : Bh = LH := hH.symm
    clear hl hli
    have x5 : IntKind.i64.wrap (2 * l.margin) = 2 * l.margin := IntWalk.i64_in _ (by omega)
    obtain ⟨CW, hCW⟩ : ∃ q, q = l.sc.cols * A := ⟨_, rfl⟩
    obtain ⟨CH, hCH⟩ : ∃ q, q = l.sc.rows * Bh := ⟨_, rfl⟩
    have hsb := HSB.out
    have y1 : SW = 2 * l.margin + CW := by rw [hCW]; exact HEW.out
    have y2 : SH = 2 * l.margin + CH := by rw [hCH]; exact HEH.out
    have x6 : IntKind.i64.wrap (l.sc.cols * A) = CW := by rw [← hCW]; exact IntWalk.i64_in _ (by omega)
    have x7 : IntKind.i64.wrap (l.sc.rows * Bh) = CH := by rw [← hCH]; exact IntWalk.i64_in _ (by omega)
    have x8 : IntKind.i64.wrap (2 * l.margin + CW) = SW := by rw [← y1]; exact IntWalk.i64_in _ (by omega)
    have x9 : IntKind.i64.wrap (2 * l.margin + CH) = SH := by rw [← y2]; exact IntWalk.i64_in _ (by omega)
    clear hCW hCH y1 y2 hsb
    have ht3 := HT3.out.below HB3.out HL3.out
    have ht2 := HT2.out.below HB3.out (by have := HL3.out; omega)
    have g2 : w3.cell? ⟨g, 2, none⟩ = some (.int .i64 0) := ht3.at' 2 (by omega)
    have g3 : w3.cell? ⟨g, 3, none⟩ = some (.int .i64 0) := ht3.at' 3 (by omega)
    have gf := ht3.fz
    have n1 : g ≠ w.heap.size := by omega
    have n2 : w.heap.size ≠ g := by omega
    obtain ⟨c0, c1, c2, c8⟩ := HCL.out w3 HB3.out
    go_upto_region 6 with fail
    clear p3
    go_region_held3 (fun W => W.cell? ⟨w.heap.size, 0, none⟩ = some (.int .i64 l.sc.cols) ∧ W.cell? ⟨w.heap.size, 1, none⟩ = some (.int .i64 l.sc.rows) ∧ W.cell? ⟨w.heap.size, 8, none⟩ = some (.int .i64 l.margin))
      ((refine ⟨?_, ?_, ?_⟩ <;> go_simp)) (fail)
    all_goals
      obtain ⟨w6, hw6⟩ : ∃ w6, w6 = ((w3.setCell ⟨g, 2, none⟩ (.int .i64 SW)).setCell ⟨g, 3, none⟩ (.int .i64 SH)).drew := ⟨_, rfl⟩
      have h6 : FTab (fun v : Value => v) w6 g 4 (fmF (.int .i64 A) (.int .i64 Bh) (.int .i64 SW) (.int .i64 SH)) := by
        rw [hw6]
        exact (((ht3.set (i := 2) (by omega) (.int .i64 SW)).set (i := 3) (by omega) (.int .i64 SH)).congr fun i hi => match i, hi with
          | 0, _ => rfl
          | 1, _ => rfl
          | 2, _ => rfl
          | 3, _ => rfl).drew
      have h7 : FTab (fun v : Value => v) w6 (w.heap.size + 1) 4 (fmF (.int .i64 0) (.int .i64 0) (.int .i64 0) (.int .i64 0)) := by
        rw [hw6]
        exact ((ht2.other (b := g) (by omega) _).other (b := g) (by omega) _).drew
      have hb6 : Below w.heap.size w w6 := by
        rw [hw6]
        have hb := HB2.out.trans (HB3.out.mono HB2.out.size)
        exact ((hb.setCell (p := ⟨g, 2, none⟩) (by show w.heap.size ≤ g; omega) _).setCell (p := ⟨g, 3, none⟩) (by show w.heap.size ≤ g; omega) _).drew
      have HW6 : Hid (((w3.setCell ⟨g, 2, none⟩ (.int .i64 SW)).setCell ⟨g, 3, none⟩ (.int .i64 SH)).drew = w6) := hw6.symm
      have hr := setF_at h7 (.int .i64 A) (.int .i64 Bh) (.int .i64 SW) (.int .i64 SH)
      have HR := Lib.hid hr.1
      have HF : Hid (Below w.heap.size w (setF w6 (w.heap.size + 1) (.int .i64 A) (.int .i64 Bh) (.int .i64 SW) (.int .i64 SH))) := hr.2 hb6 (by omega)
      have e0 : w6.cell? ⟨g, 0, none⟩ = some (.int .i64 A) := h6.at' 0 (by omega)
      have e1 : w6.cell? ⟨g, 1, none⟩ = some (.int .i64 Bh) := h6.at' 1 (by omega)
      have e2 : w6.cell? ⟨g, 2, none⟩ = some (.int .i64 SW) := h6.at' 2 (by omega)
      have e3 : w6.cell? ⟨g, 3, none⟩ = some (.int .i64 SH) := h6.at' 3 (by omega)
      have r0 : w6.cell? ⟨w.heap.size + 1, 0, none⟩ = some (.int .i64 0) := h7.at' 0 (by omega)
      have r1 : w6.cell? ⟨w.heap.size + 1, 1, none⟩ = some (.int .i64 0) := h7.at' 1 (by omega)
      have r2 : w6.cell? ⟨w.heap.size + 1, 2, none⟩ = some (.int .i64 0) := h7.at' 2 (by omega)
      have r3 : w6.cell? ⟨w.heap.size + 1, 3, none⟩ = some (.int .i64 0) := h7.at' 3 (by omega)
      have rf := h7.fz
      clear hw6 h6 h7 hb6 hr ht3 ht2 g2 g3 gf c0 c1 c2 c8
      rw [HW6.out]
      clear HW6
      repeat (first | go_values | go_skip | go_guarded | go_step | go_upon)
      obtain ⟨W9, hW9⟩ : ∃ W9, W9 = setF w6 (w.heap.size + 1) (.int .i64 A) (.int .i64 Bh) (.int .i64 SW) (.int .i64 SH) := ⟨_, rfl⟩
      rw [← hW9] at HF HR
      unfold setF at hW9
      rw [← hW9]
      have q0 : W9.cell? ⟨w.heap.size + 1, 0, none⟩ = some (.int .i64 A) := HR.out.at' 0 (by omega)
      have q1 : W9.cell? ⟨w.heap.size + 1, 1, none⟩ = some (.int .i64 Bh) := HR.out.at' 1 (by omega)
      have q2 : W9.cell? ⟨w.heap.size + 1, 2, none⟩ = some (.int .i64 SW) := HR.out.at' 2 (by omega)
      have q3 : W9.cell? ⟨w.heap.size + 1, 3, none⟩ = some (.int .i64 SH) := HR.out.at' 3 (by omega)
      clear hW9
      refine bodyPost_ret (v := .agg #[.int .i64 A, .int .i64 Bh, .int .i64 SW, .int .i64 SH]) (by simp only [results, frameRes]; go_simp) rfl ?_
      exact ⟨by rw [HFV.out], HF.out⟩
end Go.Proofs.Ytdblibjmgamjeaa
