/-
  The walk of impose's box.turned. The walk of impose.place. The argument api.ImposeLayout, opened. Own text.
-/
import Derived.Test.YtdblibjmgamjeaaImpC
import Derived.Deep.Cut
import Derived.Deep.CutRange
namespace Go.Proofs.Ytdblibjmgamjeaa
open Go.RowKit
set_option linter.unusedVariables false
def bxF (b : Bx) : Nat → Value
  | 0 => .int .i64 b.fw
  | 1 => .int .i64 b.fh
  | 2 => .int .i64 b.x
  | 3 => .int .i64 b.y
  | 4 => .int .i64 b.w
  | _ => .int .i64 b.h
/-- A box as a value. -/
abbrev bxV (b : Bx) : Value := .agg #[.int .i64 b.fw, .int .i64 b.fh, .int .i64 b.x, .int .i64 b.y, .int .i64 b.w, .int .i64 b.h]
abbrev bxO (b : Bx) : Obj := .cells #[.int .i64 b.fw, .int .i64 b.fh, .int .i64 b.x, .int .i64 b.y, .int .i64 b.w, .int .i64 b.h] 118
def Bx0 : Bx := ⟨0, 0, 0, 0, 0, 0⟩
abbrev BxAt (w : World) (g : Nat) (b : Bx) : Prop := FTab (fun v : Value => v) w g 6 (bxF b)
theorem bxF_new (w : World) (b : Bx) : BxAt (w.alloc (bxO b)) w.heap.size b := by
  refine ⟨fun i hi => ?_, fun o => ?_⟩
  · rw [cell_of_row _ w.heap.size i _ _ (0, 0) (heap_alloc_new w _)]
    match i, hi with
    | 0, _ => rfl
    | 1, _ => rfl
    | 2, _ => rfl
    | 3, _ => rfl
    | 4, _ => rfl
    | 5, _ => rfl
  · unfold World.frozen?
    rw [heap_alloc_new]
    simp
def setB (W : World) (g : Nat) (b : Bx) : World := (((((W.setCell ⟨g, 0, none⟩ (.int .i64 b.fw)).setCell ⟨g, 1, none⟩ (.int .i64 b.fh)).setCell ⟨g, 2, none⟩ (.int .i64 b.x)).setCell ⟨g, 3, none⟩ (.int .i64 b.y)).setCell ⟨g, 4, none⟩ (.int .i64 b.w)).setCell ⟨g, 5, none⟩ (.int .i64 b.h)
theorem BxAt.setB {W : World} {g : Nat} {a : Bx} (h : BxAt W g a) (b : Bx) : BxAt (setB W g b) g b := by
  have t := (((((h.set (i := 0) (by omega) (.int .i64 b.fw)).set (i := 1) (by omega) (.int .i64 b.fh)).set (i := 2) (by omega) (.int .i64 b.x)).set (i := 3) (by omega) (.int .i64 b.y)).set (i := 4) (by omega) (.int .i64 b.w)).set (i := 5) (by omega) (.int .i64 b.h)
  exact t.congr fun i hi => match i, hi with
    | 0, _ => rfl
    | 1, _ => rfl
    | 2, _ => rfl
    | 3, _ => rfl
    | 4, _ => rfl
    | 5, _ => rfl
theorem BxAt.setO {W : World} {g g' : Nat} {a b : Bx} (h : BxAt W g a) (hg : g' ≠ g) : BxAt (Go.Proofs.Ytdblibjmgamjeaa.setB W g' b) g a :=
  (((((h.other hg _).other hg _).other hg _).other hg _).other hg _).other hg _
theorem below_setB {B g : Nat} {w W : World} (hb : Below B w W) (hl : B ≤ g) (b : Bx) : Below B w (setB W g b) :=
  (((((hb.setCell (p := ⟨g, 0, none⟩) hl _).setCell (p := ⟨g, 1, none⟩) hl _).setCell (p := ⟨g, 2, none⟩) hl _).setCell (p := ⟨g, 3, none⟩) hl _).setCell (p := ⟨g, 4, none⟩) hl _).setCell (p := ⟨g, 5, none⟩) hl _
structure BxBd (b : Bx) : Prop where
  i : InF b
  w : 0 ≤ b.w
  h : 0 ≤ b.h
  fw : b.fw ≤ 5000
  fh : b.fh ≤ 5000
theorem BxBd.turn1 {b : Bx} (h : BxBd b) : BxBd (turn1 b) := ⟨h.i.turn1, h.h, h.w, h.fh, h.fw⟩
theorem boxRes : Try.f43.results = #[.cell 4 118] := rfl
structure BxU (w0 : World) (wr : World) (g r : Nat) (b : Bx) : Prop where
  bel : Below w0.heap.size w0 wr
  tab : BxAt wr g b
  res : BxAt wr r Bx0
  lt : g < wr.heap.size ∧ r < wr.heap.size ∧ w0.heap.size ≤ g ∧ w0.heap.size ≤ r ∧ g ≠ r
theorem setB_size (W : World) (g : Nat) (b : Bx) : (setB W g b).heap.size = W.heap.size := by unfold setB; simp
set_option maxHeartbeats 8000000 in
theorem turned_any (b : Bx) (hb : BxBd b) (k : Nat) (hk : k ≤ 3) (w : World) :
    Calls Try.prog 43 #[bxV b, .int .i64 k] w fun e w' => e = .returned (bxV (turnB b k)) ∧ Below w.heap.size w w' := by
  obtain ⟨W1, hW1⟩ : ∃ W1, W1 = (w.alloc (bxO b)).alloc (bxO Bx0) := ⟨_, rfl⟩
  have hU1 : BxU w W1 w.heap.size (w.heap.size + 1) b := by
    have h2 := bxF_new (w.alloc (bxO b)) Bx0
    rw [World.size_alloc] at h2
    rw [hW1]
    exact ⟨balloc (balloc (Below.refl _ w) _) _, (bxF_new w b).alloc (by simp) _, h2, by simp; omega, by simp, Nat.le_refl _, by omega, by omega⟩
  have HU1 := Lib.hid hU1
  have HW1 : Hid ((w.alloc (bxO b)).alloc (bxO Bx0) = W1) := hW1.symm
  have HBB := Lib.hid hb
  clear hU1 hW1 hb
  unfold bxO Bx0 at HW1
  go_enter Try.func43, Try.ntmps43
  go_upto_region 1 with fail
  rw [HW1.out]
  clear HW1
  obtain ⟨r, hr⟩ : ∃ r, r = w.heap.size + 1 := ⟨_, rfl⟩
  rw [← hr] at HU1 ⊢
  obtain ⟨g, hg⟩ : ∃ g, g = w.heap.size := ⟨_, rfl⟩
  rw [← hg] at HU1
  have HG := Lib.hid hg
  try rw [← hg]
  clear hr hg
  go_loopw [1] (fun i wr => ∃ (q : Nat) (a : Bx), q ≤ k ∧ i = .int .i64 q ∧ Hid (turnB a q = turnB b k) ∧ Hid (BxBd a) ∧ Hid (BxU w wr g r a)) (fun i _ => (intOf i).toNat)
  case atStart => exact ⟨k, b, Nat.le_refl _, rfl, rfl, HBB, HU1⟩
  case round =>
    clear HU1 HBB
    obtain ⟨q, a, hq, rfl, HQ, HA, HX⟩ := hrel
    obtain ⟨wa, rfl⟩ : ∃ wa : World, wa = wr := ⟨_, rfl⟩
    obtain ⟨fw, fh, x, y, bw, bh⟩ := a
    have t0 : wa.cell? ⟨g, 0, none⟩ = some (.int .i64 fw) := HX.out.tab.at' 0 (by omega)
    have t1 : wa.cell? ⟨g, 1, none⟩ = some (.int .i64 fh) := HX.out.tab.at' 1 (by omega)
    have t2 : wa.cell? ⟨g, 2, none⟩ = some (.int .i64 x) := HX.out.tab.at' 2 (by omega)
    have t3 : wa.cell? ⟨g, 3, none⟩ = some (.int .i64 y) := HX.out.tab.at' 3 (by omega)
    have t4 : wa.cell? ⟨g, 4, none⟩ = some (.int .i64 bw) := HX.out.tab.at' 4 (by omega)
    have t5 : wa.cell? ⟨g, 5, none⟩ = some (.int .i64 bh) := HX.out.tab.at' 5 (by omega)
    have tf := HX.out.tab.fz
    by_cases hz : q = 0
    · subst hz
      have e : (⟨fw, fh, x, y, bw, bh⟩ : Bx) = turnB b k := HQ.out
      have hR := (HX.out.res).setB (⟨fw, fh, x, y, bw, bh⟩ : Bx)
      have HF : Hid ((Ending.returned (bxV ⟨fw, fh, x, y, bw, bh⟩)) = Ending.returned (bxV (turnB b k)) ∧ Below w.heap.size w (setB wa r ⟨fw, fh, x, y, bw, bh⟩)) := ⟨by rw [e], below_setB HX.out.bel HX.out.lt.2.2.2.1 _⟩
      have r0 : wa.cell? ⟨r, 0, none⟩ = some (.int .i64 0) := HX.out.res.at' 0 (by omega)
      have r1 : wa.cell? ⟨r, 1, none⟩ = some (.int .i64 0) := HX.out.res.at' 1 (by omega)
      have r2 : wa.cell? ⟨r, 2, none⟩ = some (.int .i64 0) := HX.out.res.at' 2 (by omega)
      have r3 : wa.cell? ⟨r, 3, none⟩ = some (.int .i64 0) := HX.out.res.at' 3 (by omega)
      have r4 : wa.cell? ⟨r, 4, none⟩ = some (.int .i64 0) := HX.out.res.at' 4 (by omega)
      have r5 : wa.cell? ⟨r, 5, none⟩ = some (.int .i64 0) := HX.out.res.at' 5 (by omega)
      have rf := HX.out.res.fz
      have HR := Lib.hid hR
      clear hR e HX HQ HA tf
      repeat (first | go_values | go_skip | go_guarded | go_step | go_upon)
      obtain ⟨W9, hW9⟩ : ∃ W9, W9 = setB wa r ⟨fw, fh, x, y, bw, bh⟩ := ⟨_, rfl⟩
      rw [← hW9] at HF HR
      unfold setB at hW9
      dsimp only at hW9
      rw [← hW9]
      have e0 : W9.cell? ⟨r, 0, none⟩ = some (.int .i64 fw) := HR.out.at' 0 (by omega)
      have e1 : W9.cell? ⟨r, 1, none⟩ = some (.int .i64 fh) := HR.out.at' 1 (by omega)
      have e2 : W9.cell? ⟨r, 2, none⟩ = some (.int .i64 x) := HR.out.at' 2 (by omega)
      have e3 : W9.cell? ⟨r, 3, none⟩ = some (.int .i64 y) := HR.out.at' 3 (by omega)
      have e4 : W9.cell? ⟨r, 4, none⟩ = some (.int .i64 bw) := HR.out.at' 4 (by omega)
      have e5 : W9.cell? ⟨r, 5, none⟩ = some (.int .i64 bh) := HR.out.at' 5 (by omega)
      clear hW9
      refine bodyPost_ret (v := bxV ⟨fw, fh, x, y, bw, bh⟩) (by simp only [results, boxRes]; go_simp) rfl ?_
      exact HF.out
    · obtain ⟨q', hq'⟩ : ∃ q', q = q' + 1 := ⟨q - 1, by omega⟩
      have c1 : (0 : Int) < (q : Int) := by omega
      have w0 : IntKind.i64.wrap ((q : Int) - 1) = (q' : Int) := (IntWalk.i64_in _ (by omega)).trans (by omega)
      obtain ⟨⟨i1, i2, i3, i4⟩, i5, i6, i7, i8⟩ := HA.out
      simp only at i1 i2 i3 i4 i5 i6 i7 i8
      have w1 : IntKind.i64.wrap (fh - y) = fh - y := IntWalk.i64_in _ (by omega)
      have w2 : IntKind.i64.wrap (fh - y - bh) = fh - y - bh := IntWalk.i64_in _ (by omega)
      have HNX : Hid (BxU w (setB wa g (turn1 ⟨fw, fh, x, y, bw, bh⟩)) g r (turn1 ⟨fw, fh, x, y, bw, bh⟩)) := by
        obtain ⟨l1, l2, l3, l4, l5⟩ := HX.out.lt
        exact ⟨below_setB HX.out.bel l3 _, HX.out.tab.setB _, HX.out.res.setO l5, by rw [setB_size]; exact ⟨l1, l2, l3, l4, l5⟩⟩
      have HA2 := Lib.hid HA.out.turn1
      have HQ2 : Hid (turnB (turn1 ⟨fw, fh, x, y, bw, bh⟩) q' = turnB b k) := by
        have h := HQ.out
        rw [hq'] at h
        exact h
      have HQQ := Lib.hid hq'
      clear HX HA HQ i1 i2 i3 i4 i5 i6 i7 i8 hq'
      go_wp2_with fail
      go_roundw
      case rel => exact ⟨q', _, by have := HQQ.out; omega, by go_num, HQ2, HA2, HNX⟩
      case measure => have := HQQ.out; simp [intOf]; omega
end Go.Proofs.Ytdblibjmgamjeaa
namespace Go.Proofs.Ytdblibjmgamjeaa
open Go.RowKit
set_option linter.unusedVariables false
theorem BxBd.turnB {b : Bx} (h : BxBd b) (k : Nat) : BxBd (turnB b k) := by
  induction k generalizing b with
  | zero => exact h
  | succ k ih => exact ih h.turn1
theorem placeRes : Try.f42.results = #[.cell 6 118] := rfl
/-- A layout as a value. -/
abbrev layV (l : Lay) (os : Option Addr) (n cs : Nat) : Value := .agg #[.int .i64 l.sc.cols, .int .i64 l.sc.rows, .slice os n cs, .int .i64 l.w, .int .i64 l.h, .int .i64 l.head, .int .i64 l.fore, .int .i64 l.spine, .int .i64 l.margin, .int .i64 l.creep, .int .i64 l.style]
abbrev layO (l : Lay) (os : Option Addr) (n cs : Nat) : Obj := .cells #[.int .i64 l.sc.cols, .int .i64 l.sc.rows, .slice os n cs, .int .i64 l.w, .int .i64 l.h, .int .i64 l.head, .int .i64 l.fore, .int .i64 l.spine, .int .i64 l.margin, .int .i64 l.creep, .int .i64 l.style] 26
abbrev pgO (p : Pg) : Obj := .cells #[.bool p.back, .int .i64 p.col, .int .i64 p.row, .int .i64 p.turn] 99
set_option maxRecDepth 100000 in
set_option maxHeartbeats 16000000 in
theorem plc_any (l : Lay) (x : Sht) (hx : Good l x) (os : Option Addr) (cs : Nat) (page : Int) (hp1 : 1 ≤ page) (hp2 : (page - 1) / 2 < l.sc.cols * l.sc.rows) (p : Pg) (hp : PgIn l.sc.cols l.sc.rows (turnV (sideV l.sc)) p) (w : World) (hs : StpAt w l os cs) :
    Calls Try.prog 42 #[layV l os l.sc.steps.length cs, .int .i64 page, .agg #[.bool p.back, .int .i64 p.col, .int .i64 p.row, .int .i64 p.turn]] w fun e w' => e = .returned (bxV (placeV l page p)) ∧ Below w.heap.size w w' := by
  obtain ⟨pb, pc, pr, pt⟩ := p
  obtain ⟨k, rfl⟩ : ∃ k : Nat, pt = (k : Int) := ⟨pt.toNat, by have := hp.t.1; simp only at this; omega⟩
  have hk : k ≤ 3 := by have := hp.t.2; simp only at this; omega
  have hr := hx.rng
  have hlb := leaf_bd hr
  have hob := one_bd hx.f hr
  have hin := inner_bd hx hp1 hp2
  have hbx0 := box0_in hx hp1 hp2
  have hcs := hx.f.inn
  have HLF : Hid (∀ W, Below w.heap.size w W → Calls Try.prog 47 #[layV l os l.sc.steps.length cs] W (RetII (leafW l) (leafH l) W)) := fun W hb => leaf_any l x hx.f hr os cs W (hs.below hb)
  have HSG : Hid (∀ W, Below w.heap.size w W → Calls Try.prog 41 #[layV l os l.sc.steps.length cs] W (RetII (oneW l) (oneH l) W)) := fun W hb => single_any l x hx.f hr os cs W (hs.below hb)
  obtain ⟨b1, b2, b3, b4, b5, b6, b7, b8⟩ := hr
  have hcol := hp.c
  have hrow := hp.r
  simp only at hcol hrow
  obtain ⟨PN, hPN⟩ : ∃ PN, PN = l.sc.cols * l.sc.rows := ⟨_, rfl⟩
  have hlv := leaves_bd hcs
  rw [← hPN] at hlv hp2
  have hPNb : PN ≤ 32 := by omega
  obtain ⟨lf, hlf⟩ : ∃ lf, lf = (page - 1) / 2 := ⟨_, rfl⟩
  have HDP : Hid (∀ W, Calls Try.prog 60 #[.int .i64 lf, .int .i64 PN] W fun e w' => e = .returned (.int .i64 (depthV lf PN)) ∧ W = w') := fun W => depth_any lf PN W (by omega) (by omega)
  obtain ⟨D, hD⟩ : ∃ D, D = depthV lf PN := ⟨_, rfl⟩
  obtain ⟨CD, hCD⟩ : ∃ C, C = l.creep * D := ⟨_, rfl⟩
  obtain ⟨IV, hIV⟩ : ∃ I, I = innerV l page := ⟨_, rfl⟩
  have hIV2 : IV = l.spine - CD := by rw [hIV, hCD, hD, hPN, hlf]; rfl
  rw [← hIV] at hin
  rw [← hD] at HDP
  obtain ⟨m, hm⟩ : ∃ m, m = l.sc.steps.length := ⟨_, rfl⟩
  rw [← hm] at HLF HSG ⊢
  obtain ⟨W1, hW1⟩ : ∃ W1, W1 = ((w.alloc (layO l os m cs)).alloc (pgO ⟨pb, pc, pr, k⟩)).alloc (bxO Bx0) := ⟨_, rfl⟩
  have hb1 : Below w.heap.size w W1 := by rw [hW1]; exact balloc (balloc (balloc (Below.refl _ w) _) _) _
  have hz1 : W1.heap.size = w.heap.size + 1 + 1 + 1 := by rw [hW1]; simp
  have ht1 : FTab (fun v : Value => v) W1 w.heap.size 11 (layF l os m cs) := by rw [hW1]; exact ((layF_new w l os m cs _).alloc (by simp) _).alloc (by simp; omega) _
  have ht2 : FTab (fun v : Value => v) W1 (w.heap.size + 1) 4 (pgF (.bool pb) (.int .i64 pc) (.int .i64 pr) (.int .i64 k)) := by
    have h := pgF_new (w.alloc (layO l os m cs)) (.bool pb) (.int .i64 pc) (.int .i64 pr) (.int .i64 k) 99
    rw [World.size_alloc] at h
    rw [hW1]; exact h.alloc (by simp) _
  have ht3 : BxAt W1 (w.heap.size + 1 + 1) Bx0 := by
    have h := bxF_new ((w.alloc (layO l os m cs)).alloc (pgO ⟨pb, pc, pr, k⟩)) Bx0
    rw [World.size_alloc, World.size_alloc] at h
    rw [hW1]; exact h
  have HCE : Hid (∀ W, Below W1.heap.size W1 W → (W.cell? ⟨w.heap.size, 0, none⟩ = some (.int .i64 l.sc.cols) ∧ W.cell? ⟨w.heap.size, 1, none⟩ = some (.int .i64 l.sc.rows) ∧ W.cell? ⟨w.heap.size, 2, none⟩ = some (.slice os m cs) ∧ W.cell? ⟨w.heap.size, 3, none⟩ = some (.int .i64 l.w) ∧ W.cell? ⟨w.heap.size, 4, none⟩ = some (.int .i64 l.h) ∧ W.cell? ⟨w.heap.size, 5, none⟩ = some (.int .i64 l.head) ∧ W.cell? ⟨w.heap.size, 6, none⟩ = some (.int .i64 l.fore) ∧ W.cell? ⟨w.heap.size, 7, none⟩ = some (.int .i64 l.spine) ∧ W.cell? ⟨w.heap.size, 8, none⟩ = some (.int .i64 l.margin) ∧ W.cell? ⟨w.heap.size, 9, none⟩ = some (.int .i64 l.creep) ∧ W.cell? ⟨w.heap.size, 10, none⟩ = some (.int .i64 l.style)) ∧ (W.cell? ⟨w.heap.size + 1, 1, none⟩ = some (.int .i64 pc) ∧ W.cell? ⟨w.heap.size + 1, 2, none⟩ = some (.int .i64 pr) ∧ W.cell? ⟨w.heap.size + 1, 3, none⟩ = some (.int .i64 k))) := fun W hb => by
    have h := ht1.below hb (by omega)
    have h2 := ht2.below hb (by omega)
    exact ⟨⟨h.at' 0 (by omega), h.at' 1 (by omega), h.at' 2 (by omega), h.at' 3 (by omega), h.at' 4 (by omega), h.at' 5 (by omega), h.at' 6 (by omega), h.at' 7 (by omega), h.at' 8 (by omega), h.at' 9 (by omega), h.at' 10 (by omega)⟩, h2.at' 1 (by omega), h2.at' 2 (by omega), h2.at' 3 (by omega)⟩
  have HW1 : Hid (((w.alloc (layO l os m cs)).alloc (pgO ⟨pb, pc, pr, k⟩)).alloc (bxO Bx0) = W1) := hW1.symm
  have HB1 := Lib.hid hb1
  have HZ1 := Lib.hid hz1
  have HT3 := Lib.hid ht3
  obtain ⟨LW, hLW⟩ : ∃ LW, LW = leafW l := ⟨_, rfl⟩
  obtain ⟨LH, hLH⟩ : ∃ LH, LH = leafH l := ⟨_, rfl⟩
  obtain ⟨OW, hOW⟩ : ∃ LW, LW = oneW l := ⟨_, rfl⟩
  obtain ⟨OH, hOH⟩ : ∃ LH, LH = oneH l := ⟨_, rfl⟩
  rw [← hLW, ← hLH] at HLF hlb
  rw [← hOW, ← hOH] at HSG hob
  have x1 : IntKind.i64.wrap (page - 1) = page - 1 := IntWalk.i64_in _ (by omega)
  have x2 : IntKind.i64.wrap (l.sc.cols * l.sc.rows) = PN := by rw [← hPN]; exact IntWalk.i64_in _ (by omega)
  have x3 : IntKind.i64.wrap (l.creep * D) = CD := by rw [← hCD]; exact IntWalk.i64_in _ (by omega)
  have x4 : IntKind.i64.wrap (l.spine - CD) = IV := by rw [← hIV2]; exact IntWalk.i64_in _ (by omega)
  have x5 : IntKind.i64.wrap ((page - 1).tdiv 2) = lf := by rw [Int.tdiv_eq_ediv_of_nonneg (by omega), ← hlf]; exact IntWalk.i64_in _ (by omega)
  have HBX0 : Hid (BxBd (box0 l page)) := ⟨hbx0, by show 0 ≤ l.w; omega, by show 0 ≤ l.h; omega, by show l.w + l.fore + l.spine ≤ 5000; omega, by show l.h + 2 * l.head ≤ 5000; omega⟩
  have HEQ : Hid (box0 l page = ⟨l.w + l.fore + l.spine, l.h + 2 * l.head, if page % 2 = 0 then l.w + l.fore + l.spine - IV - l.w else IV, l.head, l.w, l.h⟩) := by show _ = _; rw [hIV]; rfl
  have HPV : Hid (placeV l page ⟨pb, pc, pr, k⟩ = ⟨OW, OH, l.margin + pc * LW + (turnB (box0 l page) k).x, l.margin + pr * LH + (turnB (box0 l page) k).y, (turnB (box0 l page) k).w, (turnB (box0 l page) k).h⟩) := by
    show _ = _; rw [hLW, hLH, hOW, hOH]; rfl
  obtain ⟨CL, hCL⟩ : ∃ C, C = pc * LW := ⟨_, rfl⟩
  obtain ⟨RL, hRL⟩ : ∃ C, C = pr * LH := ⟨_, rfl⟩
  have hcc : l.sc.cols ≤ 8 ∧ l.sc.rows ≤ 8 := ⟨hcs.2.1, hcs.2.2.2.1⟩
  have hCLb : 0 ≤ CL ∧ CL ≤ 8 * 384 := by rw [hCL]; exact ⟨Int.mul_nonneg hcol.1 (by omega), Int.mul_le_mul (by omega) (by omega) (by omega) (by omega)⟩
  have hRLb : 0 ≤ RL ∧ RL ≤ 8 * 384 := by rw [hRL]; exact ⟨Int.mul_nonneg hrow.1 (by omega), Int.mul_le_mul (by omega) (by omega) (by omega) (by omega)⟩
  have x6 : IntKind.i64.wrap (pc * LW) = CL := by rw [← hCL]; exact IntWalk.i64_in _ (by omega)
  have x7 : IntKind.i64.wrap (pr * LH) = RL := by rw [← hRL]; exact IntWalk.i64_in _ (by omega)
  rw [← hCL, ← hRL] at HPV
  clear hW1 hb1 hz1 ht1 ht2 ht3 hs hx hp hm hLW hLH hOW hOH hbx0 hcs hlv hPN hD hCD hIV hIV2 hlf hCL hRL hp2 hcc hcol hrow
  unfold layO pgO bxO Bx0 at HW1
  go_enter Try.func42, Try.ntmps42
  go_upto_region 1 with fail
  rw [HW1.out]
  clear HW1
  obtain ⟨⟨c0, c1, c2, c3, c4, c5, c6, c7, c8, c9, c10⟩, d1, d2, d3⟩ := HCE.out W1 (Below.refl _ W1)
  have HL := Lib.hid (HLF.out W1 HB1.out)
  go_wp2_with fail
  refine HL.out.mono ?_
  intro e w2 hret
  obtain ⟨rfl, hb2⟩ := hret
  have HB2 := Lib.hid hb2
  clear c0 c1 c2 c3 c4 c5 c6 c7 c8 c9 c10 d1 d2 d3 HL HLF hb2
  obtain ⟨⟨c0, c1, c2, c3, c4, c5, c6, c7, c8, c9, c10⟩, d1, d2, d3⟩ := HCE.out w2 HB2.out
  go_upto_region 2 with fail
  go_cut [9] from 104 to 103 (fun s9 wx => s9 = .int .i64 IV ∧ Hid (Below W1.heap.size W1 wx))
  case first =>
    go_region_law (first | (go_simp; go_at_call 60; refine (HDP.out _).mono ?_; rintro e w3 ⟨rfl, rfl⟩))
    all_goals
      go_wp2_with fail
      go_meet
      exact ⟨rfl, Lib.hid HB2.out.drew⟩
  case rest =>
    obtain ⟨rfl, HB3⟩ := hcut
    obtain ⟨wx, rfl⟩ : ∃ wx, wx = wc := ⟨_, rfl⟩
    clear c0 c1 c2 c3 c4 c5 c6 c7 c8 c9 c10 d1 d2 d3 HB2 x1 x2 x3 x4 x5 HDP
    obtain ⟨⟨c0, c1, c2, c3, c4, c5, c6, c7, c8, c9, c10⟩, d1, d2, d3⟩ := HCE.out wx HB3.out
    have y1 : IntKind.i64.wrap (l.w + l.fore) = l.w + l.fore := IntWalk.i64_in _ (by omega)
    obtain ⟨FW, hFW⟩ : ∃ F, F = l.w + l.fore + l.spine := ⟨_, rfl⟩
    have y2 : IntKind.i64.wrap (l.w + l.fore + l.spine) = FW := by rw [hFW]; exact IntWalk.i64_in _ (by omega)
    have y3 : IntKind.i64.wrap (2 * l.head) = 2 * l.head := IntWalk.i64_in _ (by omega)
    obtain ⟨FH, hFH⟩ : ∃ F, F = l.h + 2 * l.head := ⟨_, rfl⟩
    have y4 : IntKind.i64.wrap (l.h + 2 * l.head) = FH := by rw [hFH]; exact IntWalk.i64_in _ (by omega)
    rw [← hFW, ← hFH] at HEQ
    have y5 : IntKind.i64.wrap (FW - IV) = FW - IV := IntWalk.i64_in _ (by omega)
    have y6 : IntKind.i64.wrap (FW - IV - l.w) = FW - IV - l.w := IntWalk.i64_in _ (by omega)
    clear hFW hFH
    obtain ⟨wy, hwy⟩ : ∃ wy, wy = wx.alloc (.cells #[.int .i64 FW, .int .i64 FH, .int .i64 IV, .int .i64 l.head, .int .i64 l.w, .int .i64 l.h] 118) := ⟨_, rfl⟩
    have hnew : BxAt wy wx.heap.size ⟨FW, FH, IV, l.head, l.w, l.h⟩ := by rw [hwy]; exact bxF_new wx ⟨FW, FH, IV, l.head, l.w, l.h⟩
    have hby : Below W1.heap.size W1 wy := by rw [hwy]; exact balloc HB3.out _
    have hsz : wx.heap.size < wy.heap.size := by rw [hwy]; simp
    have HPC : Hid (page % 2 = 0 → BxAt (wy.setCell ⟨wx.heap.size, 2, none⟩ (.int .i64 (FW - IV - l.w))) wx.heap.size (box0 l page)) := fun e => by
      rw [HEQ.out, if_pos e]
      exact (hnew.set (i := 2) (by omega) (.int .i64 (FW - IV - l.w))).congr fun i hi => match i, hi with
        | 0, _ => rfl
        | 1, _ => rfl
        | 2, _ => rfl
        | 3, _ => rfl
        | 4, _ => rfl
        | 5, _ => rfl
    have HPD : Hid (¬ page % 2 = 0 → BxAt wy wx.heap.size (box0 l page)) := fun e => by rw [HEQ.out, if_neg e]; exact hnew
    have n0 : wy.cell? ⟨wx.heap.size, 0, none⟩ = some (.int .i64 FW) := hnew.at' 0 (by omega)
    have n2 : wy.cell? ⟨wx.heap.size, 2, none⟩ = some (.int .i64 IV) := hnew.at' 2 (by omega)
    have nf := hnew.fz
    have HWX := Lib.hid HB3.out.size
    have HBY := Lib.hid hby
    have HWY := Lib.hid hwy
    clear hnew HEQ hby hwy
    go_upto_if 59 with fail
    rw [← HWY.out]
    obtain ⟨g, hg⟩ : ∃ g, g = wx.heap.size := ⟨_, rfl⟩
    rw [← hg] at HPC HPD n0 n2 nf hsz HWX ⊢
    clear c0 c1 c2 c3 c4 c5 c6 c7 c8 c9 c10 d1 d2 d3 HWY hg
    obtain ⟨⟨c0, c1, c2, c3, c4, c5, c6, c7, c8, c9, c10⟩, d1, d2, d3⟩ := HCE.out wy HBY.out
    go_cut [9] from 104 to 103 (fun s9 wq => s9 = .int .i64 IV ∧ Hid (BxAt wq g (box0 l page) ∧ Below W1.heap.size W1 wq ∧ g < wq.heap.size))
    case first =>
      by_cases hev : page % 2 = 0
      · have k1 : (page % 2 == 0) = true := by simpa using hev
        have HQ := Lib.hid (HPC.out hev)
        clear HPC HPD
        go_wp2_with fail
        go_meet
        exact ⟨rfl, Lib.hid ⟨HQ.out, HBY.out.setCell (p := ⟨g, 2, none⟩) HWX.out _, by simp; omega⟩⟩
      · have k1 : (page % 2 == 0) = false := by simpa using hev
        have HQ := Lib.hid (HPD.out hev)
        clear HPC HPD
        go_wp2_with fail
        go_meet
        exact ⟨rfl, Lib.hid ⟨HQ.out, HBY.out, hsz⟩⟩
    case rest =>
      obtain ⟨rfl, HQ⟩ := hcut
      clear c0 c1 c2 c3 c4 c5 c6 c7 c8 c9 c10 d1 d2 d3 HPC HPD n0 n2 nf hsz HBY
      obtain ⟨wq, rfl⟩ : ∃ wq, wq = wc := ⟨_, rfl⟩
      obtain ⟨⟨c0, c1, c2, c3, c4, c5, c6, c7, c8, c9, c10⟩, d1, d2, d3⟩ := HCE.out wq HQ.out.2.1
      have HTU : Hid (∀ W, Calls Try.prog 43 #[bxV (box0 l page), .int .i64 k] W fun e w' => e = .returned (bxV (turnB (box0 l page) k)) ∧ Below W.heap.size W w') := fun W => turned_any (box0 l page) HBX0.out k hk W
      have hBT := HBX0.out.turnB k
      obtain ⟨B, hB⟩ : ∃ B, B = turnB (box0 l page) k := ⟨_, rfl⟩
      rw [← hB] at HTU HPV hBT
      obtain ⟨A, hA⟩ : ∃ A, A = box0 l page := ⟨_, rfl⟩
      rw [← hA] at HTU HQ
      clear hA hB HBX0
      have n0 : wq.cell? ⟨g, 0, none⟩ = some (.int .i64 A.fw) := HQ.out.1.at' 0 (by omega)
      have n1 : wq.cell? ⟨g, 1, none⟩ = some (.int .i64 A.fh) := HQ.out.1.at' 1 (by omega)
      have n2 : wq.cell? ⟨g, 2, none⟩ = some (.int .i64 A.x) := HQ.out.1.at' 2 (by omega)
      have n3 : wq.cell? ⟨g, 3, none⟩ = some (.int .i64 A.y) := HQ.out.1.at' 3 (by omega)
      have n4 : wq.cell? ⟨g, 4, none⟩ = some (.int .i64 A.w) := HQ.out.1.at' 4 (by omega)
      have n5 : wq.cell? ⟨g, 5, none⟩ = some (.int .i64 A.h) := HQ.out.1.at' 5 (by omega)
      go_wp2_with fail
      refine (HTU.out wq).mono ?_
      rintro e w4 ⟨rfl, hb4⟩
      clear n0 n1 n2 n3 n4 n5 c0 c1 c2 c3 c4 c5 c6 c7 c8 c9 c10 d1 d2 d3
      have h4 := HQ.out.1.below hb4 HQ.out.2.2
      have n0 : w4.cell? ⟨g, 0, none⟩ = some (.int .i64 A.fw) := h4.at' 0 (by omega)
      have n1 : w4.cell? ⟨g, 1, none⟩ = some (.int .i64 A.fh) := h4.at' 1 (by omega)
      have n2 : w4.cell? ⟨g, 2, none⟩ = some (.int .i64 A.x) := h4.at' 2 (by omega)
      have n3 : w4.cell? ⟨g, 3, none⟩ = some (.int .i64 A.y) := h4.at' 3 (by omega)
      have n4 : w4.cell? ⟨g, 4, none⟩ = some (.int .i64 A.w) := h4.at' 4 (by omega)
      have n5 : w4.cell? ⟨g, 5, none⟩ = some (.int .i64 A.h) := h4.at' 5 (by omega)
      have nf := h4.fz
      obtain ⟨w5, hw5⟩ : ∃ w5, w5 = setB w4 g B := ⟨_, rfl⟩
      have h5 : BxAt w5 g B := by rw [hw5]; exact BxAt.setB h4 B
      have hb5 : Below W1.heap.size W1 w5 := by rw [hw5]; exact below_setB (bthen HQ.out.2.1 hb4) HWX.out B
      have HW5 : Hid ((((((w4.setCell ⟨g, 0, none⟩ (.int .i64 B.fw)).setCell ⟨g, 1, none⟩ (.int .i64 B.fh)).setCell ⟨g, 2, none⟩ (.int .i64 B.x)).setCell ⟨g, 3, none⟩ (.int .i64 B.y)).setCell ⟨g, 4, none⟩ (.int .i64 B.w)).setCell ⟨g, 5, none⟩ (.int .i64 B.h) = w5) := hw5.symm
      have HB5 := Lib.hid hb5
      have H5 := Lib.hid h5
      have HSG5 := Lib.hid (HSG.out w5 (bthen HB1.out hb5))
      have HG5 := Lib.hid (Nat.lt_of_lt_of_le HQ.out.2.2 hb4.size)
      clear h4 hw5 h5 hb5 HTU
      go_upto_region 7 with fail
      rw [HW5.out]
      clear HW5 n0 n1 n2 n3 n4 n5 nf hb4
      obtain ⟨⟨c0, c1, c2, c3, c4, c5, c6, c7, c8, c9, c10⟩, d1, d2, d3⟩ := HCE.out w5 HB5.out
      go_wp2_with fail
      refine HSG5.out.mono ?_
      intro e w6 hret
      obtain ⟨rfl, hb6⟩ := hret
      clear c0 c1 c2 c3 c4 c5 c6 c7 c8 c9 c10 d1 d2 d3
      have HB6 := Lib.hid (bthen HB5.out hb6)
      obtain ⟨⟨c0, c1, c2, c3, c4, c5, c6, c7, c8, c9, c10⟩, d1, d2, d3⟩ := HCE.out w6 HB6.out
      have hl5 := cell?_lt (H5.out.at' 0 (by omega))
      have h6 := H5.out.below hb6 hl5
      have n2 : w6.cell? ⟨g, 2, none⟩ = some (.int .i64 B.x) := h6.at' 2 (by omega)
      have n3 : w6.cell? ⟨g, 3, none⟩ = some (.int .i64 B.y) := h6.at' 3 (by omega)
      have n4 : w6.cell? ⟨g, 4, none⟩ = some (.int .i64 B.w) := h6.at' 4 (by omega)
      have n5 : w6.cell? ⟨g, 5, none⟩ = some (.int .i64 B.h) := h6.at' 5 (by omega)
      have t6 := HT3.out.below HB6.out (by rw [HZ1.out]; omega)
      obtain ⟨R, hR⟩ : ∃ R, R = w.heap.size + 1 + 1 := ⟨_, rfl⟩
      rw [← hR] at t6
      have r0 : w6.cell? ⟨w.heap.size + 1 + 1, 0, none⟩ = some (.int .i64 0) := by rw [← hR]; exact t6.at' 0 (by omega)
      have r1 : w6.cell? ⟨w.heap.size + 1 + 1, 1, none⟩ = some (.int .i64 0) := by rw [← hR]; exact t6.at' 1 (by omega)
      have r2 : w6.cell? ⟨w.heap.size + 1 + 1, 2, none⟩ = some (.int .i64 0) := by rw [← hR]; exact t6.at' 2 (by omega)
      have r3 : w6.cell? ⟨w.heap.size + 1 + 1, 3, none⟩ = some (.int .i64 0) := by rw [← hR]; exact t6.at' 3 (by omega)
      have r4 : w6.cell? ⟨w.heap.size + 1 + 1, 4, none⟩ = some (.int .i64 0) := by rw [← hR]; exact t6.at' 4 (by omega)
      have r5 : w6.cell? ⟨w.heap.size + 1 + 1, 5, none⟩ = some (.int .i64 0) := by rw [← hR]; exact t6.at' 5 (by omega)
      have rf : ∀ o, w6.frozen? ⟨w.heap.size + 1 + 1, o, none⟩ = false := by rw [← hR]; exact t6.fz
      obtain ⟨⟨i1, i2, i3, i4⟩, i5, i6, i7, i8⟩ := hBT
      have z1 : IntKind.i64.wrap (l.margin + CL) = l.margin + CL := IntWalk.i64_in _ (by omega)
      have z2 : IntKind.i64.wrap (l.margin + CL + B.x) = l.margin + CL + B.x := IntWalk.i64_in _ (by omega)
      have z3 : IntKind.i64.wrap (l.margin + RL) = l.margin + RL := IntWalk.i64_in _ (by omega)
      have z4 : IntKind.i64.wrap (l.margin + RL + B.y) = l.margin + RL + B.y := IntWalk.i64_in _ (by omega)
      have hR2 := BxAt.setB t6 (⟨OW, OH, l.margin + CL + B.x, l.margin + RL + B.y, B.w, B.h⟩ : Bx)
      rw [hR] at hR2
      have HF : Hid ((Ending.returned (bxV ⟨OW, OH, l.margin + CL + B.x, l.margin + RL + B.y, B.w, B.h⟩)) = Ending.returned (bxV (placeV l page ⟨pb, pc, pr, k⟩)) ∧ Below w.heap.size w (setB w6 (w.heap.size + 1 + 1) ⟨OW, OH, l.margin + CL + B.x, l.margin + RL + B.y, B.w, B.h⟩)) := ⟨by rw [HPV.out], below_setB (bthen HB1.out HB6.out) (by omega) _⟩
      have HR := Lib.hid hR2
      clear hR2 t6 h6 i1 i2 i3 i4 i5 i6 i7 i8 hR hb6 HQ H5 HPV
      dsimp only
      repeat (first | go_values | go_skip | go_guarded | go_step | go_upon)
      obtain ⟨W9, hW9⟩ : ∃ W9, W9 = setB w6 (w.heap.size + 1 + 1) ⟨OW, OH, l.margin + CL + B.x, l.margin + RL + B.y, B.w, B.h⟩ := ⟨_, rfl⟩
      rw [← hW9] at HF HR
      unfold setB at hW9
      dsimp only at hW9
      rw [← hW9]
      have e0 : W9.cell? ⟨w.heap.size + 1 + 1, 0, none⟩ = some (.int .i64 OW) := HR.out.at' 0 (by omega)
      have e1 : W9.cell? ⟨w.heap.size + 1 + 1, 1, none⟩ = some (.int .i64 OH) := HR.out.at' 1 (by omega)
      have e2 : W9.cell? ⟨w.heap.size + 1 + 1, 2, none⟩ = some (.int .i64 (l.margin + CL + B.x)) := HR.out.at' 2 (by omega)
      have e3 : W9.cell? ⟨w.heap.size + 1 + 1, 3, none⟩ = some (.int .i64 (l.margin + RL + B.y)) := HR.out.at' 3 (by omega)
      have e4 : W9.cell? ⟨w.heap.size + 1 + 1, 4, none⟩ = some (.int .i64 B.w) := HR.out.at' 4 (by omega)
      have e5 : W9.cell? ⟨w.heap.size + 1 + 1, 5, none⟩ = some (.int .i64 B.h) := HR.out.at' 5 (by omega)
      clear hW9
      refine bodyPost_ret (v := bxV ⟨OW, OH, l.margin + CL + B.x, l.margin + RL + B.y, B.w, B.h⟩) (by simp only [results, placeRes]; go_simp) rfl ?_
      exact HF.out
end Go.Proofs.Ytdblibjmgamjeaa
namespace Go.Proofs.Ytdblibjmgamjeaa
open Go.ChangeShapes Go.WideShapes Go.ChangeAt Go.RowKit
set_option linter.unusedVariables false
theorem cellsI : Try.prog.cellsOf 3 = 1 := by kernel_rfl
theorem cellsB : Try.prog.cellsOf 4 = 1 := by kernel_rfl
theorem cellsStep : Try.prog.cellsOf 108 = 3 := by kernel_rfl
theorem cellsSteps : Try.prog.cellsOf 22 = 1 := by kernel_rfl
theorem cellsScheme : Try.prog.cellsOf 24 = 3 := by kernel_rfl
theorem cellsLay : Try.prog.cellsOf 26 = 11 := by kernel_rfl
set_option maxRecDepth 100000 in
theorem opens_step (w : World) : Opens Try.prog w 108 (fun cs (x : Stp) => cs = encStp x) := by
  intro H enc sp held fuel cs x h
  obtain ⟨xs, n, _, _, hl, hlen, hf⟩ := DataW.trod_struct Try.underlying108 h
  rw [cellsStep] at hl
  match cs, hl with
  | [a, b, c], _ =>
    have l3 : xs.length = 3 := hlen
    have e0 := (hf 0 _ rfl).trans (List.getElem?_eq_getElem (by omega))
    have e1 := (hf 1 _ rfl).trans (List.getElem?_eq_getElem (by omega))
    have e2 := (hf 2 _ rfl).trans (List.getElem?_eq_getElem (by omega))
    obtain ⟨p0, h0, _, _⟩ := DataW.trod_int Try.underlying3 e0
    obtain ⟨p1, h1, _, _⟩ := DataW.trod_int Try.underlying3 e1
    obtain ⟨p2, h2, _⟩ := DataW.trod_bool Try.underlying4 e2
    simp [cellsI, cellsB] at h0 h1 h2
    subst h0 h1 h2
    exact ⟨⟨p0, p1, p2⟩, rfl⟩
set_option maxRecDepth 100000 in
theorem opens_scheme (w : World) : Opens Try.prog w 24 (fun cs (s : Sch) => ∃ os c, cs = [.int .i64 s.cols, .int .i64 s.rows, .slice os s.steps.length c] ∧ s.steps.length ≤ c ∧ c ≤ maxLen ∧ Flat w 3 encStp os s.steps) := by
  intro H enc sp held fuel cs x h
  obtain ⟨xs, n, _, _, hl, hlen, hf⟩ := DataW.trod_struct Try.underlying24 h
  rw [cellsScheme] at hl
  match cs, hl with
  | [a, b, c], _ =>
    have l3 : xs.length = 3 := hlen
    have e0 := (hf 0 _ rfl).trans (List.getElem?_eq_getElem (by omega))
    have e1 := (hf 1 _ rfl).trans (List.getElem?_eq_getElem (by omega))
    have e2 := (hf 2 _ rfl).trans (List.getElem?_eq_getElem (by omega))
    obtain ⟨p0, h0, _, _⟩ := DataW.trod_int Try.underlying3 e0
    obtain ⟨p1, h1, _, _⟩ := DataW.trod_int Try.underlying3 e1
    obtain ⟨p2, os, cap, h2, m1, m2, m3⟩ := opens_slice Try.underlying22 (by rw [cellsStep]; omega) (opens_step w) _ _ _ _ _ _ _ e2
    rw [cellsStep] at m3
    simp [cellsI, cellsSteps] at h0 h1 h2
    subst h0 h1 h2
    exact ⟨⟨p0, p1, p2⟩, os, cap, rfl, m1, m2, m3.flat fun cs x hr => hr⟩
/-- An argument that is a layout. -/
def LayArg (w : World) (v : Value) : Prop := ∃ (l : Lay) (os : Option Addr) (cs : Nat), v = layV l os l.sc.steps.length cs ∧ StpAt w l os cs
set_option maxRecDepth 100000 in
theorem opens_lay (w : World) : Opens Try.prog w 26 (fun cs (v : Value) => v.cells.toList = cs ∧ LayArg w v) := by
  intro H enc sp held fuel cs x h
  obtain ⟨xs, n, _, _, hl, hlen, hf⟩ := DataW.trod_struct Try.underlying26 h
  rw [cellsLay] at hl
  match cs, hl with
  | [a0, a1, a2, a3, a4, a5, a6, a7, a8, a9, a10], _ =>
    have l9 : xs.length = 9 := hlen
    have e0 := (hf 0 _ rfl).trans (List.getElem?_eq_getElem (by omega))
    have e1 := (hf 1 _ rfl).trans (List.getElem?_eq_getElem (by omega))
    have e2 := (hf 2 _ rfl).trans (List.getElem?_eq_getElem (by omega))
    have e3 := (hf 3 _ rfl).trans (List.getElem?_eq_getElem (by omega))
    have e4 := (hf 4 _ rfl).trans (List.getElem?_eq_getElem (by omega))
    have e5 := (hf 5 _ rfl).trans (List.getElem?_eq_getElem (by omega))
    have e6 := (hf 6 _ rfl).trans (List.getElem?_eq_getElem (by omega))
    have e7 := (hf 7 _ rfl).trans (List.getElem?_eq_getElem (by omega))
    have e8 := (hf 8 _ rfl).trans (List.getElem?_eq_getElem (by omega))
    obtain ⟨s, os, cap, h0, m1, m2, m3⟩ := opens_scheme w _ _ _ _ _ _ _ e0
    obtain ⟨p1, h1, _, _⟩ := DataW.trod_int Try.underlying3 e1
    obtain ⟨p2, h2, _, _⟩ := DataW.trod_int Try.underlying3 e2
    obtain ⟨p3, h3, _, _⟩ := DataW.trod_int Try.underlying3 e3
    obtain ⟨p4, h4, _, _⟩ := DataW.trod_int Try.underlying3 e4
    obtain ⟨p5, h5, _, _⟩ := DataW.trod_int Try.underlying3 e5
    obtain ⟨p6, h6, _, _⟩ := DataW.trod_int Try.underlying3 e6
    obtain ⟨p7, h7, _, _⟩ := DataW.trod_int Try.underlying3 e7
    obtain ⟨p8, h8, _, _⟩ := DataW.trod_int Try.underlying3 e8
    simp [cellsI, cellsScheme] at h0 h1 h2 h3 h4 h5 h6 h7 h8
    obtain ⟨h01, h02, h03⟩ := h0
    subst h01 h02 h03 h1 h2 h3 h4 h5 h6 h7 h8
    exact ⟨layV ⟨s, p1, p2, p3, p4, p5, p6, p7, p8⟩ os s.steps.length cap, rfl, ⟨s, p1, p2, p3, p4, p5, p6, p7, p8⟩, os, cap, rfl, m3, by show s.steps.length ≤ _; omega, m1⟩
set_option maxRecDepth 100000 in
theorem open_lay {H : Type} {enc : TypeId × Value → H} {w : World} {sp : Nat → Bool} {held : Bool} {r : Reach} {b0 : Nat} {v : Value} {d : DataW H} {ps : List MemPlace}
    (hval : Value.okWide Try.prog w r b0 26 v) (hd : DataW.Trod enc Try.prog w 0 sp held 26 v d ps) : LayArg w v := by
  obtain ⟨cs, rfl, _⟩ := okWide_struct Try.underlying26 hval
  obtain ⟨fuel, hf⟩ := hd
  obtain ⟨v, hv, hD⟩ := opens_lay w _ _ _ _ _ _ _ hf
  have hD2 := hD
  obtain ⟨l, os, c, rfl, _⟩ := hD2
  have e : cs = #[.int .i64 l.sc.cols, .int .i64 l.sc.rows, .slice os l.sc.steps.length c, .int .i64 l.w, .int .i64 l.h, .int .i64 l.head, .int .i64 l.fore, .int .i64 l.spine, .int .i64 l.margin, .int .i64 l.creep, .int .i64 l.style] := by
    apply Array.toList_inj.1
    simpa [Value.cells] using hv.symm
  subst e
  exact hD
end Go.Proofs.Ytdblibjmgamjeaa
