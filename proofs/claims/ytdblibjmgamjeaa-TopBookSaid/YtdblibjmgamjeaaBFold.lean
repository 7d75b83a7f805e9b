/-
  The walk of bindery.Fold. Printed by gen_bfold.py. Own text.
-/
import Derived.Test.YtdblibjmgamjeaaPart5
import Derived.Test.YtdblibjmgamjeaaFrame
import Derived.Test.YtdblibjmgamjeaaTurnsR
namespace Go.Proofs.Ytdblibjmgamjeaa
open Go.RowKit
set_option linter.unusedVariables false
/-- A page's face of its leaf, as it lies when the leaf is turned back. -/
def faceP (l : Lay) (F B : Img) (p : Pg) : Img := turnI (cropI (if p.back = true then B else F) (l.margin + p.col * leafW l) (l.margin + p.row * leafH l) (leafW l).toNat (leafH l).toNat) (4 - p.turn)
def pg0 : Pg := ⟨false, 0, 0, 0⟩
def leafAt (l : Lay) (F B : Img) (ps : List Pg) (i : Nat) : Img × Img := (faceP l F B (ps.getD (i + i) pg0), faceP l F B (ps.getD (i + i + 1) pg0))
/-- The leaves from top to bottom. -/
def leafRow (l : Lay) (F B : Img) (ps : List Pg) (n : Nat) : List (Img × Img) := (List.range n).map (leafAt l F B ps)
theorem elemBl : ElemType Try.prog 101 (.agg #[.int .i64 0, .int .i64 0, .slice none 0 0, .int .i64 0, .int .i64 0, .slice none 0 0]) 6 80 := ElemType.mk (by kernel_rfl) rfl (by decide)
/-- Leaves are returned, and 0. -/
def RetBl (ss : List (Img × Img)) (w : World) (e : Ending) (w' : World) : Prop := ∃ us oa c, e = .returned (.tuple #[.slice oa ss.length c, .int .i64 0]) ∧ RowB w' oa us ss ∧ Below w.heap.size w w'
theorem px_high {Z : Nat} {w w' : World} {o : Option Addr} {n c : Nat} {xs : List Int} (h : PxAt w o n c xs) (h0 : 0 < xs.length) (h1 : ∀ g, (Value.slice o n c).ownBlock = some g → Z ≤ g) (hz : HighZ Z w w') : PxAt w' o n c xs :=
  px_heap h fun g hg => hz.2 g (h1 g hg) (h.lt h0 hg)
/-- A face in the faces' variable. -/
def FaceF (w : World) (g : Nat) (f : Nat → Value) (d : Nat) (A : Img) : Prop := f d = .int .i64 A.W ∧ f (d + 1) = .int .i64 A.H ∧ ∃ o c, f (d + 2) = .slice o (listI A).length c ∧ PxAt w o (listI A).length c (listI A) ∧ ∀ h, (Value.slice o (listI A).length c).ownBlock = some h → g + 1 ≤ h
theorem FaceF.high {w w' : World} {g d : Nat} {f f' : Nat → Value} {A : Img} (h : FaceF w g f d A) (hA : Sized A) (hz : HighZ (g + 1) w w') (h0 : f' d = f d) (h1 : f' (d + 1) = f (d + 1)) (h2 : f' (d + 2) = f (d + 2)) : FaceF w' g f' d A := by
  obtain ⟨a, b, o, c, e, p, q⟩ := h
  exact ⟨h0.trans a, h1.trans b, o, c, h2.trans e, px_high p (px_len hA).1 q hz, q⟩
theorem face_sized {l : Lay} {x : Sht} (hx : Good l x) (F B : Img) (p : Pg) : Sized (faceP l F B p) ∧ (0 ≤ p.turn ∧ p.turn < 4 → p.turn % 2 = turnV (sideV l.sc) % 2 → ((faceP l F B p).W : Int) = l.w + l.fore + l.spine ∧ ((faceP l F B p).H : Int) = l.h + 2 * l.head) := by
  have hl := leaf_bd hx.rng
  have hc : Sized (cropI (if p.back = true then B else F) (l.margin + p.col * leafW l) (l.margin + p.row * leafH l) (leafW l).toNat (leafH l).toNat) :=
    ⟨by show 1 ≤ (leafW l).toNat; omega, by show (leafW l).toNat ≤ 1024; omega, by show 1 ≤ (leafH l).toNat; omega, by show (leafH l).toNat ≤ 1024; omega⟩
  refine ⟨turn_sized hc _, fun ht hp => ?_⟩
  have e1 : leafW l = if lies l = true then l.h + 2 * l.head else l.w + l.fore + l.spine := rfl
  have e2 : leafH l = if lies l = true then l.w + l.fore + l.spine else l.h + 2 * l.head := rfl
  have hli : lies l = (turnV (sideV l.sc) % 2 == 1) := rfl
  rw [← hp] at hli
  unfold faceP
  have h4 : p.turn = 0 ∨ p.turn = 1 ∨ p.turn = 2 ∨ p.turn = 3 := by omega
  rcases h4 with h | h | h | h <;> rw [h] at hli ⊢
  · have hn : ¬ lies l = true := by rw [hli]; decide
    rw [if_neg hn] at e1 e2
    constructor
    · show ((leafW l).toNat : Int) = _; omega
    · show ((leafH l).toNat : Int) = _; omega
  · have hn : lies l = true := by rw [hli]; decide
    rw [if_pos hn] at e1 e2
    constructor
    · show ((leafH l).toNat : Int) = _; omega
    · show ((leafW l).toNat : Int) = _; omega
  · have hn : ¬ lies l = true := by rw [hli]; decide
    rw [if_neg hn] at e1 e2
    constructor
    · show ((leafW l).toNat : Int) = _; omega
    · show ((leafH l).toNat : Int) = _; omega
  · have hn : lies l = true := by rw [hli]; decide
    rw [if_pos hn] at e1 e2
    constructor
    · show ((leafH l).toNat : Int) = _; omega
    · show ((leafW l).toNat : Int) = _; omega
abbrev LU (w : World) (B : Nat) (v : Value) (us : List RawB) (ss : List (Img × Img)) : Prop := RowsU encRb blkB RelB 101 6 w B v us ss
set_option maxRecDepth 100000 in
set_option maxHeartbeats 64000000 in
theorem bfold_any (l : Lay) (x : Sht) (hx : Good l x) (os : Option Addr) (cs : Nat) (F B : Img) (hF : F.W = oW l ∧ F.H = oH l) (hB : B.W = oW l ∧ B.H = oH l) (hSZ : Sized F) (oF oB : Option Addr) (kF kB : Nat) (w : World) (hs : StpAt w l os cs) (hpF : PxAt w oF (listI F).length kF (listI F)) (hpB : PxAt w oB (listI B).length kB (listI B)) :
    Calls Try.prog 15 #[.agg #[.int .i64 F.W, .int .i64 F.H, .slice oF (listI F).length kF, .int .i64 B.W, .int .i64 B.H, .slice oB (listI B).length kB], layV l os l.sc.steps.length cs] w (RetBl (leafRow l F B (pagesV l.sc x) (leavesV l.sc)) w) := by
  have hr := hx.rng
  have hob := one_bd hx.f hr
  have hop := one_pos hx
  have hlb := leaf_bd hr
  have hlv := leaves_bd hx.f.inn
  have hpl := hx.f.plen
  have HFS := Lib.hid (fun p => face_sized hx F B p)
  have HCK : Hid (∀ W, Below w.heap.size w W → Calls Try.prog 7 #[layV l os l.sc.steps.length cs] W (RetCode (GoodL l) W)) := fun W hb => icheck_any l os cs W (hs.below hb)
  have HFR : Hid (∀ W, Below w.heap.size w W → Calls Try.prog 34 #[layV l os l.sc.steps.length cs] W fun e w' => e = .returned (frameV l) ∧ Below W.heap.size W w') := fun W hb => frame_any l x hx os cs W (hs.below hb)
  have HPG : Hid (∀ W, Below w.heap.size w W → Calls Try.prog 20 #[.agg #[.int .i64 l.sc.cols, .int .i64 l.sc.rows, .slice os l.sc.steps.length cs]] W (RetPages l.sc W)) := fun W hb => pages_any l.sc os cs W (hs.f.below hb) hs.m hs.c
  have HGL : Hid (GoodL l) := ⟨x, hx⟩
  obtain ⟨A, hA⟩ : ∃ q, q = l.w + l.fore + l.spine := ⟨_, rfl⟩
  obtain ⟨Bh, hBh⟩ : ∃ q, q = l.h + 2 * l.head := ⟨_, rfl⟩
  obtain ⟨SW, hSW⟩ : ∃ q, q = oneW l := ⟨_, rfl⟩
  obtain ⟨SH, hSH⟩ : ∃ q, q = oneH l := ⟨_, rfl⟩
  have eFW : (F.W : Int) = SW := by rw [hF.1, hSW]; unfold oW; omega
  have eFH : (F.H : Int) = SH := by rw [hF.2, hSH]; unfold oH; omega
  have eBW : (B.W : Int) = SW := by rw [hB.1, hSW]; unfold oW; omega
  have eBH : (B.H : Int) = SH := by rw [hB.2, hSH]; unfold oH; omega
  have hBZ : Sized B := ⟨by rw [hB.1, ← hF.1]; exact hSZ.1, by rw [hB.1, ← hF.1]; exact hSZ.2.1, by rw [hB.2, ← hF.2]; exact hSZ.2.2.1, by rw [hB.2, ← hF.2]; exact hSZ.2.2.2⟩
  have HSD : Hid (∀ W, Below w.heap.size w W → Calls Try.prog 29 #[.agg #[.int .i64 SW, .int .i64 SH, .slice oF (listI F).length kF], .agg #[.int .i64 SW, .int .i64 SH, .slice oB (listI B).length kB]] W fun e w' => e = .returned (.int .i64 0) ∧ Below W.heap.size W w') := fun W hb => by
    have h := sides_any F B hSZ (by rw [hB.1, hF.1]) (by rw [hB.2, hF.2]) oF oB kF kB W (hpF.below hb) (hpB.below hb)
    rw [eFW, eFH, eBW, eBH] at h
    exact h
  have HPT : Hid (∀ W (back : Bool), Below w.heap.size w W → PxAt W (if back then oB else oF) (listI (if back then B else F)).length (if back then kB else kF) (listI (if back then B else F))) := fun W back hb => by
    cases back with
    | false => exact hpF.below hb
    | true => exact hpB.below hb
  obtain ⟨LW, hLW⟩ : ∃ q, q = leafW l := ⟨_, rfl⟩
  obtain ⟨LH, hLH⟩ : ∃ q, q = leafH l := ⟨_, rfl⟩
  have heW : SW = 2 * l.margin + l.sc.cols * LW := by rw [hSW, hLW]; rfl
  have heH : SH = 2 * l.margin + l.sc.rows * LH := by rw [hSH, hLH]; rfl
  have HLW : Hid (LW = if lies l = true then Bh else A) := by show _ = _; rw [hLW, hA, hBh]; rfl
  have HLH : Hid (LH = if lies l = true then A else Bh) := by show _ = _; rw [hLH, hA, hBh]; rfl
  have HLI : Hid (lies l = (turnV (sideV l.sc) % 2 == 1)) := rfl
  have hFV : frameV l = .agg #[.int .i64 A, .int .i64 Bh, .int .i64 SW, .int .i64 SH] := by rw [hA, hBh, hSW, hSH]
  have hmg := hr.margin
  have hbd : SW ≤ 3200 ∧ SH ≤ 3200 ∧ 1 ≤ LW ∧ 1 ≤ LH ∧ LW ≤ 384 ∧ LH ≤ 384 := by rw [hSW, hSH, hLW, hLH]; omega
  /- the place of a leaf -/
  have HCX : Hid (∀ p : Pg, PgIn l.sc.cols l.sc.rows (turnV (sideV l.sc)) p → ∃ a b : Nat, (a : Int) = l.margin + p.col * LW ∧ (b : Int) = l.margin + p.row * LH ∧ IntKind.i64.wrap (p.col * LW) = p.col * LW ∧ IntKind.i64.wrap (p.row * LH) = p.row * LH ∧ (a : Int) + LW ≤ SW ∧ (b : Int) + LH ≤ SH ∧ 0 ≤ p.col * LW ∧ 0 ≤ p.row * LH) := fun p hp => by
    have h1 : (p.col + 1) * LW ≤ l.sc.cols * LW := Int.mul_le_mul_of_nonneg_right (by have := hp.c.2; omega) (by omega)
    have h2 : (p.row + 1) * LH ≤ l.sc.rows * LH := Int.mul_le_mul_of_nonneg_right (by have := hp.r.2; omega) (by omega)
    have h3 : 0 ≤ p.col * LW := Int.mul_nonneg hp.c.1 (by omega)
    have h4 : 0 ≤ p.row * LH := Int.mul_nonneg hp.r.1 (by omega)
    rw [Int.add_mul, Int.one_mul] at h1 h2
    exact ⟨(l.margin + p.col * LW).toNat, (l.margin + p.row * LH).toNat, by omega, by omega, IntWalk.i64_in _ (by omega), IntWalk.i64_in _ (by omega), by omega, by omega, h3, h4⟩
  /- a face's part -/
  have HPA : Hid (∀ (p : Pg) (a b : Nat) W, PgIn l.sc.cols l.sc.rows (turnV (sideV l.sc)) p → (a : Int) = l.margin + p.col * LW → (b : Int) = l.margin + p.row * LH → (a : Int) + LW ≤ SW → (b : Int) + LH ≤ SH → Below w.heap.size w W → Calls Try.prog 30 #[.agg #[.int .i64 SW, .int .i64 SH, .slice (if p.back then oB else oF) (listI (if p.back then B else F)).length (if p.back then kB else kF)], .int .i64 (l.margin + p.col * LW), .int .i64 (l.margin + p.row * LH), .int .i64 LW, .int .i64 LH, .int .i64 (4 - p.turn)] W (RetGrid (faceP l F B p) W)) := fun p a b W hp ha hb h1 h2 hbW => by
    obtain ⟨wn, hwn⟩ : ∃ q : Nat, (q : Int) = LW := ⟨LW.toNat, by omega⟩
    obtain ⟨hn, hhn⟩ : ∃ q : Nat, (q : Int) = LH := ⟨LH.toNat, by omega⟩
    have hS : Sized (if p.back = true then B else F) := by split; exact hBZ; exact hSZ
    have hSS : ((if p.back = true then B else F).W : Int) = SW ∧ ((if p.back = true then B else F).H : Int) = SH := by
      split
      · exact ⟨eBW, eBH⟩
      · exact ⟨eFW, eFH⟩
    have h := part5_any (if p.back = true then B else F) hS (if p.back = true then oB else oF) (if p.back = true then kB else kF) a b wn hn (by omega) (by omega) (by omega) (by omega) (4 - p.turn) (by have := hp.t; omega) W (HPT.out W p.back hbW)
    have hf : faceP l F B p = turnI (cropI (if p.back = true then B else F) a b wn hn) (4 - p.turn) := by
      unfold faceP
      rw [ha, hb, hLW, hLH]
      have e1 : (leafW l).toNat = wn := by rw [← hLW]; omega
      have e2 : (leafH l).toNat = hn := by rw [← hLH]; omega
      rw [e1, e2]
    rw [← hf, hSS.1, hSS.2, ha, hb, hwn, hhn] at h
    exact h
  obtain ⟨m, hm⟩ : ∃ m, m = l.sc.steps.length := ⟨_, rfl⟩
  rw [hFV] at HFR
  rw [← hm] at HCK HFR HPG ⊢
  rw [eFW, eFH, eBW, eBH]
  obtain ⟨nF, hnF⟩ : ∃ q, q = (listI F).length := ⟨_, rfl⟩
  obtain ⟨nB, hnB⟩ : ∃ q, q = (listI B).length := ⟨_, rfl⟩
  rw [← hnF, ← hnB] at HSD ⊢
  have HNN : Hid (nF = (listI F).length ∧ nB = (listI B).length) := ⟨hnF, hnB⟩
  obtain ⟨W1, hW1⟩ : ∃ W1, W1 = (w.alloc (.cells #[.int .i64 SW, .int .i64 SH, .slice oF nF kF, .int .i64 SW, .int .i64 SH, .slice oB nB kB] 45)).alloc (layO l os m cs) := ⟨_, rfl⟩
  have hb1 : Below w.heap.size w W1 := by rw [hW1]; exact balloc (balloc (Below.refl _ w) _) _
  have hz1 : W1.heap.size = w.heap.size + 1 + 1 := by rw [hW1]; simp
  have ht1 : FTab (fun v : Value => v) W1 (w.heap.size + 1) 11 (layF l os m cs) := by
    have h := layF_new (w.alloc (.cells #[.int .i64 SW, .int .i64 SH, .slice oF nF kF, .int .i64 SW, .int .i64 SH, .slice oB nB kB] 45)) l os m cs 26
    rw [World.size_alloc] at h
    rw [hW1]; exact h
  have hsc : ∀ q, W1.cell? ⟨w.heap.size, q, none⟩ = (#[.int .i64 SW, .int .i64 SH, .slice oF nF kF, .int .i64 SW, .int .i64 SH, .slice oB nB kB] : Array Value)[q]? := fun q => by
    have hl : w.heap.size < (w.alloc (.cells #[.int .i64 SW, .int .i64 SH, .slice oF nF kF, .int .i64 SW, .int .i64 SH, .slice oB nB kB] 45)).heap.size := by simp
    rw [hW1, (balloc (Below.refl _ _) _).cell (p := ⟨w.heap.size, q, none⟩) hl]
    exact cell_of_row _ w.heap.size q _ 45 (0, 0) (heap_alloc_new w _)
  have HW1 : Hid ((w.alloc (.cells #[.int .i64 SW, .int .i64 SH, .slice oF nF kF, .int .i64 SW, .int .i64 SH, .slice oB nB kB] 45)).alloc (layO l os m cs) = W1) := hW1.symm
  unfold layO at HW1
  have HB1 := Lib.hid hb1
  have HZ1 := Lib.hid hz1
  have HC1 : Hid (∀ W, Below W1.heap.size W1 W → (W.cell? ⟨w.heap.size + 1, 0, none⟩ = some (.int .i64 l.sc.cols) ∧ W.cell? ⟨w.heap.size + 1, 1, none⟩ = some (.int .i64 l.sc.rows) ∧ W.cell? ⟨w.heap.size + 1, 2, none⟩ = some (.slice os m cs) ∧ W.cell? ⟨w.heap.size + 1, 3, none⟩ = some (.int .i64 l.w) ∧ W.cell? ⟨w.heap.size + 1, 4, none⟩ = some (.int .i64 l.h) ∧ W.cell? ⟨w.heap.size + 1, 5, none⟩ = some (.int .i64 l.head) ∧ W.cell? ⟨w.heap.size + 1, 6, none⟩ = some (.int .i64 l.fore) ∧ W.cell? ⟨w.heap.size + 1, 7, none⟩ = some (.int .i64 l.spine) ∧ W.cell? ⟨w.heap.size + 1, 8, none⟩ = some (.int .i64 l.margin) ∧ W.cell? ⟨w.heap.size + 1, 9, none⟩ = some (.int .i64 l.creep) ∧ W.cell? ⟨w.heap.size + 1, 10, none⟩ = some (.int .i64 l.style))) := fun W hb => by
    have h := ht1.below hb (by omega)
    exact ⟨h.at' 0 (by omega), h.at' 1 (by omega), h.at' 2 (by omega), h.at' 3 (by omega), h.at' 4 (by omega), h.at' 5 (by omega), h.at' 6 (by omega), h.at' 7 (by omega), h.at' 8 (by omega), h.at' 9 (by omega), h.at' 10 (by omega)⟩
  have HS1 : Hid (∀ W, Below W1.heap.size W1 W → (W.cell? ⟨w.heap.size, 0, none⟩ = some (.int .i64 SW) ∧ W.cell? ⟨w.heap.size, 1, none⟩ = some (.int .i64 SH) ∧ W.cell? ⟨w.heap.size, 2, none⟩ = some (.slice oF nF kF) ∧ W.cell? ⟨w.heap.size, 3, none⟩ = some (.int .i64 SW) ∧ W.cell? ⟨w.heap.size, 4, none⟩ = some (.int .i64 SH) ∧ W.cell? ⟨w.heap.size, 5, none⟩ = some (.slice oB nB kB))) := fun W hb => ⟨keepCell hb ((hsc 0).trans rfl), keepCell hb ((hsc 1).trans rfl), keepCell hb ((hsc 2).trans rfl), keepCell hb ((hsc 3).trans rfl), keepCell hb ((hsc 4).trans rfl), keepCell hb ((hsc 5).trans rfl)⟩
  obtain ⟨N, hN⟩ : ∃ q, q = leavesV l.sc := ⟨_, rfl⟩
  obtain ⟨ps, hps⟩ : ∃ q, q = pagesV l.sc x := ⟨_, rfl⟩
  obtain ⟨PL, hPL⟩ : ∃ q, q = ps.length := ⟨_, rfl⟩
  have hPN : PL = N + N := by rw [hPL, hps, hN, hpl]; omega
  have hPB : PL ≤ 64 := by omega
  have HPI : Hid (∀ i (h : i < ps.length), PgIn l.sc.cols l.sc.rows (turnV (sideV l.sc)) ps[i]) := by
    show ∀ i (h : i < ps.length), _
    rw [hps]
    exact fun i h => hx.f.pgin h
  have HPS := Lib.hid hps
  have HX := Lib.hid hx.f
  have HNL := Lib.hid hN
  have HPL := Lib.hid hPL
  have HPN := Lib.hid hPN
  rw [← hN, ← hps]
  clear hW1 hb1 hz1 ht1 hsc hx hr hob hop hlb hlv hpl hF hB hSZ hBZ hs hpF hpB hA hBh hSW hSH eFW eFH eBW eBH hLW hLH heW heH hFV hm hnF hnB hN hps hPL hPN HPT
  go_enter Try.func15, Try.ntmps15
  go_upto_region 1 with fail
  rw [HW1.out]
  clear HW1
  obtain ⟨c0, c1, c2, c3, c4, c5, c6, c7, c8, c9, c10⟩ := HC1.out W1 (Below.refl _ W1)
  have HL := Lib.hid (HCK.out W1 HB1.out)
  clear HCK
  go_wp2_with fail
  refine HL.out.mono ?_
  intro e w2 hret
  obtain ⟨rfl, hb2⟩ := hret.ok HGL.out
  have HB2 := Lib.hid hb2
  clear c0 c1 c2 c3 c4 c5 c6 c7 c8 c9 c10 HL hb2 hret
  obtain ⟨s0, s1, s2, s3, s4, s5⟩ := HS1.out w2 HB2.out
  have HSD2 := Lib.hid (HSD.out w2 (bthen HB1.out HB2.out))
  clear HSD
  go_wp2_with fail
  refine HSD2.out.mono ?_
  rintro e w3 ⟨rfl, hb3⟩
  have HB3 := Lib.hid (bthen HB2.out hb3)
  clear s0 s1 s2 s3 s4 s5 HSD2 hb3
  obtain ⟨c0, c1, c2, c3, c4, c5, c6, c7, c8, c9, c10⟩ := HC1.out w3 HB3.out
  have HFR3 := Lib.hid (HFR.out w3 (bthen HB1.out HB3.out))
  clear HFR
  go_wp2_with fail
  refine HFR3.out.mono ?_
  rintro e w4 ⟨rfl, hb4⟩
  clear c0 c1 c2 c3 c4 c5 c6 c7 c8 c9 c10 HFR3
  obtain ⟨W5, hW5⟩ : ∃ W5, W5 = w4.alloc (.cells #[.int .i64 A, .int .i64 Bh, .int .i64 SW, .int .i64 SH] 95) := ⟨_, rfl⟩
  have hb45 : Below w4.heap.size w4 W5 := by rw [hW5]; exact balloc (Below.refl _ w4) _
  have ht8 : FTab (fun v : Value => v) W5 w4.heap.size 4 (fmF (.int .i64 A) (.int .i64 Bh) (.int .i64 SW) (.int .i64 SH)) := by rw [hW5]; exact fmF_new w4 _ _ _ _ _
  have hl8 : w4.heap.size < W5.heap.size := by rw [hW5]; simp
  obtain ⟨g8, hg8⟩ : ∃ g, g = w4.heap.size := ⟨_, rfl⟩
  have HW5 := Lib.hid hW5
  have HB5 := Lib.hid (bthen HB3.out (bthen hb4 hb45))
  rw [← hg8] at ht8 hl8
  have HT8 := Lib.hid ht8
  have HL8 := Lib.hid hl8
  clear hW5 hb4 hb45 ht8 hl8
  dsimp only
  go_upto_region 8 with fail
  rw [← HW5.out]
  clear HW5
  rw [← hg8]
  clear hg8
  obtain ⟨s0, s1, s2, s3, s4, s5⟩ := HS1.out W5 HB5.out
  obtain ⟨c0, c1, c2, c3, c4, c5, c6, c7, c8, c9, c10⟩ := HC1.out W5 HB5.out
  have f2 : W5.cell? ⟨g8, 2, none⟩ = some (.int .i64 SW) := HT8.out.at' 2 (by omega)
  have f3 : W5.cell? ⟨g8, 3, none⟩ = some (.int .i64 SH) := HT8.out.at' 3 (by omega)
  have HP := Lib.hid (HPG.out W5 (bthen HB1.out HB5.out))
  clear HPG
  go_wp2_with fail
  refine HP.out.mono ?_
  intro e w6 hret
  obtain ⟨hb6, oa, cap, he, hcap, hfl⟩ := hret.ok HX.out
  rw [← HPS.out, ← HPL.out] at he hcap
  subst he
  rw [← HPS.out] at hfl
  clear c0 c1 c2 c3 c4 c5 c6 c7 c8 c9 c10 s0 s1 s2 s3 s4 s5 f2 f3 hret HP
  have HB6 := Lib.hid (bthen HB5.out hb6)
  have HB56 := Lib.hid hb6
  have HFL := Lib.hid hfl
  obtain ⟨pb, poff, rfl⟩ : ∃ b off, oa = some ⟨b, off, none⟩ := by
    obtain ⟨b, off, e, -⟩ := hfl.pg (i := 0) (by have := HX.out.plen; have := leaves_bd HX.out.inn; rw [HPS.out]; omega)
    exact ⟨b, off, e⟩
  clear hb6 hfl
  dsimp only
  go_wp2_with fail
  go_loopw [11, 12] (fun v i wr => ∃ j k : Nat, i = .int .i64 j ∧ ∃ o c, v = .slice o k c ∧ Hid (j = k + k ∧ k ≤ N ∧ Below w6.heap.size w6 wr ∧ ∃ us, LU wr w6.heap.size (.slice o k c) us (leafRow l F B ps k))) (fun _ i _ => PL + 2 - (intOf i).toNat)
  case atStart => exact ⟨0, 0, rfl, none, 0, rfl, rfl, by omega, Below.refl _ _, [], RowsU.nil _ _⟩
  case round =>
    obtain ⟨j, k, rfl, o, c, rfl, HY⟩ := hrel
    obtain ⟨wa, rfl⟩ : ∃ wa : World, wa = wr := ⟨_, rfl⟩
    obtain ⟨hjk, hkN, hbw, us, hu⟩ := HY.out
    clear HY
    have hPN := HPN.out
    by_cases hlt : j < PL
    · have kd : (j : Int) < (PL : Int) := by omega
      have y1 : j ≤ cap := by omega
      have y2 : j + 2 ≤ cap := by omega
      have y3 : ¬ cap = j := by omega
      have y4 : j ≤ j + 2 := by omega
      obtain ⟨g, hg⟩ : ∃ g, g = wa.heap.size := ⟨_, rfl⟩
      obtain ⟨wb, hwb⟩ : ∃ wb, wb = wa.alloc (.cells #[.int .i64 0, .int .i64 0, .slice none 0 0, .int .i64 0, .int .i64 0, .slice none 0 0] 97) := ⟨_, rfl⟩
      have hbb : Below wa.heap.size wa wb := by rw [hwb]; exact balloc (Below.refl _ wa) _
      have hfb : ∃ f, FTab (fun v : Value => v) wb g 6 f := by
        refine ⟨fun i => (#[.int .i64 0, .int .i64 0, .slice none 0 0, .int .i64 0, .int .i64 0, .slice none 0 0] : Array Value).getD i (.int .i64 0), fun i hi => ?_, fun o => ?_⟩
        · rw [hwb, hg, cell_of_row _ wa.heap.size i _ _ (0, 0) (heap_alloc_new wa _)]
          match i, hi with
          | 0, _ => rfl
          | 1, _ => rfl
          | 2, _ => rfl
          | 3, _ => rfl
          | 4, _ => rfl
          | 5, _ => rfl
        · unfold World.frozen?
          rw [hwb, hg, heap_alloc_new]
          simp
      have hgl : g < wb.heap.size := by rw [hwb, hg]; simp
      have HWB := Lib.hid hwb
      have HU := Lib.hid hu
      have HBW := Lib.hid hbw
      obtain ⟨p, hp⟩ : ∃ q, q = ps.getD j pg0 := ⟨_, rfl⟩
      obtain ⟨q, hq⟩ : ∃ q, q = ps.getD (j + 1) pg0 := ⟨_, rfl⟩
      have hj0 : j < ps.length := by rw [← HPL.out]; omega
      have hj1 : j + 1 < ps.length := by rw [← HPL.out]; omega
      have hp' : ps[j] = p := by rw [hp, List.getD_eq_getElem?_getD, List.getElem?_eq_getElem hj0]; rfl
      have hq' : ps[j + 1] = q := by rw [hq, List.getD_eq_getElem?_getD, List.getElem?_eq_getElem hj1]; rfl
      have HLE : Hid (leafRow l F B ps (k + 1) = leafRow l F B ps k ++ [(faceP l F B p, faceP l F B q)]) := by
        show _ = _
        unfold leafRow
        rw [List.range_succ, List.map_append, hp, hq, hjk]
        rfl
      have hpi := HPI.out j hj0
      have hqi := HPI.out (j + 1) hj1
      rw [hp'] at hpi
      rw [hq'] at hqi
      have HPC : Hid (∀ W, Below w6.heap.size w6 W → (W.cell? ⟨pb, poff + j * 4, none⟩ = some (.bool p.back) ∧ W.cell? ⟨pb, poff + j * 4 + 1, none⟩ = some (.int .i64 p.col) ∧ W.cell? ⟨pb, poff + j * 4 + 2, none⟩ = some (.int .i64 p.row) ∧ W.cell? ⟨pb, poff + j * 4 + 3, none⟩ = some (.int .i64 p.turn)) ∧ (W.cell? ⟨pb, poff + j * 4 + 4, none⟩ = some (.bool q.back) ∧ W.cell? ⟨pb, poff + j * 4 + 4 + 1, none⟩ = some (.int .i64 q.col) ∧ W.cell? ⟨pb, poff + j * 4 + 4 + 2, none⟩ = some (.int .i64 q.row) ∧ W.cell? ⟨pb, poff + j * 4 + 4 + 3, none⟩ = some (.int .i64 q.turn))) := fun W hb => by
        obtain ⟨b1, o1, e1, a0, a1, a2, a3⟩ := (HFL.out.below hb).pg hj0
        obtain ⟨b2, o2, e2, d0, d1, d2, d3⟩ := (HFL.out.below hb).pg hj1
        simp only [Option.some.injEq, Addr.mk.injEq, and_true] at e1 e2
        obtain ⟨rfl, rfl⟩ := e1
        obtain ⟨rfl, rfl⟩ := e2
        rw [hp'] at a0 a1 a2 a3
        rw [hq', show poff + (j + 1) * 4 = poff + j * 4 + 4 by omega] at d0 d1 d2 d3
        exact ⟨⟨a0, a1, a2, a3⟩, d0, d1, d2, d3⟩
      have HFB : Hid (Below wa.heap.size wa wb ∧ g < wb.heap.size ∧ HighZ (g + 1) wb wb ∧ ∃ f, FTab (fun v : Value => v) wb g 6 f) := ⟨hbb, hgl, ⟨Nat.le_refl _, fun _ _ _ => rfl⟩, hfb⟩
      have HGA := Lib.hid hg
      have HJK : Hid (j = k + k ∧ k < N) := ⟨hjk, by omega⟩
      clear hwb hbb hfb hgl hu hbw hp hq hp' hq' hjk hkN hj0 hj1 hlt hPN
      go_upto_region 16 with fail
      rw [← HWB.out]
      clear HWB
      rw [← hg]
      clear hg
      go_wp2_with fail
      rw [show j + 2 - j = 2 by omega]
      go_loopw [66] (fun i wr => ∃ r : Nat, r ≤ 2 ∧ i = .int .i64 r ∧ Hid (Below wa.heap.size wa wr ∧ g < wr.heap.size ∧ ∃ f, FTab (fun v : Value => v) wr g 6 f ∧ (1 ≤ r → FaceF wr g f 0 (faceP l F B p)) ∧ (2 ≤ r → FaceF wr g f 3 (faceP l F B q)))) (fun i _ => 2 - (intOf i).toNat)
      case atStart =>
        obtain ⟨h1, h2, -, f, h3⟩ := HFB.out
        exact ⟨0, by omega, rfl, h1, h2, f, h3, fun h => absurd h (by decide), fun h => absurd h (by decide)⟩
      case round =>
        clear HFB
        obtain ⟨r, hr', rfl, HZ⟩ := hrel
        obtain ⟨wc, rfl⟩ : ∃ wc : World, wc = wr := ⟨_, rfl⟩
        obtain ⟨hbc, hgc, f, hfc, hf1, hf2⟩ := HZ.out
        clear HZ
        have h3 : r = 0 ∨ r = 1 ∨ r = 2 := by omega
        clear hr'
        rcases h3 with rfl | rfl | rfl
        · obtain ⟨⟨l0, l1, l2, l3⟩, -⟩ := HPC.out wc (bthen HBW.out hbc)
          obtain ⟨a, b, hae, hbe, xw, xh, ha2, hb2', hc0, hr0⟩ := HCX.out p hpi
          obtain ⟨wd, hwd⟩ : ∃ wd, wd = wc.alloc (.cells #[.bool p.back, .int .i64 p.col, .int .i64 p.row, .int .i64 p.turn] 99) := ⟨_, rfl⟩
          have hbd1 : Below wc.heap.size wc wd := by rw [hwd]; exact balloc (Below.refl _ wc) _
          have ht15 : FTab (fun v : Value => v) wd wc.heap.size 4 (pgF (.bool p.back) (.int .i64 p.col) (.int .i64 p.row) (.int .i64 p.turn)) := by rw [hwd]; exact pgF_new wc _ _ _ _ _
          have hl15 : wc.heap.size < wd.heap.size := by rw [hwd]; simp
          obtain ⟨we, hwe⟩ : ∃ we, we = wd.alloc (.cells #[.int .i64 SW, .int .i64 SH, .slice oF nF kF] 37) := ⟨_, rfl⟩
          have hbd2 : Below wd.heap.size wd we := by rw [hwe]; exact balloc (Below.refl _ wd) _
          have ht16 : FTab (fun v : Value => v) we wd.heap.size 3 (outF (.int .i64 SW) (.int .i64 SH) (.slice oF nF kF)) := by rw [hwe]; exact outF_new wd _ _ _ _
          have hl16 : wd.heap.size < we.heap.size := by rw [hwe]; simp
          obtain ⟨g15, hg15⟩ : ∃ q, q = wc.heap.size := ⟨_, rfl⟩
          obtain ⟨g16, hg16⟩ : ∃ q, q = wd.heap.size := ⟨_, rfl⟩
          have HWD := Lib.hid hwd
          have HWE := Lib.hid hwe
          rw [← hg15] at ht15 hl15
          rw [← hg16] at ht16 hl16
          have HT15 := Lib.hid (ht15.below hbd2 hl15)
          have HT16 := Lib.hid ht16
          have HL16 : Hid (g15 < we.heap.size ∧ g16 < we.heap.size ∧ g < g15 ∧ g15 < g16 ∧ wc.heap.size ≤ g15) := ⟨by have := hbd2.size; omega, hl16, by omega, by omega, by omega⟩
          have HBE := Lib.hid (bthen hbd1 hbd2)
          have HBC := Lib.hid hbc
          have HGC := Lib.hid hgc
          have HFC := Lib.hid hfc
          have HF1 := Lib.hid hf1
          have HBD := Lib.hid hbd1
          have HAB : Hid ((a : Int) = l.margin + p.col * LW ∧ (b : Int) = l.margin + p.row * LH ∧ (a : Int) + LW ≤ SW ∧ (b : Int) + LH ≤ SH) := ⟨hae, hbe, ha2, hb2'⟩
          have tt := hpi.t
          have HPI' := Lib.hid hpi
          have xa : IntKind.i64.wrap (l.margin + p.col * LW) = l.margin + p.col * LW := IntWalk.i64_in _ (by omega)
          have xb : IntKind.i64.wrap (l.margin + p.row * LH) = l.margin + p.row * LH := IntWalk.i64_in _ (by omega)
          have xt : IntKind.i64.wrap (4 - p.turn) = 4 - p.turn := IntWalk.i64_in _ (by omega)
          clear hwd hwe hbd1 hbd2 ht15 ht16 hl15 hl16 hbc hgc hfc hf1 hf2 hae hbe ha2 hb2'
          go_upto_region 19 with fail
          rw [← HWD.out]
          clear HWD l0 l1 l2 l3
          rw [← hg15]
          obtain ⟨s0, s1, s2, s3, s4, s5⟩ := HS1.out wd (bthen HB6.out (bthen HBW.out (bthen HBC.out HBD.out)))
          go_upto_region 20 with fail
          rw [← HWE.out]
          clear HWE s0 s1 s2 s3 s4 s5
          rw [← hg16]
          clear hg15 hg16
          have m0 : we.cell? ⟨g15, 0, none⟩ = some (.bool p.back) := HT15.out.at' 0 (by omega)
          have hbwe : Below W1.heap.size W1 we := bthen HB6.out (bthen HBW.out (bthen HBC.out HBE.out))
          obtain ⟨s0, s1, s2, s3, s4, s5⟩ := HS1.out we hbwe
          have HBWE := Lib.hid hbwe
          clear hbwe
          rcases Bool.eq_false_or_eq_true p.back with hbq | hbq
          · by_cases hod : p.turn % 2 = 1
            · have hbk : p.back = true := hbq
              rw [hbk] at m0
              have e0 : we.cell? ⟨g16, 0, none⟩ = some (.int .i64 SW) := HT16.out.at' 0 (by omega)
              have e1 : we.cell? ⟨g16, 1, none⟩ = some (.int .i64 SH) := HT16.out.at' 1 (by omega)
              have e2 : we.cell? ⟨g16, 2, none⟩ = some (.slice oF nF kF) := HT16.out.at' 2 (by omega)
              have ef := HT16.out.fz
              have hrs := res_set (x := .int .i64 SW) (y := .int .i64 SH) (z := .slice oB nB kB) HT16.out
              obtain ⟨wf, hwf⟩ : ∃ wf, wf = resW we g16 (.int .i64 SW) (.int .i64 SH) (.slice oB nB kB) := ⟨_, rfl⟩
              rw [← hwf] at hrs
              have HWF : Hid (((we.setCell ⟨g16, 0, none⟩ (.int .i64 SW)).setCell ⟨g16, 1, none⟩ (.int .i64 SH)).setCell ⟨g16, 2, none⟩ (.slice oB nB kB) = wf) := hwf.symm
              have hbf : Below wc.heap.size wc wf := hrs.bel HBE.out (by have := HL16.out; have := HGC.out; have := HBE.out.size; have := HBD.out.size; omega)
              have d0 : wf.cell? ⟨g16, 0, none⟩ = some (.int .i64 SW) := hrs.c0
              have d1 : wf.cell? ⟨g16, 1, none⟩ = some (.int .i64 SH) := hrs.c1
              have d2 : wf.cell? ⟨g16, 2, none⟩ = some (.slice oB nB kB) := hrs.c2
              have h15 : FTab (fun v : Value => v) wf g15 4 (pgF (.bool p.back) (.int .i64 p.col) (.int .i64 p.row) (.int .i64 p.turn)) := HT15.out.heap (hrs.hp g15 (by have := HL16.out; omega))
              have hsz : wf.heap.size = we.heap.size := hrs.sz
              clear hwf
              go_upto_region 22 with fail
              rw [HWF.out]
              clear HWF e0 e1 e2 ef s0 s1 s2 s3 s4 s5 m0
              have HBF := Lib.hid hbf
              have HD : Hid (wf.cell? ⟨g16, 0, none⟩ = some (.int .i64 SW) ∧ wf.cell? ⟨g16, 1, none⟩ = some (.int .i64 SH) ∧ wf.cell? ⟨g16, 2, none⟩ = some (.slice oB nB kB)) := ⟨d0, d1, d2⟩
              have H15 := Lib.hid h15
              have HSZ := Lib.hid hsz
              clear hbf d0 d1 d2 h15 hsz hrs
              have h8 := HT8.out.below (HB56.out.trans ((HBW.out.trans ((HBC.out.trans (HBF.out.mono HBC.out.size)).mono HBW.out.size)).mono HB56.out.size)) HL8.out
              have q0 : wf.cell? ⟨g8, 0, none⟩ = some (.int .i64 A) := h8.at' 0 (by omega)
              have q1 : wf.cell? ⟨g8, 1, none⟩ = some (.int .i64 Bh) := h8.at' 1 (by omega)
              clear h8
              go_quiet (fail)
              clear q0 q1
              have HBH : Hid (Below wf.heap.size wf (wf.drewN nq)) := bdrewN (Below.refl _ wf) nq
              generalize wf.drewN nq = wh at *
              have hth := H15.out.below HBH.out (by have := HSZ.out; have := HL16.out; omega)
              have n1 : wh.cell? ⟨g15, 1, none⟩ = some (.int .i64 p.col) := hth.at' 1 (by omega)
              have n2 : wh.cell? ⟨g15, 2, none⟩ = some (.int .i64 p.row) := hth.at' 2 (by omega)
              have n3 : wh.cell? ⟨g15, 3, none⟩ = some (.int .i64 p.turn) := hth.at' 3 (by omega)
              have d0 := keepCell HBH.out HD.out.1
              have d1 := keepCell HBH.out HD.out.2.1
              have d2 := keepCell HBH.out HD.out.2.2
              have hbch : Below wc.heap.size wc wh := bthen HBF.out HBH.out
              obtain ⟨-, -, -, -, -, -, -, -, c8, -⟩ := HC1.out wh (bthen HB6.out (bthen HBW.out (bthen HBC.out hbch)))
              have HBCH := Lib.hid hbch
              clear hth hbch
              have t1 : (p.turn % 2 == 1) = true := by simpa using hod
              have hli : lies l = true := by
                rw [HLI.out, ← HPI'.out.par]; exact t1
              have hW' := HLW.out
              have hH' := HLH.out
              rw [if_pos hli] at hW' hH'
              have HPAp : Hid (Calls Try.prog 30 #[.agg #[.int .i64 SW, .int .i64 SH, .slice oB nB kB], .int .i64 (l.margin + p.col * LW), .int .i64 (l.margin + p.row * LH), .int .i64 LW, .int .i64 LH, .int .i64 (4 - p.turn)] wh (RetGrid (faceP l F B p) wh)) := by
                have h := HPA.out p a b wh HPI'.out HAB.out.1 HAB.out.2.1 HAB.out.2.2.1 HAB.out.2.2.2 (bthen HB1.out (bthen HB6.out (bthen HBW.out (bthen HBC.out HBCH.out))))
                rw [hbk] at h
                rw [HNN.out.2]
                exact h
              clear hli
              obtain rfl : Bh = LW := hW'.symm
              obtain rfl : A = LH := hH'.symm
              clear hod
              go_wp2_with fail
              refine HPAp.out.mono ?_
              intro e wi hret
              obtain ⟨oi, ki, rfl, howni, hbi⟩ := hret
              obtain ⟨C, hC⟩ : ∃ C, C = faceP l F B p := ⟨_, rfl⟩
              rw [← hC] at howni ⊢
              obtain ⟨nC, hnC⟩ : ∃ q, q = (listI C).length := ⟨_, rfl⟩
              rw [← hnC] at howni ⊢
              have hCZ : Sized C := by rw [hC]; exact (HFS.out p).1
              have hbci : Below wc.heap.size wc wi := bthen HBCH.out hbi
              have hfi := HFC.out.below hbci HGC.out
              have k0 : wi.cell? ⟨g, 0, none⟩ = some (f 0) := hfi.at' 0 (by omega)
              have k1 : wi.cell? ⟨g, 1, none⟩ = some (f 1) := hfi.at' 1 (by omega)
              have k2 : wi.cell? ⟨g, 2, none⟩ = some (f 2) := hfi.at' 2 (by omega)
              have kf := hfi.fz
              obtain ⟨wj, hwj⟩ : ∃ wj, wj = ((wi.setCell ⟨g, 0, none⟩ (.int .i64 C.W)).setCell ⟨g, 1, none⟩ (.int .i64 C.H)).setCell ⟨g, 2, none⟩ (.slice oi nC ki) := ⟨_, rfl⟩
              have htj := ((hfi.set (i := 0) (by omega) (.int .i64 C.W)).set (i := 1) (by omega) (.int .i64 C.H)).set (i := 2) (by omega) (.slice oi nC ki)
              have hhj : HighZ (g + 1) wi wj := by
                rw [hwj]
                exact ((HighZ.setCell wi (by omega) _).trans (HighZ.setCell _ (by omega) _)).trans (HighZ.setCell _ (by omega) _)
              have hgw : wa.heap.size ≤ g := by have := HGA.out; omega
              have HNX : Hid (Below wa.heap.size wa wj ∧ g < wj.heap.size ∧ ∃ f, FTab (fun v : Value => v) wj g 6 f ∧ (1 ≤ 1 → FaceF wj g f 0 (faceP l F B p)) ∧ (2 ≤ 1 → FaceF wj g f 3 (faceP l F B q))) := by
                have hbai : Below wa.heap.size wa wi := bthen HBC.out hbci
                have hnew : ∀ f', f' 0 = Value.int .i64 C.W → f' 1 = Value.int .i64 C.H → f' 2 = Value.slice oi nC ki → FaceF wj g f' 0 C := fun f' u1 u2 u3 => by
                  refine ⟨u1, u2, oi, ki, by rw [← hnC]; exact u3, ?_, fun h hh => ?_⟩
                  · rw [← hnC]
                    exact px_high howni.at (px_len hCZ).1 (fun h hh => by have h1 := (howni.blk hh).1; have h2 := HBCH.out.size; have h3 := HGC.out; omega) hhj
                  · rw [← hnC] at hh
                    have h1 := (howni.blk hh).1
                    have h2 := HBCH.out.size
                    have h3 := HGC.out
                    omega
                refine ⟨?_, by rw [hwj]; simp; have := HGC.out; have := hbci.size; omega, _, by rw [hwj]; exact htj, fun _ => ?_, fun h => absurd h (by decide)⟩
                · rw [hwj]
                  exact ((hbai.setCell (p := ⟨g, 0, none⟩) hgw _).setCell (p := ⟨g, 1, none⟩) hgw _).setCell (p := ⟨g, 2, none⟩) hgw _
                · rw [← hC]
                  exact hnew _ rfl rfl rfl
              have HWJ : Hid (((wi.setCell ⟨g, 0, none⟩ (.int .i64 C.W)).setCell ⟨g, 1, none⟩ (.int .i64 C.H)).setCell ⟨g, 2, none⟩ (.slice oi nC ki) = wj) := hwj.symm
              clear hwj htj hhj hfi hbci howni hbi hC hnC hCZ n1 n2 n3 d0 d1 d2 c8
              dsimp only
              go_upto_region 26 with fail
              rw [HWJ.out]
              clear HWJ k0 k1 k2 kf
              go_wp2_with fail
              go_roundw
              case rel => exact ⟨1, by omega, by go_num, HNX⟩
              case measure => simp [intOf]
            · have hbk : p.back = true := hbq
              rw [hbk] at m0
              have e0 : we.cell? ⟨g16, 0, none⟩ = some (.int .i64 SW) := HT16.out.at' 0 (by omega)
              have e1 : we.cell? ⟨g16, 1, none⟩ = some (.int .i64 SH) := HT16.out.at' 1 (by omega)
              have e2 : we.cell? ⟨g16, 2, none⟩ = some (.slice oF nF kF) := HT16.out.at' 2 (by omega)
              have ef := HT16.out.fz
              have hrs := res_set (x := .int .i64 SW) (y := .int .i64 SH) (z := .slice oB nB kB) HT16.out
              obtain ⟨wf, hwf⟩ : ∃ wf, wf = resW we g16 (.int .i64 SW) (.int .i64 SH) (.slice oB nB kB) := ⟨_, rfl⟩
              rw [← hwf] at hrs
              have HWF : Hid (((we.setCell ⟨g16, 0, none⟩ (.int .i64 SW)).setCell ⟨g16, 1, none⟩ (.int .i64 SH)).setCell ⟨g16, 2, none⟩ (.slice oB nB kB) = wf) := hwf.symm
              have hbf : Below wc.heap.size wc wf := hrs.bel HBE.out (by have := HL16.out; have := HGC.out; have := HBE.out.size; have := HBD.out.size; omega)
              have d0 : wf.cell? ⟨g16, 0, none⟩ = some (.int .i64 SW) := hrs.c0
              have d1 : wf.cell? ⟨g16, 1, none⟩ = some (.int .i64 SH) := hrs.c1
              have d2 : wf.cell? ⟨g16, 2, none⟩ = some (.slice oB nB kB) := hrs.c2
              have h15 : FTab (fun v : Value => v) wf g15 4 (pgF (.bool p.back) (.int .i64 p.col) (.int .i64 p.row) (.int .i64 p.turn)) := HT15.out.heap (hrs.hp g15 (by have := HL16.out; omega))
              have hsz : wf.heap.size = we.heap.size := hrs.sz
              clear hwf
              go_upto_region 22 with fail
              rw [HWF.out]
              clear HWF e0 e1 e2 ef s0 s1 s2 s3 s4 s5 m0
              have HBF := Lib.hid hbf
              have HD : Hid (wf.cell? ⟨g16, 0, none⟩ = some (.int .i64 SW) ∧ wf.cell? ⟨g16, 1, none⟩ = some (.int .i64 SH) ∧ wf.cell? ⟨g16, 2, none⟩ = some (.slice oB nB kB)) := ⟨d0, d1, d2⟩
              have H15 := Lib.hid h15
              have HSZ := Lib.hid hsz
              clear hbf d0 d1 d2 h15 hsz hrs
              have h8 := HT8.out.below (HB56.out.trans ((HBW.out.trans ((HBC.out.trans (HBF.out.mono HBC.out.size)).mono HBW.out.size)).mono HB56.out.size)) HL8.out
              have q0 : wf.cell? ⟨g8, 0, none⟩ = some (.int .i64 A) := h8.at' 0 (by omega)
              have q1 : wf.cell? ⟨g8, 1, none⟩ = some (.int .i64 Bh) := h8.at' 1 (by omega)
              clear h8
              go_quiet (fail)
              clear q0 q1
              have HBH : Hid (Below wf.heap.size wf (wf.drewN nq)) := bdrewN (Below.refl _ wf) nq
              generalize wf.drewN nq = wh at *
              have hth := H15.out.below HBH.out (by have := HSZ.out; have := HL16.out; omega)
              have n1 : wh.cell? ⟨g15, 1, none⟩ = some (.int .i64 p.col) := hth.at' 1 (by omega)
              have n2 : wh.cell? ⟨g15, 2, none⟩ = some (.int .i64 p.row) := hth.at' 2 (by omega)
              have n3 : wh.cell? ⟨g15, 3, none⟩ = some (.int .i64 p.turn) := hth.at' 3 (by omega)
              have d0 := keepCell HBH.out HD.out.1
              have d1 := keepCell HBH.out HD.out.2.1
              have d2 := keepCell HBH.out HD.out.2.2
              have hbch : Below wc.heap.size wc wh := bthen HBF.out HBH.out
              obtain ⟨-, -, -, -, -, -, -, -, c8, -⟩ := HC1.out wh (bthen HB6.out (bthen HBW.out (bthen HBC.out hbch)))
              have HBCH := Lib.hid hbch
              clear hth hbch
              have t1 : (p.turn % 2 == 1) = false := by simpa using hod
              have hli : ¬ lies l = true := by
                rw [HLI.out, ← HPI'.out.par, t1]; decide
              have hW' := HLW.out
              have hH' := HLH.out
              rw [if_neg hli] at hW' hH'
              have HPAp : Hid (Calls Try.prog 30 #[.agg #[.int .i64 SW, .int .i64 SH, .slice oB nB kB], .int .i64 (l.margin + p.col * LW), .int .i64 (l.margin + p.row * LH), .int .i64 LW, .int .i64 LH, .int .i64 (4 - p.turn)] wh (RetGrid (faceP l F B p) wh)) := by
                have h := HPA.out p a b wh HPI'.out HAB.out.1 HAB.out.2.1 HAB.out.2.2.1 HAB.out.2.2.2 (bthen HB1.out (bthen HB6.out (bthen HBW.out (bthen HBC.out HBCH.out))))
                rw [hbk] at h
                rw [HNN.out.2]
                exact h
              clear hli
              obtain rfl : A = LW := hW'.symm
              obtain rfl : Bh = LH := hH'.symm
              clear hod
              go_wp2_with fail
              refine HPAp.out.mono ?_
              intro e wi hret
              obtain ⟨oi, ki, rfl, howni, hbi⟩ := hret
              obtain ⟨C, hC⟩ : ∃ C, C = faceP l F B p := ⟨_, rfl⟩
              rw [← hC] at howni ⊢
              obtain ⟨nC, hnC⟩ : ∃ q, q = (listI C).length := ⟨_, rfl⟩
              rw [← hnC] at howni ⊢
              have hCZ : Sized C := by rw [hC]; exact (HFS.out p).1
              have hbci : Below wc.heap.size wc wi := bthen HBCH.out hbi
              have hfi := HFC.out.below hbci HGC.out
              have k0 : wi.cell? ⟨g, 0, none⟩ = some (f 0) := hfi.at' 0 (by omega)
              have k1 : wi.cell? ⟨g, 1, none⟩ = some (f 1) := hfi.at' 1 (by omega)
              have k2 : wi.cell? ⟨g, 2, none⟩ = some (f 2) := hfi.at' 2 (by omega)
              have kf := hfi.fz
              obtain ⟨wj, hwj⟩ : ∃ wj, wj = ((wi.setCell ⟨g, 0, none⟩ (.int .i64 C.W)).setCell ⟨g, 1, none⟩ (.int .i64 C.H)).setCell ⟨g, 2, none⟩ (.slice oi nC ki) := ⟨_, rfl⟩
              have htj := ((hfi.set (i := 0) (by omega) (.int .i64 C.W)).set (i := 1) (by omega) (.int .i64 C.H)).set (i := 2) (by omega) (.slice oi nC ki)
              have hhj : HighZ (g + 1) wi wj := by
                rw [hwj]
                exact ((HighZ.setCell wi (by omega) _).trans (HighZ.setCell _ (by omega) _)).trans (HighZ.setCell _ (by omega) _)
              have hgw : wa.heap.size ≤ g := by have := HGA.out; omega
              have HNX : Hid (Below wa.heap.size wa wj ∧ g < wj.heap.size ∧ ∃ f, FTab (fun v : Value => v) wj g 6 f ∧ (1 ≤ 1 → FaceF wj g f 0 (faceP l F B p)) ∧ (2 ≤ 1 → FaceF wj g f 3 (faceP l F B q))) := by
                have hbai : Below wa.heap.size wa wi := bthen HBC.out hbci
                have hnew : ∀ f', f' 0 = Value.int .i64 C.W → f' 1 = Value.int .i64 C.H → f' 2 = Value.slice oi nC ki → FaceF wj g f' 0 C := fun f' u1 u2 u3 => by
                  refine ⟨u1, u2, oi, ki, by rw [← hnC]; exact u3, ?_, fun h hh => ?_⟩
                  · rw [← hnC]
                    exact px_high howni.at (px_len hCZ).1 (fun h hh => by have h1 := (howni.blk hh).1; have h2 := HBCH.out.size; have h3 := HGC.out; omega) hhj
                  · rw [← hnC] at hh
                    have h1 := (howni.blk hh).1
                    have h2 := HBCH.out.size
                    have h3 := HGC.out
                    omega
                refine ⟨?_, by rw [hwj]; simp; have := HGC.out; have := hbci.size; omega, _, by rw [hwj]; exact htj, fun _ => ?_, fun h => absurd h (by decide)⟩
                · rw [hwj]
                  exact ((hbai.setCell (p := ⟨g, 0, none⟩) hgw _).setCell (p := ⟨g, 1, none⟩) hgw _).setCell (p := ⟨g, 2, none⟩) hgw _
                · rw [← hC]
                  exact hnew _ rfl rfl rfl
              have HWJ : Hid (((wi.setCell ⟨g, 0, none⟩ (.int .i64 C.W)).setCell ⟨g, 1, none⟩ (.int .i64 C.H)).setCell ⟨g, 2, none⟩ (.slice oi nC ki) = wj) := hwj.symm
              clear hwj htj hhj hfi hbci howni hbi hC hnC hCZ n1 n2 n3 d0 d1 d2 c8
              dsimp only
              go_upto_region 26 with fail
              rw [HWJ.out]
              clear HWJ k0 k1 k2 kf
              go_wp2_with fail
              go_roundw
              case rel => exact ⟨1, by omega, by go_num, HNX⟩
              case measure => simp [intOf]
          · by_cases hod : p.turn % 2 = 1
            · have hbk : p.back = false := hbq
              rw [hbk] at m0
              obtain ⟨wf, hwf⟩ : ∃ wf, wf = we := ⟨_, rfl⟩
              have hbf : Below wc.heap.size wc wf := by rw [hwf]; exact HBE.out
              have d0 : wf.cell? ⟨g16, 0, none⟩ = some (.int .i64 SW) := by rw [hwf]; exact HT16.out.at' 0 (by omega)
              have d1 : wf.cell? ⟨g16, 1, none⟩ = some (.int .i64 SH) := by rw [hwf]; exact HT16.out.at' 1 (by omega)
              have d2 : wf.cell? ⟨g16, 2, none⟩ = some (.slice oF nF kF) := by rw [hwf]; exact HT16.out.at' 2 (by omega)
              have h15 : FTab (fun v : Value => v) wf g15 4 (pgF (.bool p.back) (.int .i64 p.col) (.int .i64 p.row) (.int .i64 p.turn)) := by rw [hwf]; exact HT15.out
              have hsz : wf.heap.size = we.heap.size := by rw [hwf]
              go_upto_region 22 with fail
              rw [← hwf]
              clear s0 s1 s2 s3 s4 s5 m0 hwf
              have HBF := Lib.hid hbf
              have HD : Hid (wf.cell? ⟨g16, 0, none⟩ = some (.int .i64 SW) ∧ wf.cell? ⟨g16, 1, none⟩ = some (.int .i64 SH) ∧ wf.cell? ⟨g16, 2, none⟩ = some (.slice oF nF kF)) := ⟨d0, d1, d2⟩
              have H15 := Lib.hid h15
              have HSZ := Lib.hid hsz
              clear hbf d0 d1 d2 h15 hsz
              have h8 := HT8.out.below (HB56.out.trans ((HBW.out.trans ((HBC.out.trans (HBF.out.mono HBC.out.size)).mono HBW.out.size)).mono HB56.out.size)) HL8.out
              have q0 : wf.cell? ⟨g8, 0, none⟩ = some (.int .i64 A) := h8.at' 0 (by omega)
              have q1 : wf.cell? ⟨g8, 1, none⟩ = some (.int .i64 Bh) := h8.at' 1 (by omega)
              clear h8
              go_quiet (fail)
              clear q0 q1
              have HBH : Hid (Below wf.heap.size wf (wf.drewN nq)) := bdrewN (Below.refl _ wf) nq
              generalize wf.drewN nq = wh at *
              have hth := H15.out.below HBH.out (by have := HSZ.out; have := HL16.out; omega)
              have n1 : wh.cell? ⟨g15, 1, none⟩ = some (.int .i64 p.col) := hth.at' 1 (by omega)
              have n2 : wh.cell? ⟨g15, 2, none⟩ = some (.int .i64 p.row) := hth.at' 2 (by omega)
              have n3 : wh.cell? ⟨g15, 3, none⟩ = some (.int .i64 p.turn) := hth.at' 3 (by omega)
              have d0 := keepCell HBH.out HD.out.1
              have d1 := keepCell HBH.out HD.out.2.1
              have d2 := keepCell HBH.out HD.out.2.2
              have hbch : Below wc.heap.size wc wh := bthen HBF.out HBH.out
              obtain ⟨-, -, -, -, -, -, -, -, c8, -⟩ := HC1.out wh (bthen HB6.out (bthen HBW.out (bthen HBC.out hbch)))
              have HBCH := Lib.hid hbch
              clear hth hbch
              have t1 : (p.turn % 2 == 1) = true := by simpa using hod
              have hli : lies l = true := by
                rw [HLI.out, ← HPI'.out.par]; exact t1
              have hW' := HLW.out
              have hH' := HLH.out
              rw [if_pos hli] at hW' hH'
              have HPAp : Hid (Calls Try.prog 30 #[.agg #[.int .i64 SW, .int .i64 SH, .slice oF nF kF], .int .i64 (l.margin + p.col * LW), .int .i64 (l.margin + p.row * LH), .int .i64 LW, .int .i64 LH, .int .i64 (4 - p.turn)] wh (RetGrid (faceP l F B p) wh)) := by
                have h := HPA.out p a b wh HPI'.out HAB.out.1 HAB.out.2.1 HAB.out.2.2.1 HAB.out.2.2.2 (bthen HB1.out (bthen HB6.out (bthen HBW.out (bthen HBC.out HBCH.out))))
                rw [hbk] at h
                rw [HNN.out.1]
                exact h
              clear hli
              obtain rfl : Bh = LW := hW'.symm
              obtain rfl : A = LH := hH'.symm
              clear hod
              go_wp2_with fail
              refine HPAp.out.mono ?_
              intro e wi hret
              obtain ⟨oi, ki, rfl, howni, hbi⟩ := hret
              obtain ⟨C, hC⟩ : ∃ C, C = faceP l F B p := ⟨_, rfl⟩
              rw [← hC] at howni ⊢
              obtain ⟨nC, hnC⟩ : ∃ q, q = (listI C).length := ⟨_, rfl⟩
              rw [← hnC] at howni ⊢
              have hCZ : Sized C := by rw [hC]; exact (HFS.out p).1
              have hbci : Below wc.heap.size wc wi := bthen HBCH.out hbi
              have hfi := HFC.out.below hbci HGC.out
              have k0 : wi.cell? ⟨g, 0, none⟩ = some (f 0) := hfi.at' 0 (by omega)
              have k1 : wi.cell? ⟨g, 1, none⟩ = some (f 1) := hfi.at' 1 (by omega)
              have k2 : wi.cell? ⟨g, 2, none⟩ = some (f 2) := hfi.at' 2 (by omega)
              have kf := hfi.fz
              obtain ⟨wj, hwj⟩ : ∃ wj, wj = ((wi.setCell ⟨g, 0, none⟩ (.int .i64 C.W)).setCell ⟨g, 1, none⟩ (.int .i64 C.H)).setCell ⟨g, 2, none⟩ (.slice oi nC ki) := ⟨_, rfl⟩
              have htj := ((hfi.set (i := 0) (by omega) (.int .i64 C.W)).set (i := 1) (by omega) (.int .i64 C.H)).set (i := 2) (by omega) (.slice oi nC ki)
              have hhj : HighZ (g + 1) wi wj := by
                rw [hwj]
                exact ((HighZ.setCell wi (by omega) _).trans (HighZ.setCell _ (by omega) _)).trans (HighZ.setCell _ (by omega) _)
              have hgw : wa.heap.size ≤ g := by have := HGA.out; omega
              have HNX : Hid (Below wa.heap.size wa wj ∧ g < wj.heap.size ∧ ∃ f, FTab (fun v : Value => v) wj g 6 f ∧ (1 ≤ 1 → FaceF wj g f 0 (faceP l F B p)) ∧ (2 ≤ 1 → FaceF wj g f 3 (faceP l F B q))) := by
                have hbai : Below wa.heap.size wa wi := bthen HBC.out hbci
                have hnew : ∀ f', f' 0 = Value.int .i64 C.W → f' 1 = Value.int .i64 C.H → f' 2 = Value.slice oi nC ki → FaceF wj g f' 0 C := fun f' u1 u2 u3 => by
                  refine ⟨u1, u2, oi, ki, by rw [← hnC]; exact u3, ?_, fun h hh => ?_⟩
                  · rw [← hnC]
                    exact px_high howni.at (px_len hCZ).1 (fun h hh => by have h1 := (howni.blk hh).1; have h2 := HBCH.out.size; have h3 := HGC.out; omega) hhj
                  · rw [← hnC] at hh
                    have h1 := (howni.blk hh).1
                    have h2 := HBCH.out.size
                    have h3 := HGC.out
                    omega
                refine ⟨?_, by rw [hwj]; simp; have := HGC.out; have := hbci.size; omega, _, by rw [hwj]; exact htj, fun _ => ?_, fun h => absurd h (by decide)⟩
                · rw [hwj]
                  exact ((hbai.setCell (p := ⟨g, 0, none⟩) hgw _).setCell (p := ⟨g, 1, none⟩) hgw _).setCell (p := ⟨g, 2, none⟩) hgw _
                · rw [← hC]
                  exact hnew _ rfl rfl rfl
              have HWJ : Hid (((wi.setCell ⟨g, 0, none⟩ (.int .i64 C.W)).setCell ⟨g, 1, none⟩ (.int .i64 C.H)).setCell ⟨g, 2, none⟩ (.slice oi nC ki) = wj) := hwj.symm
              clear hwj htj hhj hfi hbci howni hbi hC hnC hCZ n1 n2 n3 d0 d1 d2 c8
              dsimp only
              go_upto_region 26 with fail
              rw [HWJ.out]
              clear HWJ k0 k1 k2 kf
              go_wp2_with fail
              go_roundw
              case rel => exact ⟨1, by omega, by go_num, HNX⟩
              case measure => simp [intOf]
            · have hbk : p.back = false := hbq
              rw [hbk] at m0
              obtain ⟨wf, hwf⟩ : ∃ wf, wf = we := ⟨_, rfl⟩
              have hbf : Below wc.heap.size wc wf := by rw [hwf]; exact HBE.out
              have d0 : wf.cell? ⟨g16, 0, none⟩ = some (.int .i64 SW) := by rw [hwf]; exact HT16.out.at' 0 (by omega)
              have d1 : wf.cell? ⟨g16, 1, none⟩ = some (.int .i64 SH) := by rw [hwf]; exact HT16.out.at' 1 (by omega)
              have d2 : wf.cell? ⟨g16, 2, none⟩ = some (.slice oF nF kF) := by rw [hwf]; exact HT16.out.at' 2 (by omega)
              have h15 : FTab (fun v : Value => v) wf g15 4 (pgF (.bool p.back) (.int .i64 p.col) (.int .i64 p.row) (.int .i64 p.turn)) := by rw [hwf]; exact HT15.out
              have hsz : wf.heap.size = we.heap.size := by rw [hwf]
              go_upto_region 22 with fail
              rw [← hwf]
              clear s0 s1 s2 s3 s4 s5 m0 hwf
              have HBF := Lib.hid hbf
              have HD : Hid (wf.cell? ⟨g16, 0, none⟩ = some (.int .i64 SW) ∧ wf.cell? ⟨g16, 1, none⟩ = some (.int .i64 SH) ∧ wf.cell? ⟨g16, 2, none⟩ = some (.slice oF nF kF)) := ⟨d0, d1, d2⟩
              have H15 := Lib.hid h15
              have HSZ := Lib.hid hsz
              clear hbf d0 d1 d2 h15 hsz
              have h8 := HT8.out.below (HB56.out.trans ((HBW.out.trans ((HBC.out.trans (HBF.out.mono HBC.out.size)).mono HBW.out.size)).mono HB56.out.size)) HL8.out
              have q0 : wf.cell? ⟨g8, 0, none⟩ = some (.int .i64 A) := h8.at' 0 (by omega)
              have q1 : wf.cell? ⟨g8, 1, none⟩ = some (.int .i64 Bh) := h8.at' 1 (by omega)
              clear h8
              go_quiet (fail)
              clear q0 q1
              have HBH : Hid (Below wf.heap.size wf (wf.drewN nq)) := bdrewN (Below.refl _ wf) nq
              generalize wf.drewN nq = wh at *
              have hth := H15.out.below HBH.out (by have := HSZ.out; have := HL16.out; omega)
              have n1 : wh.cell? ⟨g15, 1, none⟩ = some (.int .i64 p.col) := hth.at' 1 (by omega)
              have n2 : wh.cell? ⟨g15, 2, none⟩ = some (.int .i64 p.row) := hth.at' 2 (by omega)
              have n3 : wh.cell? ⟨g15, 3, none⟩ = some (.int .i64 p.turn) := hth.at' 3 (by omega)
              have d0 := keepCell HBH.out HD.out.1
              have d1 := keepCell HBH.out HD.out.2.1
              have d2 := keepCell HBH.out HD.out.2.2
              have hbch : Below wc.heap.size wc wh := bthen HBF.out HBH.out
              obtain ⟨-, -, -, -, -, -, -, -, c8, -⟩ := HC1.out wh (bthen HB6.out (bthen HBW.out (bthen HBC.out hbch)))
              have HBCH := Lib.hid hbch
              clear hth hbch
              have t1 : (p.turn % 2 == 1) = false := by simpa using hod
              have hli : ¬ lies l = true := by
                rw [HLI.out, ← HPI'.out.par, t1]; decide
              have hW' := HLW.out
              have hH' := HLH.out
              rw [if_neg hli] at hW' hH'
              have HPAp : Hid (Calls Try.prog 30 #[.agg #[.int .i64 SW, .int .i64 SH, .slice oF nF kF], .int .i64 (l.margin + p.col * LW), .int .i64 (l.margin + p.row * LH), .int .i64 LW, .int .i64 LH, .int .i64 (4 - p.turn)] wh (RetGrid (faceP l F B p) wh)) := by
                have h := HPA.out p a b wh HPI'.out HAB.out.1 HAB.out.2.1 HAB.out.2.2.1 HAB.out.2.2.2 (bthen HB1.out (bthen HB6.out (bthen HBW.out (bthen HBC.out HBCH.out))))
                rw [hbk] at h
                rw [HNN.out.1]
                exact h
              clear hli
              obtain rfl : A = LW := hW'.symm
              obtain rfl : Bh = LH := hH'.symm
              clear hod
              go_wp2_with fail
              refine HPAp.out.mono ?_
              intro e wi hret
              obtain ⟨oi, ki, rfl, howni, hbi⟩ := hret
              obtain ⟨C, hC⟩ : ∃ C, C = faceP l F B p := ⟨_, rfl⟩
              rw [← hC] at howni ⊢
              obtain ⟨nC, hnC⟩ : ∃ q, q = (listI C).length := ⟨_, rfl⟩
              rw [← hnC] at howni ⊢
              have hCZ : Sized C := by rw [hC]; exact (HFS.out p).1
              have hbci : Below wc.heap.size wc wi := bthen HBCH.out hbi
              have hfi := HFC.out.below hbci HGC.out
              have k0 : wi.cell? ⟨g, 0, none⟩ = some (f 0) := hfi.at' 0 (by omega)
              have k1 : wi.cell? ⟨g, 1, none⟩ = some (f 1) := hfi.at' 1 (by omega)
              have k2 : wi.cell? ⟨g, 2, none⟩ = some (f 2) := hfi.at' 2 (by omega)
              have kf := hfi.fz
              obtain ⟨wj, hwj⟩ : ∃ wj, wj = ((wi.setCell ⟨g, 0, none⟩ (.int .i64 C.W)).setCell ⟨g, 1, none⟩ (.int .i64 C.H)).setCell ⟨g, 2, none⟩ (.slice oi nC ki) := ⟨_, rfl⟩
              have htj := ((hfi.set (i := 0) (by omega) (.int .i64 C.W)).set (i := 1) (by omega) (.int .i64 C.H)).set (i := 2) (by omega) (.slice oi nC ki)
              have hhj : HighZ (g + 1) wi wj := by
                rw [hwj]
                exact ((HighZ.setCell wi (by omega) _).trans (HighZ.setCell _ (by omega) _)).trans (HighZ.setCell _ (by omega) _)
              have hgw : wa.heap.size ≤ g := by have := HGA.out; omega
              have HNX : Hid (Below wa.heap.size wa wj ∧ g < wj.heap.size ∧ ∃ f, FTab (fun v : Value => v) wj g 6 f ∧ (1 ≤ 1 → FaceF wj g f 0 (faceP l F B p)) ∧ (2 ≤ 1 → FaceF wj g f 3 (faceP l F B q))) := by
                have hbai : Below wa.heap.size wa wi := bthen HBC.out hbci
                have hnew : ∀ f', f' 0 = Value.int .i64 C.W → f' 1 = Value.int .i64 C.H → f' 2 = Value.slice oi nC ki → FaceF wj g f' 0 C := fun f' u1 u2 u3 => by
                  refine ⟨u1, u2, oi, ki, by rw [← hnC]; exact u3, ?_, fun h hh => ?_⟩
                  · rw [← hnC]
                    exact px_high howni.at (px_len hCZ).1 (fun h hh => by have h1 := (howni.blk hh).1; have h2 := HBCH.out.size; have h3 := HGC.out; omega) hhj
                  · rw [← hnC] at hh
                    have h1 := (howni.blk hh).1
                    have h2 := HBCH.out.size
                    have h3 := HGC.out
                    omega
                refine ⟨?_, by rw [hwj]; simp; have := HGC.out; have := hbci.size; omega, _, by rw [hwj]; exact htj, fun _ => ?_, fun h => absurd h (by decide)⟩
                · rw [hwj]
                  exact ((hbai.setCell (p := ⟨g, 0, none⟩) hgw _).setCell (p := ⟨g, 1, none⟩) hgw _).setCell (p := ⟨g, 2, none⟩) hgw _
                · rw [← hC]
                  exact hnew _ rfl rfl rfl
              have HWJ : Hid (((wi.setCell ⟨g, 0, none⟩ (.int .i64 C.W)).setCell ⟨g, 1, none⟩ (.int .i64 C.H)).setCell ⟨g, 2, none⟩ (.slice oi nC ki) = wj) := hwj.symm
              clear hwj htj hhj hfi hbci howni hbi hC hnC hCZ n1 n2 n3 d0 d1 d2 c8
              dsimp only
              go_upto_region 26 with fail
              rw [HWJ.out]
              clear HWJ k0 k1 k2 kf
              go_wp2_with fail
              go_roundw
              case rel => exact ⟨1, by omega, by go_num, HNX⟩
              case measure => simp [intOf]
        · obtain ⟨-, l0, l1, l2, l3⟩ := HPC.out wc (bthen HBW.out hbc)
          obtain ⟨a, b, hae, hbe, xw, xh, ha2, hb2', hc0, hr0⟩ := HCX.out q hqi
          obtain ⟨wd, hwd⟩ : ∃ wd, wd = wc.alloc (.cells #[.bool q.back, .int .i64 q.col, .int .i64 q.row, .int .i64 q.turn] 99) := ⟨_, rfl⟩
          have hbd1 : Below wc.heap.size wc wd := by rw [hwd]; exact balloc (Below.refl _ wc) _
          have ht15 : FTab (fun v : Value => v) wd wc.heap.size 4 (pgF (.bool q.back) (.int .i64 q.col) (.int .i64 q.row) (.int .i64 q.turn)) := by rw [hwd]; exact pgF_new wc _ _ _ _ _
          have hl15 : wc.heap.size < wd.heap.size := by rw [hwd]; simp
          obtain ⟨we, hwe⟩ : ∃ we, we = wd.alloc (.cells #[.int .i64 SW, .int .i64 SH, .slice oF nF kF] 37) := ⟨_, rfl⟩
          have hbd2 : Below wd.heap.size wd we := by rw [hwe]; exact balloc (Below.refl _ wd) _
          have ht16 : FTab (fun v : Value => v) we wd.heap.size 3 (outF (.int .i64 SW) (.int .i64 SH) (.slice oF nF kF)) := by rw [hwe]; exact outF_new wd _ _ _ _
          have hl16 : wd.heap.size < we.heap.size := by rw [hwe]; simp
          obtain ⟨g15, hg15⟩ : ∃ q, q = wc.heap.size := ⟨_, rfl⟩
          obtain ⟨g16, hg16⟩ : ∃ q, q = wd.heap.size := ⟨_, rfl⟩
          have HWD := Lib.hid hwd
          have HWE := Lib.hid hwe
          rw [← hg15] at ht15 hl15
          rw [← hg16] at ht16 hl16
          have HT15 := Lib.hid (ht15.below hbd2 hl15)
          have HT16 := Lib.hid ht16
          have HL16 : Hid (g15 < we.heap.size ∧ g16 < we.heap.size ∧ g < g15 ∧ g15 < g16 ∧ wc.heap.size ≤ g15) := ⟨by have := hbd2.size; omega, hl16, by omega, by omega, by omega⟩
          have HBE := Lib.hid (bthen hbd1 hbd2)
          have HBC := Lib.hid hbc
          have HGC := Lib.hid hgc
          have HFC := Lib.hid hfc
          have HF1 := Lib.hid hf1
          have HBD := Lib.hid hbd1
          have HAB : Hid ((a : Int) = l.margin + q.col * LW ∧ (b : Int) = l.margin + q.row * LH ∧ (a : Int) + LW ≤ SW ∧ (b : Int) + LH ≤ SH) := ⟨hae, hbe, ha2, hb2'⟩
          have tt := hqi.t
          have HPI' := Lib.hid hqi
          have xa : IntKind.i64.wrap (l.margin + q.col * LW) = l.margin + q.col * LW := IntWalk.i64_in _ (by omega)
          have xb : IntKind.i64.wrap (l.margin + q.row * LH) = l.margin + q.row * LH := IntWalk.i64_in _ (by omega)
          have xt : IntKind.i64.wrap (4 - q.turn) = 4 - q.turn := IntWalk.i64_in _ (by omega)
          clear hwd hwe hbd1 hbd2 ht15 ht16 hl15 hl16 hbc hgc hfc hf1 hf2 hae hbe ha2 hb2'
          go_upto_region 19 with fail
          rw [← HWD.out]
          clear HWD l0 l1 l2 l3
          rw [← hg15]
          obtain ⟨s0, s1, s2, s3, s4, s5⟩ := HS1.out wd (bthen HB6.out (bthen HBW.out (bthen HBC.out HBD.out)))
          go_upto_region 20 with fail
          rw [← HWE.out]
          clear HWE s0 s1 s2 s3 s4 s5
          rw [← hg16]
          clear hg15 hg16
          have m0 : we.cell? ⟨g15, 0, none⟩ = some (.bool q.back) := HT15.out.at' 0 (by omega)
          have hbwe : Below W1.heap.size W1 we := bthen HB6.out (bthen HBW.out (bthen HBC.out HBE.out))
          obtain ⟨s0, s1, s2, s3, s4, s5⟩ := HS1.out we hbwe
          have HBWE := Lib.hid hbwe
          clear hbwe
          rcases Bool.eq_false_or_eq_true q.back with hbq | hbq
          · by_cases hod : q.turn % 2 = 1
            · have hbk : q.back = true := hbq
              rw [hbk] at m0
              have e0 : we.cell? ⟨g16, 0, none⟩ = some (.int .i64 SW) := HT16.out.at' 0 (by omega)
              have e1 : we.cell? ⟨g16, 1, none⟩ = some (.int .i64 SH) := HT16.out.at' 1 (by omega)
              have e2 : we.cell? ⟨g16, 2, none⟩ = some (.slice oF nF kF) := HT16.out.at' 2 (by omega)
              have ef := HT16.out.fz
              have hrs := res_set (x := .int .i64 SW) (y := .int .i64 SH) (z := .slice oB nB kB) HT16.out
              obtain ⟨wf, hwf⟩ : ∃ wf, wf = resW we g16 (.int .i64 SW) (.int .i64 SH) (.slice oB nB kB) := ⟨_, rfl⟩
              rw [← hwf] at hrs
              have HWF : Hid (((we.setCell ⟨g16, 0, none⟩ (.int .i64 SW)).setCell ⟨g16, 1, none⟩ (.int .i64 SH)).setCell ⟨g16, 2, none⟩ (.slice oB nB kB) = wf) := hwf.symm
              have hbf : Below wc.heap.size wc wf := hrs.bel HBE.out (by have := HL16.out; have := HGC.out; have := HBE.out.size; have := HBD.out.size; omega)
              have d0 : wf.cell? ⟨g16, 0, none⟩ = some (.int .i64 SW) := hrs.c0
              have d1 : wf.cell? ⟨g16, 1, none⟩ = some (.int .i64 SH) := hrs.c1
              have d2 : wf.cell? ⟨g16, 2, none⟩ = some (.slice oB nB kB) := hrs.c2
              have h15 : FTab (fun v : Value => v) wf g15 4 (pgF (.bool q.back) (.int .i64 q.col) (.int .i64 q.row) (.int .i64 q.turn)) := HT15.out.heap (hrs.hp g15 (by have := HL16.out; omega))
              have hsz : wf.heap.size = we.heap.size := hrs.sz
              clear hwf
              go_upto_region 22 with fail
              rw [HWF.out]
              clear HWF e0 e1 e2 ef s0 s1 s2 s3 s4 s5 m0
              have HBF := Lib.hid hbf
              have HD : Hid (wf.cell? ⟨g16, 0, none⟩ = some (.int .i64 SW) ∧ wf.cell? ⟨g16, 1, none⟩ = some (.int .i64 SH) ∧ wf.cell? ⟨g16, 2, none⟩ = some (.slice oB nB kB)) := ⟨d0, d1, d2⟩
              have H15 := Lib.hid h15
              have HSZ := Lib.hid hsz
              clear hbf d0 d1 d2 h15 hsz hrs
              have h8 := HT8.out.below (HB56.out.trans ((HBW.out.trans ((HBC.out.trans (HBF.out.mono HBC.out.size)).mono HBW.out.size)).mono HB56.out.size)) HL8.out
              have q0 : wf.cell? ⟨g8, 0, none⟩ = some (.int .i64 A) := h8.at' 0 (by omega)
              have q1 : wf.cell? ⟨g8, 1, none⟩ = some (.int .i64 Bh) := h8.at' 1 (by omega)
              clear h8
              go_quiet (fail)
              clear q0 q1
              have HBH : Hid (Below wf.heap.size wf (wf.drewN nq)) := bdrewN (Below.refl _ wf) nq
              generalize wf.drewN nq = wh at *
              have hth := H15.out.below HBH.out (by have := HSZ.out; have := HL16.out; omega)
              have n1 : wh.cell? ⟨g15, 1, none⟩ = some (.int .i64 q.col) := hth.at' 1 (by omega)
              have n2 : wh.cell? ⟨g15, 2, none⟩ = some (.int .i64 q.row) := hth.at' 2 (by omega)
              have n3 : wh.cell? ⟨g15, 3, none⟩ = some (.int .i64 q.turn) := hth.at' 3 (by omega)
              have d0 := keepCell HBH.out HD.out.1
              have d1 := keepCell HBH.out HD.out.2.1
              have d2 := keepCell HBH.out HD.out.2.2
              have hbch : Below wc.heap.size wc wh := bthen HBF.out HBH.out
              obtain ⟨-, -, -, -, -, -, -, -, c8, -⟩ := HC1.out wh (bthen HB6.out (bthen HBW.out (bthen HBC.out hbch)))
              have HBCH := Lib.hid hbch
              clear hth hbch
              have t1 : (q.turn % 2 == 1) = true := by simpa using hod
              have hli : lies l = true := by
                rw [HLI.out, ← HPI'.out.par]; exact t1
              have hW' := HLW.out
              have hH' := HLH.out
              rw [if_pos hli] at hW' hH'
              have HPAp : Hid (Calls Try.prog 30 #[.agg #[.int .i64 SW, .int .i64 SH, .slice oB nB kB], .int .i64 (l.margin + q.col * LW), .int .i64 (l.margin + q.row * LH), .int .i64 LW, .int .i64 LH, .int .i64 (4 - q.turn)] wh (RetGrid (faceP l F B q) wh)) := by
                have h := HPA.out q a b wh HPI'.out HAB.out.1 HAB.out.2.1 HAB.out.2.2.1 HAB.out.2.2.2 (bthen HB1.out (bthen HB6.out (bthen HBW.out (bthen HBC.out HBCH.out))))
                rw [hbk] at h
                rw [HNN.out.2]
                exact h
              clear hli
              obtain rfl : Bh = LW := hW'.symm
              obtain rfl : A = LH := hH'.symm
              clear hod
              go_wp2_with fail
              refine HPAp.out.mono ?_
              intro e wi hret
              obtain ⟨oi, ki, rfl, howni, hbi⟩ := hret
              obtain ⟨C, hC⟩ : ∃ C, C = faceP l F B q := ⟨_, rfl⟩
              rw [← hC] at howni ⊢
              obtain ⟨nC, hnC⟩ : ∃ q, q = (listI C).length := ⟨_, rfl⟩
              rw [← hnC] at howni ⊢
              have hCZ : Sized C := by rw [hC]; exact (HFS.out q).1
              have hbci : Below wc.heap.size wc wi := bthen HBCH.out hbi
              have hfi := HFC.out.below hbci HGC.out
              have k0 : wi.cell? ⟨g, 3, none⟩ = some (f 3) := hfi.at' 3 (by omega)
              have k1 : wi.cell? ⟨g, 4, none⟩ = some (f 4) := hfi.at' 4 (by omega)
              have k2 : wi.cell? ⟨g, 5, none⟩ = some (f 5) := hfi.at' 5 (by omega)
              have kf := hfi.fz
              obtain ⟨wj, hwj⟩ : ∃ wj, wj = ((wi.setCell ⟨g, 3, none⟩ (.int .i64 C.W)).setCell ⟨g, 4, none⟩ (.int .i64 C.H)).setCell ⟨g, 5, none⟩ (.slice oi nC ki) := ⟨_, rfl⟩
              have htj := ((hfi.set (i := 3) (by omega) (.int .i64 C.W)).set (i := 4) (by omega) (.int .i64 C.H)).set (i := 5) (by omega) (.slice oi nC ki)
              have hhj : HighZ (g + 1) wi wj := by
                rw [hwj]
                exact ((HighZ.setCell wi (by omega) _).trans (HighZ.setCell _ (by omega) _)).trans (HighZ.setCell _ (by omega) _)
              have hgw : wa.heap.size ≤ g := by have := HGA.out; omega
              have HNX : Hid (Below wa.heap.size wa wj ∧ g < wj.heap.size ∧ ∃ f, FTab (fun v : Value => v) wj g 6 f ∧ (1 ≤ 2 → FaceF wj g f 0 (faceP l F B p)) ∧ (2 ≤ 2 → FaceF wj g f 3 (faceP l F B q))) := by
                have hbai : Below wa.heap.size wa wi := bthen HBC.out hbci
                have hnew : ∀ f', f' 3 = Value.int .i64 C.W → f' 4 = Value.int .i64 C.H → f' 5 = Value.slice oi nC ki → FaceF wj g f' 3 C := fun f' u1 u2 u3 => by
                  refine ⟨u1, u2, oi, ki, by rw [← hnC]; exact u3, ?_, fun h hh => ?_⟩
                  · rw [← hnC]
                    exact px_high howni.at (px_len hCZ).1 (fun h hh => by have h1 := (howni.blk hh).1; have h2 := HBCH.out.size; have h3 := HGC.out; omega) hhj
                  · rw [← hnC] at hh
                    have h1 := (howni.blk hh).1
                    have h2 := HBCH.out.size
                    have h3 := HGC.out
                    omega
                refine ⟨?_, by rw [hwj]; simp; have := HGC.out; have := hbci.size; omega, _, by rw [hwj]; exact htj, fun _ => ?_, fun _ => ?_⟩
                · rw [hwj]
                  exact ((hbai.setCell (p := ⟨g, 3, none⟩) hgw _).setCell (p := ⟨g, 4, none⟩) hgw _).setCell (p := ⟨g, 5, none⟩) hgw _
                · exact FaceF.high (HF1.out (by decide)) (HFS.out p).1 ((HighZ.ofBelow hbci).trans hhj) rfl rfl rfl
                · rw [← hC]
                  exact hnew _ rfl rfl rfl
              have HWJ : Hid (((wi.setCell ⟨g, 3, none⟩ (.int .i64 C.W)).setCell ⟨g, 4, none⟩ (.int .i64 C.H)).setCell ⟨g, 5, none⟩ (.slice oi nC ki) = wj) := hwj.symm
              clear hwj htj hhj hfi hbci howni hbi hC hnC hCZ n1 n2 n3 d0 d1 d2 c8
              dsimp only
              go_upto_region 26 with fail
              rw [HWJ.out]
              clear HWJ k0 k1 k2 kf
              go_wp2_with fail
              go_roundw
              case rel => exact ⟨2, by omega, by go_num, HNX⟩
              case measure => simp [intOf]
            · have hbk : q.back = true := hbq
              rw [hbk] at m0
              have e0 : we.cell? ⟨g16, 0, none⟩ = some (.int .i64 SW) := HT16.out.at' 0 (by omega)
              have e1 : we.cell? ⟨g16, 1, none⟩ = some (.int .i64 SH) := HT16.out.at' 1 (by omega)
              have e2 : we.cell? ⟨g16, 2, none⟩ = some (.slice oF nF kF) := HT16.out.at' 2 (by omega)
              have ef := HT16.out.fz
              have hrs := res_set (x := .int .i64 SW) (y := .int .i64 SH) (z := .slice oB nB kB) HT16.out
              obtain ⟨wf, hwf⟩ : ∃ wf, wf = resW we g16 (.int .i64 SW) (.int .i64 SH) (.slice oB nB kB) := ⟨_, rfl⟩
              rw [← hwf] at hrs
              have HWF : Hid (((we.setCell ⟨g16, 0, none⟩ (.int .i64 SW)).setCell ⟨g16, 1, none⟩ (.int .i64 SH)).setCell ⟨g16, 2, none⟩ (.slice oB nB kB) = wf) := hwf.symm
              have hbf : Below wc.heap.size wc wf := hrs.bel HBE.out (by have := HL16.out; have := HGC.out; have := HBE.out.size; have := HBD.out.size; omega)
              have d0 : wf.cell? ⟨g16, 0, none⟩ = some (.int .i64 SW) := hrs.c0
              have d1 : wf.cell? ⟨g16, 1, none⟩ = some (.int .i64 SH) := hrs.c1
              have d2 : wf.cell? ⟨g16, 2, none⟩ = some (.slice oB nB kB) := hrs.c2
              have h15 : FTab (fun v : Value => v) wf g15 4 (pgF (.bool q.back) (.int .i64 q.col) (.int .i64 q.row) (.int .i64 q.turn)) := HT15.out.heap (hrs.hp g15 (by have := HL16.out; omega))
              have hsz : wf.heap.size = we.heap.size := hrs.sz
              clear hwf
              go_upto_region 22 with fail
              rw [HWF.out]
              clear HWF e0 e1 e2 ef s0 s1 s2 s3 s4 s5 m0
              have HBF := Lib.hid hbf
              have HD : Hid (wf.cell? ⟨g16, 0, none⟩ = some (.int .i64 SW) ∧ wf.cell? ⟨g16, 1, none⟩ = some (.int .i64 SH) ∧ wf.cell? ⟨g16, 2, none⟩ = some (.slice oB nB kB)) := ⟨d0, d1, d2⟩
              have H15 := Lib.hid h15
              have HSZ := Lib.hid hsz
              clear hbf d0 d1 d2 h15 hsz hrs
              have h8 := HT8.out.below (HB56.out.trans ((HBW.out.trans ((HBC.out.trans (HBF.out.mono HBC.out.size)).mono HBW.out.size)).mono HB56.out.size)) HL8.out
              have q0 : wf.cell? ⟨g8, 0, none⟩ = some (.int .i64 A) := h8.at' 0 (by omega)
              have q1 : wf.cell? ⟨g8, 1, none⟩ = some (.int .i64 Bh) := h8.at' 1 (by omega)
              clear h8
              go_quiet (fail)
              clear q0 q1
              have HBH : Hid (Below wf.heap.size wf (wf.drewN nq)) := bdrewN (Below.refl _ wf) nq
              generalize wf.drewN nq = wh at *
              have hth := H15.out.below HBH.out (by have := HSZ.out; have := HL16.out; omega)
              have n1 : wh.cell? ⟨g15, 1, none⟩ = some (.int .i64 q.col) := hth.at' 1 (by omega)
              have n2 : wh.cell? ⟨g15, 2, none⟩ = some (.int .i64 q.row) := hth.at' 2 (by omega)
              have n3 : wh.cell? ⟨g15, 3, none⟩ = some (.int .i64 q.turn) := hth.at' 3 (by omega)
              have d0 := keepCell HBH.out HD.out.1
              have d1 := keepCell HBH.out HD.out.2.1
              have d2 := keepCell HBH.out HD.out.2.2
              have hbch : Below wc.heap.size wc wh := bthen HBF.out HBH.out
              obtain ⟨-, -, -, -, -, -, -, -, c8, -⟩ := HC1.out wh (bthen HB6.out (bthen HBW.out (bthen HBC.out hbch)))
              have HBCH := Lib.hid hbch
              clear hth hbch
              have t1 : (q.turn % 2 == 1) = false := by simpa using hod
              have hli : ¬ lies l = true := by
                rw [HLI.out, ← HPI'.out.par, t1]; decide
              have hW' := HLW.out
              have hH' := HLH.out
              rw [if_neg hli] at hW' hH'
              have HPAp : Hid (Calls Try.prog 30 #[.agg #[.int .i64 SW, .int .i64 SH, .slice oB nB kB], .int .i64 (l.margin + q.col * LW), .int .i64 (l.margin + q.row * LH), .int .i64 LW, .int .i64 LH, .int .i64 (4 - q.turn)] wh (RetGrid (faceP l F B q) wh)) := by
                have h := HPA.out q a b wh HPI'.out HAB.out.1 HAB.out.2.1 HAB.out.2.2.1 HAB.out.2.2.2 (bthen HB1.out (bthen HB6.out (bthen HBW.out (bthen HBC.out HBCH.out))))
                rw [hbk] at h
                rw [HNN.out.2]
                exact h
              clear hli
              obtain rfl : A = LW := hW'.symm
              obtain rfl : Bh = LH := hH'.symm
              clear hod
              go_wp2_with fail
              refine HPAp.out.mono ?_
              intro e wi hret
              obtain ⟨oi, ki, rfl, howni, hbi⟩ := hret
              obtain ⟨C, hC⟩ : ∃ C, C = faceP l F B q := ⟨_, rfl⟩
              rw [← hC] at howni ⊢
              obtain ⟨nC, hnC⟩ : ∃ q, q = (listI C).length := ⟨_, rfl⟩
              rw [← hnC] at howni ⊢
              have hCZ : Sized C := by rw [hC]; exact (HFS.out q).1
              have hbci : Below wc.heap.size wc wi := bthen HBCH.out hbi
              have hfi := HFC.out.below hbci HGC.out
              have k0 : wi.cell? ⟨g, 3, none⟩ = some (f 3) := hfi.at' 3 (by omega)
              have k1 : wi.cell? ⟨g, 4, none⟩ = some (f 4) := hfi.at' 4 (by omega)
              have k2 : wi.cell? ⟨g, 5, none⟩ = some (f 5) := hfi.at' 5 (by omega)
              have kf := hfi.fz
              obtain ⟨wj, hwj⟩ : ∃ wj, wj = ((wi.setCell ⟨g, 3, none⟩ (.int .i64 C.W)).setCell ⟨g, 4, none⟩ (.int .i64 C.H)).setCell ⟨g, 5, none⟩ (.slice oi nC ki) := ⟨_, rfl⟩
              have htj := ((hfi.set (i := 3) (by omega) (.int .i64 C.W)).set (i := 4) (by omega) (.int .i64 C.H)).set (i := 5) (by omega) (.slice oi nC ki)
              have hhj : HighZ (g + 1) wi wj := by
                rw [hwj]
                exact ((HighZ.setCell wi (by omega) _).trans (HighZ.setCell _ (by omega) _)).trans (HighZ.setCell _ (by omega) _)
              have hgw : wa.heap.size ≤ g := by have := HGA.out; omega
              have HNX : Hid (Below wa.heap.size wa wj ∧ g < wj.heap.size ∧ ∃ f, FTab (fun v : Value => v) wj g 6 f ∧ (1 ≤ 2 → FaceF wj g f 0 (faceP l F B p)) ∧ (2 ≤ 2 → FaceF wj g f 3 (faceP l F B q))) := by
                have hbai : Below wa.heap.size wa wi := bthen HBC.out hbci
                have hnew : ∀ f', f' 3 = Value.int .i64 C.W → f' 4 = Value.int .i64 C.H → f' 5 = Value.slice oi nC ki → FaceF wj g f' 3 C := fun f' u1 u2 u3 => by
                  refine ⟨u1, u2, oi, ki, by rw [← hnC]; exact u3, ?_, fun h hh => ?_⟩
                  · rw [← hnC]
                    exact px_high howni.at (px_len hCZ).1 (fun h hh => by have h1 := (howni.blk hh).1; have h2 := HBCH.out.size; have h3 := HGC.out; omega) hhj
                  · rw [← hnC] at hh
                    have h1 := (howni.blk hh).1
                    have h2 := HBCH.out.size
                    have h3 := HGC.out
                    omega
                refine ⟨?_, by rw [hwj]; simp; have := HGC.out; have := hbci.size; omega, _, by rw [hwj]; exact htj, fun _ => ?_, fun _ => ?_⟩
                · rw [hwj]
                  exact ((hbai.setCell (p := ⟨g, 3, none⟩) hgw _).setCell (p := ⟨g, 4, none⟩) hgw _).setCell (p := ⟨g, 5, none⟩) hgw _
                · exact FaceF.high (HF1.out (by decide)) (HFS.out p).1 ((HighZ.ofBelow hbci).trans hhj) rfl rfl rfl
                · rw [← hC]
                  exact hnew _ rfl rfl rfl
              have HWJ : Hid (((wi.setCell ⟨g, 3, none⟩ (.int .i64 C.W)).setCell ⟨g, 4, none⟩ (.int .i64 C.H)).setCell ⟨g, 5, none⟩ (.slice oi nC ki) = wj) := hwj.symm
              clear hwj htj hhj hfi hbci howni hbi hC hnC hCZ n1 n2 n3 d0 d1 d2 c8
              dsimp only
              go_upto_region 26 with fail
              rw [HWJ.out]
              clear HWJ k0 k1 k2 kf
              go_wp2_with fail
              go_roundw
              case rel => exact ⟨2, by omega, by go_num, HNX⟩
              case measure => simp [intOf]
          · by_cases hod : q.turn % 2 = 1
            · have hbk : q.back = false := hbq
              rw [hbk] at m0
              obtain ⟨wf, hwf⟩ : ∃ wf, wf = we := ⟨_, rfl⟩
              have hbf : Below wc.heap.size wc wf := by rw [hwf]; exact HBE.out
              have d0 : wf.cell? ⟨g16, 0, none⟩ = some (.int .i64 SW) := by rw [hwf]; exact HT16.out.at' 0 (by omega)
              have d1 : wf.cell? ⟨g16, 1, none⟩ = some (.int .i64 SH) := by rw [hwf]; exact HT16.out.at' 1 (by omega)
              have d2 : wf.cell? ⟨g16, 2, none⟩ = some (.slice oF nF kF) := by rw [hwf]; exact HT16.out.at' 2 (by omega)
              have h15 : FTab (fun v : Value => v) wf g15 4 (pgF (.bool q.back) (.int .i64 q.col) (.int .i64 q.row) (.int .i64 q.turn)) := by rw [hwf]; exact HT15.out
              have hsz : wf.heap.size = we.heap.size := by rw [hwf]
              go_upto_region 22 with fail
              rw [← hwf]
              clear s0 s1 s2 s3 s4 s5 m0 hwf
              have HBF := Lib.hid hbf
              have HD : Hid (wf.cell? ⟨g16, 0, none⟩ = some (.int .i64 SW) ∧ wf.cell? ⟨g16, 1, none⟩ = some (.int .i64 SH) ∧ wf.cell? ⟨g16, 2, none⟩ = some (.slice oF nF kF)) := ⟨d0, d1, d2⟩
              have H15 := Lib.hid h15
              have HSZ := Lib.hid hsz
              clear hbf d0 d1 d2 h15 hsz
              have h8 := HT8.out.below (HB56.out.trans ((HBW.out.trans ((HBC.out.trans (HBF.out.mono HBC.out.size)).mono HBW.out.size)).mono HB56.out.size)) HL8.out
              have q0 : wf.cell? ⟨g8, 0, none⟩ = some (.int .i64 A) := h8.at' 0 (by omega)
              have q1 : wf.cell? ⟨g8, 1, none⟩ = some (.int .i64 Bh) := h8.at' 1 (by omega)
              clear h8
              go_quiet (fail)
              clear q0 q1
              have HBH : Hid (Below wf.heap.size wf (wf.drewN nq)) := bdrewN (Below.refl _ wf) nq
              generalize wf.drewN nq = wh at *
              have hth := H15.out.below HBH.out (by have := HSZ.out; have := HL16.out; omega)
              have n1 : wh.cell? ⟨g15, 1, none⟩ = some (.int .i64 q.col) := hth.at' 1 (by omega)
              have n2 : wh.cell? ⟨g15, 2, none⟩ = some (.int .i64 q.row) := hth.at' 2 (by omega)
              have n3 : wh.cell? ⟨g15, 3, none⟩ = some (.int .i64 q.turn) := hth.at' 3 (by omega)
              have d0 := keepCell HBH.out HD.out.1
              have d1 := keepCell HBH.out HD.out.2.1
              have d2 := keepCell HBH.out HD.out.2.2
              have hbch : Below wc.heap.size wc wh := bthen HBF.out HBH.out
              obtain ⟨-, -, -, -, -, -, -, -, c8, -⟩ := HC1.out wh (bthen HB6.out (bthen HBW.out (bthen HBC.out hbch)))
              have HBCH := Lib.hid hbch
              clear hth hbch
              have t1 : (q.turn % 2 == 1) = true := by simpa using hod
              have hli : lies l = true := by
                rw [HLI.out, ← HPI'.out.par]; exact t1
              have hW' := HLW.out
              have hH' := HLH.out
              rw [if_pos hli] at hW' hH'
              have HPAp : Hid (Calls Try.prog 30 #[.agg #[.int .i64 SW, .int .i64 SH, .slice oF nF kF], .int .i64 (l.margin + q.col * LW), .int .i64 (l.margin + q.row * LH), .int .i64 LW, .int .i64 LH, .int .i64 (4 - q.turn)] wh (RetGrid (faceP l F B q) wh)) := by
                have h := HPA.out q a b wh HPI'.out HAB.out.1 HAB.out.2.1 HAB.out.2.2.1 HAB.out.2.2.2 (bthen HB1.out (bthen HB6.out (bthen HBW.out (bthen HBC.out HBCH.out))))
                rw [hbk] at h
                rw [HNN.out.1]
                exact h
              clear hli
              obtain rfl : Bh = LW := hW'.symm
              obtain rfl : A = LH := hH'.symm
              clear hod
              go_wp2_with fail
              refine HPAp.out.mono ?_
              intro e wi hret
              obtain ⟨oi, ki, rfl, howni, hbi⟩ := hret
              obtain ⟨C, hC⟩ : ∃ C, C = faceP l F B q := ⟨_, rfl⟩
              rw [← hC] at howni ⊢
              obtain ⟨nC, hnC⟩ : ∃ q, q = (listI C).length := ⟨_, rfl⟩
              rw [← hnC] at howni ⊢
              have hCZ : Sized C := by rw [hC]; exact (HFS.out q).1
              have hbci : Below wc.heap.size wc wi := bthen HBCH.out hbi
              have hfi := HFC.out.below hbci HGC.out
              have k0 : wi.cell? ⟨g, 3, none⟩ = some (f 3) := hfi.at' 3 (by omega)
              have k1 : wi.cell? ⟨g, 4, none⟩ = some (f 4) := hfi.at' 4 (by omega)
              have k2 : wi.cell? ⟨g, 5, none⟩ = some (f 5) := hfi.at' 5 (by omega)
              have kf := hfi.fz
              obtain ⟨wj, hwj⟩ : ∃ wj, wj = ((wi.setCell ⟨g, 3, none⟩ (.int .i64 C.W)).setCell ⟨g, 4, none⟩ (.int .i64 C.H)).setCell ⟨g, 5, none⟩ (.slice oi nC ki) := ⟨_, rfl⟩
              have htj := ((hfi.set (i := 3) (by omega) (.int .i64 C.W)).set (i := 4) (by omega) (.int .i64 C.H)).set (i := 5) (by omega) (.slice oi nC ki)
              have hhj : HighZ (g + 1) wi wj := by
                rw [hwj]
                exact ((HighZ.setCell wi (by omega) _).trans (HighZ.setCell _ (by omega) _)).trans (HighZ.setCell _ (by omega) _)
              have hgw : wa.heap.size ≤ g := by have := HGA.out; omega
              have HNX : Hid (Below wa.heap.size wa wj ∧ g < wj.heap.size ∧ ∃ f, FTab (fun v : Value => v) wj g 6 f ∧ (1 ≤ 2 → FaceF wj g f 0 (faceP l F B p)) ∧ (2 ≤ 2 → FaceF wj g f 3 (faceP l F B q))) := by
                have hbai : Below wa.heap.size wa wi := bthen HBC.out hbci
                have hnew : ∀ f', f' 3 = Value.int .i64 C.W → f' 4 = Value.int .i64 C.H → f' 5 = Value.slice oi nC ki → FaceF wj g f' 3 C := fun f' u1 u2 u3 => by
                  refine ⟨u1, u2, oi, ki, by rw [← hnC]; exact u3, ?_, fun h hh => ?_⟩
                  · rw [← hnC]
                    exact px_high howni.at (px_len hCZ).1 (fun h hh => by have h1 := (howni.blk hh).1; have h2 := HBCH.out.size; have h3 := HGC.out; omega) hhj
                  · rw [← hnC] at hh
                    have h1 := (howni.blk hh).1
                    have h2 := HBCH.out.size
                    have h3 := HGC.out
                    omega
                refine ⟨?_, by rw [hwj]; simp; have := HGC.out; have := hbci.size; omega, _, by rw [hwj]; exact htj, fun _ => ?_, fun _ => ?_⟩
                · rw [hwj]
                  exact ((hbai.setCell (p := ⟨g, 3, none⟩) hgw _).setCell (p := ⟨g, 4, none⟩) hgw _).setCell (p := ⟨g, 5, none⟩) hgw _
                · exact FaceF.high (HF1.out (by decide)) (HFS.out p).1 ((HighZ.ofBelow hbci).trans hhj) rfl rfl rfl
                · rw [← hC]
                  exact hnew _ rfl rfl rfl
              have HWJ : Hid (((wi.setCell ⟨g, 3, none⟩ (.int .i64 C.W)).setCell ⟨g, 4, none⟩ (.int .i64 C.H)).setCell ⟨g, 5, none⟩ (.slice oi nC ki) = wj) := hwj.symm
              clear hwj htj hhj hfi hbci howni hbi hC hnC hCZ n1 n2 n3 d0 d1 d2 c8
              dsimp only
              go_upto_region 26 with fail
              rw [HWJ.out]
              clear HWJ k0 k1 k2 kf
              go_wp2_with fail
              go_roundw
              case rel => exact ⟨2, by omega, by go_num, HNX⟩
              case measure => simp [intOf]
            · have hbk : q.back = false := hbq
              rw [hbk] at m0
              obtain ⟨wf, hwf⟩ : ∃ wf, wf = we := ⟨_, rfl⟩
              have hbf : Below wc.heap.size wc wf := by rw [hwf]; exact HBE.out
              have d0 : wf.cell? ⟨g16, 0, none⟩ = some (.int .i64 SW) := by rw [hwf]; exact HT16.out.at' 0 (by omega)
              have d1 : wf.cell? ⟨g16, 1, none⟩ = some (.int .i64 SH) := by rw [hwf]; exact HT16.out.at' 1 (by omega)
              have d2 : wf.cell? ⟨g16, 2, none⟩ = some (.slice oF nF kF) := by rw [hwf]; exact HT16.out.at' 2 (by omega)
              have h15 : FTab (fun v : Value => v) wf g15 4 (pgF (.bool q.back) (.int .i64 q.col) (.int .i64 q.row) (.int .i64 q.turn)) := by rw [hwf]; exact HT15.out
              have hsz : wf.heap.size = we.heap.size := by rw [hwf]
              go_upto_region 22 with fail
              rw [← hwf]
              clear s0 s1 s2 s3 s4 s5 m0 hwf
              have HBF := Lib.hid hbf
              have HD : Hid (wf.cell? ⟨g16, 0, none⟩ = some (.int .i64 SW) ∧ wf.cell? ⟨g16, 1, none⟩ = some (.int .i64 SH) ∧ wf.cell? ⟨g16, 2, none⟩ = some (.slice oF nF kF)) := ⟨d0, d1, d2⟩
              have H15 := Lib.hid h15
              have HSZ := Lib.hid hsz
              clear hbf d0 d1 d2 h15 hsz
              have h8 := HT8.out.below (HB56.out.trans ((HBW.out.trans ((HBC.out.trans (HBF.out.mono HBC.out.size)).mono HBW.out.size)).mono HB56.out.size)) HL8.out
              have q0 : wf.cell? ⟨g8, 0, none⟩ = some (.int .i64 A) := h8.at' 0 (by omega)
              have q1 : wf.cell? ⟨g8, 1, none⟩ = some (.int .i64 Bh) := h8.at' 1 (by omega)
              clear h8
              go_quiet (fail)
              clear q0 q1
              have HBH : Hid (Below wf.heap.size wf (wf.drewN nq)) := bdrewN (Below.refl _ wf) nq
              generalize wf.drewN nq = wh at *
              have hth := H15.out.below HBH.out (by have := HSZ.out; have := HL16.out; omega)
              have n1 : wh.cell? ⟨g15, 1, none⟩ = some (.int .i64 q.col) := hth.at' 1 (by omega)
              have n2 : wh.cell? ⟨g15, 2, none⟩ = some (.int .i64 q.row) := hth.at' 2 (by omega)
              have n3 : wh.cell? ⟨g15, 3, none⟩ = some (.int .i64 q.turn) := hth.at' 3 (by omega)
              have d0 := keepCell HBH.out HD.out.1
              have d1 := keepCell HBH.out HD.out.2.1
              have d2 := keepCell HBH.out HD.out.2.2
              have hbch : Below wc.heap.size wc wh := bthen HBF.out HBH.out
              obtain ⟨-, -, -, -, -, -, -, -, c8, -⟩ := HC1.out wh (bthen HB6.out (bthen HBW.out (bthen HBC.out hbch)))
              have HBCH := Lib.hid hbch
              clear hth hbch
              have t1 : (q.turn % 2 == 1) = false := by simpa using hod
              have hli : ¬ lies l = true := by
                rw [HLI.out, ← HPI'.out.par, t1]; decide
              have hW' := HLW.out
              have hH' := HLH.out
              rw [if_neg hli] at hW' hH'
              have HPAp : Hid (Calls Try.prog 30 #[.agg #[.int .i64 SW, .int .i64 SH, .slice oF nF kF], .int .i64 (l.margin + q.col * LW), .int .i64 (l.margin + q.row * LH), .int .i64 LW, .int .i64 LH, .int .i64 (4 - q.turn)] wh (RetGrid (faceP l F B q) wh)) := by
                have h := HPA.out q a b wh HPI'.out HAB.out.1 HAB.out.2.1 HAB.out.2.2.1 HAB.out.2.2.2 (bthen HB1.out (bthen HB6.out (bthen HBW.out (bthen HBC.out HBCH.out))))
                rw [hbk] at h
                rw [HNN.out.1]
                exact h
              clear hli
              obtain rfl : A = LW := hW'.symm
              obtain rfl : Bh = LH := hH'.symm
              clear hod
              go_wp2_with fail
              refine HPAp.out.mono ?_
              intro e wi hret
              obtain ⟨oi, ki, rfl, howni, hbi⟩ := hret
              obtain ⟨C, hC⟩ : ∃ C, C = faceP l F B q := ⟨_, rfl⟩
              rw [← hC] at howni ⊢
              obtain ⟨nC, hnC⟩ : ∃ q, q = (listI C).length := ⟨_, rfl⟩
              rw [← hnC] at howni ⊢
              have hCZ : Sized C := by rw [hC]; exact (HFS.out q).1
              have hbci : Below wc.heap.size wc wi := bthen HBCH.out hbi
              have hfi := HFC.out.below hbci HGC.out
              have k0 : wi.cell? ⟨g, 3, none⟩ = some (f 3) := hfi.at' 3 (by omega)
              have k1 : wi.cell? ⟨g, 4, none⟩ = some (f 4) := hfi.at' 4 (by omega)
              have k2 : wi.cell? ⟨g, 5, none⟩ = some (f 5) := hfi.at' 5 (by omega)
              have kf := hfi.fz
              obtain ⟨wj, hwj⟩ : ∃ wj, wj = ((wi.setCell ⟨g, 3, none⟩ (.int .i64 C.W)).setCell ⟨g, 4, none⟩ (.int .i64 C.H)).setCell ⟨g, 5, none⟩ (.slice oi nC ki) := ⟨_, rfl⟩
              have htj := ((hfi.set (i := 3) (by omega) (.int .i64 C.W)).set (i := 4) (by omega) (.int .i64 C.H)).set (i := 5) (by omega) (.slice oi nC ki)
              have hhj : HighZ (g + 1) wi wj := by
                rw [hwj]
                exact ((HighZ.setCell wi (by omega) _).trans (HighZ.setCell _ (by omega) _)).trans (HighZ.setCell _ (by omega) _)
              have hgw : wa.heap.size ≤ g := by have := HGA.out; omega
              have HNX : Hid (Below wa.heap.size wa wj ∧ g < wj.heap.size ∧ ∃ f, FTab (fun v : Value => v) wj g 6 f ∧ (1 ≤ 2 → FaceF wj g f 0 (faceP l F B p)) ∧ (2 ≤ 2 → FaceF wj g f 3 (faceP l F B q))) := by
                have hbai : Below wa.heap.size wa wi := bthen HBC.out hbci
                have hnew : ∀ f', f' 3 = Value.int .i64 C.W → f' 4 = Value.int .i64 C.H → f' 5 = Value.slice oi nC ki → FaceF wj g f' 3 C := fun f' u1 u2 u3 => by
                  refine ⟨u1, u2, oi, ki, by rw [← hnC]; exact u3, ?_, fun h hh => ?_⟩
                  · rw [← hnC]
                    exact px_high howni.at (px_len hCZ).1 (fun h hh => by have h1 := (howni.blk hh).1; have h2 := HBCH.out.size; have h3 := HGC.out; omega) hhj
                  · rw [← hnC] at hh
                    have h1 := (howni.blk hh).1
                    have h2 := HBCH.out.size
                    have h3 := HGC.out
                    omega
                refine ⟨?_, by rw [hwj]; simp; have := HGC.out; have := hbci.size; omega, _, by rw [hwj]; exact htj, fun _ => ?_, fun _ => ?_⟩
                · rw [hwj]
                  exact ((hbai.setCell (p := ⟨g, 3, none⟩) hgw _).setCell (p := ⟨g, 4, none⟩) hgw _).setCell (p := ⟨g, 5, none⟩) hgw _
                · exact FaceF.high (HF1.out (by decide)) (HFS.out p).1 ((HighZ.ofBelow hbci).trans hhj) rfl rfl rfl
                · rw [← hC]
                  exact hnew _ rfl rfl rfl
              have HWJ : Hid (((wi.setCell ⟨g, 3, none⟩ (.int .i64 C.W)).setCell ⟨g, 4, none⟩ (.int .i64 C.H)).setCell ⟨g, 5, none⟩ (.slice oi nC ki) = wj) := hwj.symm
              clear hwj htj hhj hfi hbci howni hbi hC hnC hCZ n1 n2 n3 d0 d1 d2 c8
              dsimp only
              go_upto_region 26 with fail
              rw [HWJ.out]
              clear HWJ k0 k1 k2 kf
              go_wp2_with fail
              go_roundw
              case rel => exact ⟨2, by omega, by go_num, HNX⟩
              case measure => simp [intOf]
        · have hA' := hf1 (by decide)
          have hB' := hf2 (by decide)
          have HFZ : Hid (Sized (faceP l F B p) ∧ Sized (faceP l F B q)) := ⟨(HFS.out p).1, (HFS.out q).1⟩
          obtain ⟨C1, hC1⟩ : ∃ C, C = faceP l F B p := ⟨_, rfl⟩
          obtain ⟨C2, hC2⟩ : ∃ C, C = faceP l F B q := ⟨_, rfl⟩
          rw [← hC1] at hA' HLE HFZ
          rw [← hC2] at hB' HLE HFZ
          obtain ⟨u0, u1, o1, c1', u2, p1, v1⟩ := hA'
          obtain ⟨u3, u4, o2, c2', u5, p2, v2⟩ := hB'
          obtain ⟨n1, hn1⟩ : ∃ q, q = (listI C1).length := ⟨_, rfl⟩
          obtain ⟨n2, hn2⟩ : ∃ q, q = (listI C2).length := ⟨_, rfl⟩
          rw [← hn1] at u2 p1 v1
          rw [← hn2] at u5 p2 v2
          have k0 : wc.cell? ⟨g, 0, none⟩ = some (.int .i64 C1.W) := by rw [hfc.at' 0 (by omega), u0]
          have k1 : wc.cell? ⟨g, 1, none⟩ = some (.int .i64 C1.H) := by rw [hfc.at' 1 (by omega), u1]
          have k2 : wc.cell? ⟨g, 2, none⟩ = some (.slice o1 n1 c1') := by rw [hfc.at' 2 (by omega), u2]
          have k3 : wc.cell? ⟨g, 3, none⟩ = some (.int .i64 C2.W) := by rw [hfc.at' 3 (by omega), u3]
          have k4 : wc.cell? ⟨g, 4, none⟩ = some (.int .i64 C2.H) := by rw [hfc.at' 4 (by omega), u4]
          have k5 : wc.cell? ⟨g, 5, none⟩ = some (.slice o2 n2 c2') := by rw [hfc.at' 5 (by omega), u5]
          have hb9 := balloc (Below.refl _ wc) (.cells #[.int .i64 C1.W, .int .i64 C1.H, .slice o1 n1 c1', .int .i64 C2.W, .int .i64 C2.H, .slice o2 n2 c2'] 101)
          have HU9 := Lib.hid (HU.out.below stabB (bthen hbc hb9))
          have HR9 : Hid (RelB (wc.alloc (.cells #[.int .i64 C1.W, .int .i64 C1.H, .slice o1 n1 c1', .int .i64 C2.W, .int .i64 C2.H, .slice o2 n2 c2'] 101)) ⟨C1.W, C1.H, o1, n1, c1', C2.W, C2.H, o2, n2, c2'⟩ (C1, C2)) := ⟨⟨rfl, rfl, hn1, p1.below hb9⟩, rfl, rfl, hn2, p2.below hb9⟩
          have HG9 : Hid (∀ h, blkB ⟨C1.W, C1.H, o1, n1, c1', C2.W, C2.H, o2, n2, c2'⟩ h → g + 1 ≤ h ∧ h < wc.heap.size) := fun h hh => by
            rcases hh with hh | hh
            · exact ⟨v1 h hh, p1.lt (px_len HFZ.out.1).1 hh⟩
            · exact ⟨v2 h hh, p2.lt (px_len HFZ.out.2).1 hh⟩
          have HB9 := Lib.hid (bthen HBW.out (bthen hbc hb9))
          have hul : us.length = k := by rw [HU.out.len]; unfold leafRow; simp
          have HUL := Lib.hid hul
          have HN64 : Hid (k ≤ 64) := by have := HJK.out; show k ≤ 64; omega
          have HNEW : Hid (∀ (q : Nat) (u : Value), (encRb ⟨C1.W, C1.H, o1, n1, c1', C2.W, C2.H, o2, n2, c2'⟩)[q]? = some u → (wc.alloc (.cells #[.int .i64 C1.W, .int .i64 C1.H, .slice o1 n1 c1', .int .i64 C2.W, .int .i64 C2.H, .slice o2 n2 c2'] 101)).cell? ((⟨wc.heap.size, 0, none⟩ : Addr).add q) = some u) := World.news_of_block (cs := #[.int .i64 C1.W, .int .i64 C1.H, .slice o1 n1 c1', .int .i64 C2.W, .int .i64 C2.H, .slice o2 n2 c2']) (t := 101) (fr := (0, 0)) (heap_alloc_new wc _)
          clear hbc hgc hfc hf1 hf2 hb9 hn1 hn2 p1 p2 v1 v2 u0 u1 u2 u3 u4 u5 hul hC1 hC2
          go_wp2_with (at_builtin; refine wpList_app1L rfl (.tmp 111) (.tmp 117) 52 rfl elemBl Try.underlying52 w6.heap.size (.slice o k c) us encRb rfl HU9.out.op ⟨C1.W, C1.H, o1, n1, c1', C2.W, C2.H, o2, n2, c2'⟩ ⟨wc.heap.size, 0, none⟩ 1 rfl rfl HNEW.out ?c1 ?c2 ?c3 ?c4 ?_)
          case c1 => simp [encRb, Value.oneCell']
          case c2 => have := HUL.out; have := HN64.out; omega
          case c3 => have := HUL.out; have := HN64.out; unfold maxLen; omega
          case c4 => exact HB9.out.size
          rw [HUL.out]
          intro g7 cap7 w7 hown7 hgr7 hat7
          have HNX : Hid (j + 2 = (k + 1) + (k + 1) ∧ k + 1 ≤ N ∧ Below w6.heap.size w6 w7 ∧ ∃ us, LU w7 w6.heap.size (.slice (some ⟨g7, 0, none⟩) (k + 1) cap7) us (leafRow l F B ps (k + 1))) := by
            refine ⟨by have := HJK.out.1; omega, HJK.out.2, HB9.out.grown hgr7 HB9.out.size (fun q hq => (HU9.out.op.blk hq).1), us ++ [⟨C1.W, C1.H, o1, n1, c1', C2.W, C2.H, o2, n2, c2'⟩], ?_⟩
            rw [HLE.out]
            refine HU9.out.add stabB HR9.out (fun h hh => ⟨by have := (HG9.out h hh).2; simp; omega, fun e => ?_⟩) hown7 hgr7 ?_
            · have h1 := (HU.out.op.blk e).2
              have h2 := (HG9.out h hh).1
              have h3 := HGA.out
              omega
            · rcases hat7 with e | e
              · exact .inl e.symm
              · exact .inr (by rw [e]; simp [Value.ownBlock])
          clear hown7 hgr7 hat7 HU9 HR9 HG9 HNEW HU HB9 k0 k1 k2 k3 k4 k5
          go_wp2_with fail
          go_roundw
          case rel => exact ⟨j + 2, k + 1, by go_num, _, _, rfl, HNX⟩
          case measure => simp [intOf]; omega
    · have HF : Hid (RetBl (leafRow l F B ps N) w (.returned (.tuple #[.slice o k c, .int .i64 0])) wa) := by
        obtain rfl : N = k := by omega
        obtain ⟨oa', cap', e', -, -, hv⟩ := hu.view (fun _ => rfl)
        simp only [Value.slice.injEq] at e'
        obtain ⟨rfl, -, rfl⟩ := e'
        exact ⟨us, o, c, by unfold leafRow; simp, hv, bthen HB1.out (bthen HB6.out hbw)⟩
      clear hu hbw hjk hkN hPN
      go_wp2_with fail
      go_ret2
      exact HF.out
end Go.Proofs.Ytdblibjmgamjeaa
