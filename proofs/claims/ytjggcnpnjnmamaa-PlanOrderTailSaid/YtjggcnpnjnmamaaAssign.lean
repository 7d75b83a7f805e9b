/-
  plan.Assign: its walk. Own text.
-/
import Derived.Test.YtjggcnpnjnmamaaCloneI
namespace Go.Proofs.Ytjggcnpnjnmamaa
open Go.RowKit
set_option linter.unusedVariables false
/-- The plan of a table with an error. -/
def noPlan (x : Int) : Ending := .returned (.tuple #[.agg #[.slice none 0 0, .slice none 0 0, .slice none 0 0, .int .i64 0], .int .i64 x])
set_option maxHeartbeats 2000000 in
theorem assign_bad (oa : Option Addr) (rows : List (List Int)) (cap : Nat) (w : World) (hm : rows.length ≤ maxLen) (hx : Rows1 w 1 encInt oa rows) (hc : costsErr rows ≠ 0) :
    Calls Try.prog 14 #[.slice oa rows.length cap] w fun e w' => e = noPlan (costsErr rows) ∧ Below w.heap.size w w' := by
  have hx1 := Lib.hid (hx.below (balloc (Below.refl _ w) (.cells #[.slice none 0 0, .slice none 0 0, .slice none 0 0, .int .i64 0] 27)))
  obtain ⟨x, hx2⟩ : ∃ x, x = costsErr rows := ⟨_, rfl⟩
  have hxx : (x != 0) = true := by rw [hx2]; exact bne_iff_ne.2 hc
  replace hx2 := Lib.hid hx2
  clear hx hc
  go_enter Try.func14, Try.ntmps14
  go_wp2_with (go_at_call 16; refine (check_any _ _ _ _ hm hx1.out).mono ?_; rintro e w' ⟨rfl, rfl⟩; rw [← hx2.out])
  exact bodyPost_ret (v := .tuple #[.agg #[.slice none 0 0, .slice none 0 0, .slice none 0 0, .int .i64 0], .int .i64 x]) (by simp [results, Try.results14, go_sem]) rfl ⟨by rw [← hx2.out]; rfl, balloc (Below.refl _ _) _⟩
/-- Four blocks are new. -/
inductive At4 (w1 : World) (o1 o2 o3 o4 : Obj) : Nat → Obj → Prop where
  | a : At4 w1 o1 o2 o3 o4 w1.heap.size o1
  | b : At4 w1 o1 o2 o3 o4 (w1.heap.size + 1) o2
  | c : At4 w1 o1 o2 o3 o4 (w1.heap.size + 1 + 1) o3
  | d : At4 w1 o1 o2 o3 o4 (w1.heap.size + 1 + 1 + 1) o4
theorem heap_alloc_old (w : World) (o : Obj) {i : Nat} (h : i < w.heap.size) : (w.alloc o).heap[i]? = w.heap[i]? := by
  have hb := balloc (Below.refl _ w) o
  exact hb.block i h
theorem At4.heap {w1 : World} {o1 o2 o3 o4 : Obj} {i : Nat} {o : Obj} (h : At4 w1 o1 o2 o3 o4 i o) : ((((w1.alloc o1).alloc o2).alloc o3).alloc o4).drew.heap[i]? = some o ∧ w1.heap.size ≤ i := by
  have s1 : (w1.alloc o1).heap.size = w1.heap.size + 1 := World.size_alloc _ _
  have s2 : ((w1.alloc o1).alloc o2).heap.size = w1.heap.size + 1 + 1 := by rw [World.size_alloc, s1]
  have s3 : (((w1.alloc o1).alloc o2).alloc o3).heap.size = w1.heap.size + 1 + 1 + 1 := by rw [World.size_alloc, s2]
  show ((((w1.alloc o1).alloc o2).alloc o3).alloc o4).heap[i]? = some o ∧ w1.heap.size ≤ i
  cases h with
  | a => exact ⟨by rw [heap_alloc_old _ _ (by omega), heap_alloc_old _ _ (by omega), heap_alloc_old _ _ (by omega), heap_alloc_new], Nat.le_refl _⟩
  | b => exact ⟨by rw [heap_alloc_old _ _ (by omega), heap_alloc_old _ _ (by omega), ← s1, heap_alloc_new], by omega⟩
  | c => exact ⟨by rw [heap_alloc_old _ _ (by omega), ← s2, heap_alloc_new], by omega⟩
  | d => exact ⟨by rw [← s3, heap_alloc_new], by omega⟩
theorem FTab.block {α : Type} {f : α → Value} {w : World} {g n : Nat} {z : α} {e : TypeId} (h : w.heap[g]? = some (.cells (madeArr (f z) n) e)) : FTab f w g n (fun _ => z) := by
  refine ⟨fun i hi => ?_, fun o => ?_⟩
  · rw [cell_of_row _ g i _ e (0, 0) h]
    exact madeArr_get _ hi
  · unfold World.frozen?
    rw [h]
    simp
theorem bcell {W w1 : World} (hb : Below W.heap.size W w1) : (∀ b o, b < W.heap.size → w1.cell? ⟨b, o, none⟩ = W.cell? ⟨b, o, none⟩) ∧ (∀ b o, b < W.heap.size → w1.frozen? ⟨b, o, none⟩ = W.frozen? ⟨b, o, none⟩) :=
  ⟨fun b o h => hb.cell (p := ⟨b, o, none⟩) h, fun b o h => hb.frozen (p := ⟨b, o, none⟩) h⟩
theorem close4 {w1 : World} {o1 o2 o3 o4 : Obj} {bm gu gv gr N1 n N m : Nat} {cv : Value} {e : TypeId} (hN : N1 = N + 1) (hn : n = m + 1)
    (h0 : At4 w1 o1 o2 o3 o4 bm (.cells #[cv, .slice (some ⟨gu, 0, none⟩) N1 N1, .slice (some ⟨gv, 0, none⟩) n n, .slice (some ⟨gr, 0, none⟩) n n] e)) (h1 : At4 w1 o1 o2 o3 o4 gu (.cells (madeArr (.int .i64 0) N1) 3))
    (h2 : At4 w1 o1 o2 o3 o4 gv (.cells (madeArr (.int .i64 0) n) 3)) (h3 : At4 w1 o1 o2 o3 o4 gr (.cells (madeArr (.int .i64 0) n) 3)) (d1 : bm ≠ gu) (d2 : bm ≠ gv) (d3 : bm ≠ gr) (d4 : gu ≠ gv) (d5 : gu ≠ gr) (d6 : gv ≠ gr) :
    Apart4 w1.heap.size bm gu gv gr ∧ MW w1 bm gu gv gr cv N m (fun _ => 0) (fun _ => 0) (fun _ => 0) ((((w1.alloc o1).alloc o2).alloc o3).alloc o4).drew := by
  subst hN hn
  obtain ⟨a0, b0⟩ := h0.heap
  obtain ⟨a1, b1⟩ := h1.heap
  obtain ⟨a2, b2⟩ := h2.heap
  obtain ⟨a3, b3⟩ := h3.heap
  refine ⟨⟨b0, b1, b2, b3, d1, d2, d3, d4, d5, d6⟩, ⟨(balloc (balloc (balloc (balloc (Below.refl _ _) _) _) _) _).drew, ?_, ?_, ?_, ?_, FTab.block a1, FTab.block a2, FTab.block (f := natV) (z := 0) a3⟩⟩
  · rw [cell_of_row _ bm 0 _ e (0, 0) a0]; rfl
  · rw [cell_of_row _ bm 1 _ e (0, 0) a0]; rfl
  · rw [cell_of_row _ bm 2 _ e (0, 0) a0]; rfl
  · rw [cell_of_row _ bm 3 _ e (0, 0) a0]; rfl
theorem check_N (oa : Option Addr) (rows : List (List Int)) (cap N : Nat) (w : World) (hN : N = rows.length) (hm : N ≤ maxLen) (hx : Rows1 w 1 encInt oa rows) (hc : costsErr rows = 0) :
    Calls Try.prog 16 #[.slice oa N cap] w fun e w' => e = .returned (.int .i64 0) ∧ w = w' := by
  subst hN
  have := check_any oa rows cap w hm hx
  rw [hc] at this
  exact this
/-- k rows are assigned. -/
def InRows (w0 : World) (bm gu gv gr : Nat) (cv : Value) (N m : Nat) (c : Nat → Nat → Int) (k : Nat) (w : World) : Prop :=
  ∃ (u v : Nat → Int) (row : Nat → Nat), Matched N m k c u v row ∧ MW w0 bm gu gv gr cv N m u v row w ∧ -(1048576 * (k : Int)) ≤ v 0 ∧ v 0 ≤ 0 ∧ (∀ r, 1 ≤ r → r ≤ N → 0 ≤ u r ∧ u r ≤ 1048576) ∧ (∀ j, 1 ≤ j → j ≤ m → -1048576 ≤ v j ∧ v j ≤ 0)
theorem Matched.zero (N m : Nat) (c : Nat → Nat → Int) (hc : ∀ r j, 0 ≤ c r j ∧ c r j ≤ 1048576) : Matched N m 0 c (fun _ => 0) (fun _ => 0) (fun _ => 0) :=
  ⟨⟨fun r j _ _ _ _ => by have := hc r j; omega, fun _ _ _ => by omega, fun _ _ _ => by omega⟩, fun _ _ _ h => absurd rfl h, fun _ _ _ _ => rfl, fun _ _ _ _ _ _ h => absurd rfl h, fun _ _ _ => by omega, fun r h1 h2 => by omega, fun _ _ _ => rfl⟩
theorem InRows.zero {w0 : World} {bm gu gv gr : Nat} {cv : Value} {N m : Nat} {c : Nat → Nat → Int} {w : World} (hc : ∀ r j, 0 ≤ c r j ∧ c r j ≤ 1048576) (h : MW w0 bm gu gv gr cv N m (fun _ => 0) (fun _ => 0) (fun _ => 0) w) : InRows w0 bm gu gv gr cv N m c 0 w :=
  ⟨_, _, _, Matched.zero N m c hc, h, by simp, by simp, fun _ _ _ => by simp, fun _ _ _ => by simp⟩
/-- What one call of augment does. -/
def RetRow (w0 : World) (bm gu gv gr : Nat) (cv : Value) (N m : Nat) (c : Nat → Nat → Int) (k : Nat) (e : Ending) (w : World) : Prop := e = .returned (.tuple #[]) ∧ InRows w0 bm gu gv gr cv N m c k w
theorem augment_row {w0 : World} {bm gu gv gr b off cap N m k : Nat} {rows : List (List Int)} {w : World} (hA : Apart4 w0.heap.size bm gu gv gr) (hN : N = rows.length) (hG : GoodCosts rows m) (hx : Rows1 w0 1 encInt (some ⟨b, off, none⟩) rows)
    (hk : k < N) (h : InRows w0 bm gu gv gr (.slice (some ⟨b, off, none⟩) N cap) N m (cOf rows) k w) :
    Calls Try.prog 37 #[.pointer (some ⟨bm, 0, none⟩), .int .i64 ((k : Int) + 1)] w (RetRow w0 bm gu gv gr (.slice (some ⟨b, off, none⟩) N cap) N m (cOf rows) (k + 1)) := by
  obtain ⟨u, v, row, h1, h2, h3, h4, h5, h6⟩ := h
  have h12 := hG.n12
  have hrn := hG.rn
  refine (augment_any w0 bm gu gv gr b off cap rows N m k (k + 1) u v row w rfl hA hN hG hx h2 (by omega) h1 (by omega)).mono ?_
  rintro e w' ⟨rfl, u', v', row', g1, g2, g3, g4, g5, g6⟩
  exact ⟨rfl, u', v', row', g1, g2, by omega, by omega, g5, g6⟩
/-- The plan's own memory. -/
structure PlanW (wr : World) (N m bd gp gj gf cj cf : Nat) (jt ft : Nat → Int) (wx : World) : Prop where
  bel : Below wr.heap.size wr wx
  c0 : wx.cell? ⟨bd, 0, none⟩ = some (.slice (some ⟨gp, 0, none⟩) N N)
  c1 : wx.cell? ⟨bd, 1, none⟩ = some (.slice (some ⟨gj, 0, none⟩) N cj)
  c2 : wx.cell? ⟨bd, 2, none⟩ = some (.slice (some ⟨gf, 0, none⟩) m cf)
  c3 : wx.cell? ⟨bd, 3, none⟩ = some (.int .i64 0)
  fz : ∀ o, wx.frozen? ⟨bd, o, none⟩ = false
  tp : FTab (Value.int .i64) wx gp N (fun _ => 0)
  tj : FTab (Value.int .i64) wx gj N jt
  tf : FTab (Value.int .i64) wx gf m ft
  l0 : wr.heap.size ≤ bd
  l1 : wr.heap.size ≤ gp
  l2 : wr.heap.size ≤ gj
  l3 : wr.heap.size ≤ gf
  d1 : bd ≠ gp
  d2 : bd ≠ gj
  d3 : bd ≠ gf
  d4 : gp ≠ gj
  d5 : gp ≠ gf
  d6 : gj ≠ gf
theorem FTab.made' {w : World} {g n : Nat} {e : TypeId} (h : g = w.heap.size) : FTab (Value.int .i64) (w.alloc (.cells (madeArr (.int .i64 0) n) e)) g n (fun _ => 0) := by
  subst h
  exact FTab.made (Value.int .i64) w n 0 e
theorem costCell2 {w0 w : World} {b off m r q : Nat} {rows : List (List Int)} (hx : Rows1 w0 1 encInt (some ⟨b, off, none⟩) rows) (hG : GoodCosts rows m) (hb : Below w0.heap.size w0 w) (hr : r < rows.length) (hq : q < m) :
    ∃ bk offk capk, w.cell? ⟨b, off + r, none⟩ = some (.slice (some ⟨bk, offk, none⟩) m capk) ∧ w.cell? ⟨bk, offk + q, none⟩ = some (.int .i64 (cOf rows (r + 1) (q + 1))) ∧ b < w0.heap.size ∧ bk < w0.heap.size := by
  obtain ⟨bk, offk, capk, h1, h2⟩ := costCell hx hG (Below.refl _ w0) hr hq
  exact ⟨bk, offk, capk, keepCell hb h1, keepCell hb h2, cell?_lt h1, cell?_lt h2⟩
theorem resCells {w wr : World} {v0 v1 v2 v3 : Value} {e : TypeId} (hb : Below (w.alloc (.cells #[v0, v1, v2, v3] e)).heap.size (w.alloc (.cells #[v0, v1, v2, v3] e)) wr) :
    wr.cell? ⟨w.heap.size, 0, none⟩ = some v0 ∧ wr.cell? ⟨w.heap.size, 1, none⟩ = some v1 ∧ wr.cell? ⟨w.heap.size, 2, none⟩ = some v2 ∧ wr.cell? ⟨w.heap.size, 3, none⟩ = some v3 ∧ ∀ o, wr.frozen? ⟨w.heap.size, o, none⟩ = false := by
  have hs : w.heap.size < (w.alloc (.cells #[v0, v1, v2, v3] e)).heap.size := by simp
  have hh := hb.block w.heap.size hs
  rw [heap_alloc_new] at hh
  refine ⟨?_, ?_, ?_, ?_, fun o => ?_⟩
  · rw [cell_of_row _ _ 0 _ e (0, 0) hh]; rfl
  · rw [cell_of_row _ _ 1 _ e (0, 0) hh]; rfl
  · rw [cell_of_row _ _ 2 _ e (0, 0) hh]; rfl
  · rw [cell_of_row _ _ 3 _ e (0, 0) hh]; rfl
  · unfold World.frozen?
    rw [hh]
    simp
theorem frozen_set {w : World} {b o b' o' : Nat} {v : Value} (h : w.frozen? ⟨b, o, none⟩ = false) : (w.setCell ⟨b', o', none⟩ v).frozen? ⟨b, o, none⟩ = false := by
  go_simp
theorem cell_self {w : World} {b o : Nat} {x v : Value} (h : w.cell? ⟨b, o, none⟩ = some x) (hf : w.frozen? ⟨b, o, none⟩ = false) : (w.setCell ⟨b, o, none⟩ v).cell? ⟨b, o, none⟩ = some v := by
  go_simp
theorem cell_off {w : World} {b o o' : Nat} {x v : Value} (ho : o ≠ o') (h : w.cell? ⟨b, o, none⟩ = some x) : (w.setCell ⟨b, o', none⟩ v).cell? ⟨b, o, none⟩ = some x := by
  rw [fcell_ne ho]; exact h
theorem setRes {w : World} {g : Nat} {v0 v1 v2 v3 : Value} (a0 a1 a2 a3 : Value) (r0 : w.cell? ⟨g, 0, none⟩ = some v0) (r1 : w.cell? ⟨g, 1, none⟩ = some v1) (r2 : w.cell? ⟨g, 2, none⟩ = some v2) (r3 : w.cell? ⟨g, 3, none⟩ = some v3) (rz : ∀ o, w.frozen? ⟨g, o, none⟩ = false) :
    ((((w.setCell ⟨g, 0, none⟩ a0).setCell ⟨g, 1, none⟩ a1).setCell ⟨g, 2, none⟩ a2).setCell ⟨g, 3, none⟩ a3).cell? ⟨g, 0, none⟩ = some a0 ∧ ((((w.setCell ⟨g, 0, none⟩ a0).setCell ⟨g, 1, none⟩ a1).setCell ⟨g, 2, none⟩ a2).setCell ⟨g, 3, none⟩ a3).cell? ⟨g, 1, none⟩ = some a1 ∧ ((((w.setCell ⟨g, 0, none⟩ a0).setCell ⟨g, 1, none⟩ a1).setCell ⟨g, 2, none⟩ a2).setCell ⟨g, 3, none⟩ a3).cell? ⟨g, 2, none⟩ = some a2 ∧ ((((w.setCell ⟨g, 0, none⟩ a0).setCell ⟨g, 1, none⟩ a1).setCell ⟨g, 2, none⟩ a2).setCell ⟨g, 3, none⟩ a3).cell? ⟨g, 3, none⟩ = some a3 :=
  ⟨cell_off (by omega) (cell_off (by omega) (cell_off (by omega) (cell_self r0 (rz 0)))), cell_off (by omega) (cell_off (by omega) (cell_self (cell_off (by omega) r1) (frozen_set (rz 1)))), cell_off (by omega) (cell_self (cell_off (by omega) (cell_off (by omega) r2)) (frozen_set (frozen_set (rz 2)))), cell_self (cell_off (by omega) (cell_off (by omega) (cell_off (by omega) r3))) (frozen_set (frozen_set (frozen_set (rz 3))))⟩
/-- The presses behind q columns, rows from 0. -/
def prTo (row : Nat → Nat) : Nat → Nat → Int
  | 0, _ => 0
  | q + 1, i => if row (q + 1) = i + 1 then (q : Int) else prTo row q i
theorem prTo_skip {row : Nat → Nat} {q : Nat} (h : row (q + 1) = 0) (i : Nat) : prTo row (q + 1) i = prTo row q i := by
  simp only [prTo]
  rw [if_neg (by omega)]
theorem prTo_set {row : Nat → Nat} {q i' : Nat} (h : row (q + 1) = i' + 1) (i : Nat) : (if i = i' then (q : Int) else prTo row q i) = prTo row (q + 1) i := by
  simp only [prTo]
  rw [h]
  by_cases e : i = i'
  · rw [if_pos e, if_pos (by omega)]
  · rw [if_neg e, if_neg (by omega)]
theorem costTo_skip {c : Nat → Nat → Int} {row : Nat → Nat} {q : Nat} (h : row (q + 1) = 0) : costTo c row (q + 1) = costTo c row q := by
  simp only [costTo, sumTo]
  rw [if_pos h]
  omega
theorem costTo_set {c : Nat → Nat → Int} {row : Nat → Nat} {q : Nat} (h : row (q + 1) ≠ 0) : costTo c row (q + 1) = costTo c row q + c (row (q + 1)) (q + 1) := by
  simp only [costTo, sumTo]
  rw [if_neg h]
theorem costTo_bd {c : Nat → Nat → Int} {row : Nat → Nat} (hc : ∀ r j, 0 ≤ c r j ∧ c r j ≤ 1048576) (q : Nat) : 0 ≤ costTo c row q ∧ costTo c row q ≤ 1048576 * q := by
  induction q with
  | zero => simp [costTo, sumTo]
  | succ q ih =>
    by_cases e : row (q + 1) = 0
    · rw [costTo_skip e]; omega
    · rw [costTo_set e]
      have := hc (row (q + 1)) (q + 1)
      omega
/-- The plan's memory behind q columns. -/
structure FillW (wr : World) (N m bd gp gj gf cj cf : Nat) (jt ft : Nat → Int) (c : Nat → Nat → Int) (row : Nat → Nat) (q : Nat) (wx : World) : Prop where
  bel : Below wr.heap.size wr wx
  c0 : wx.cell? ⟨bd, 0, none⟩ = some (.slice (some ⟨gp, 0, none⟩) N N)
  c1 : wx.cell? ⟨bd, 1, none⟩ = some (.slice (some ⟨gj, 0, none⟩) N cj)
  c2 : wx.cell? ⟨bd, 2, none⟩ = some (.slice (some ⟨gf, 0, none⟩) m cf)
  c3 : wx.cell? ⟨bd, 3, none⟩ = some (.int .i64 (costTo c row q))
  fz : ∀ o, wx.frozen? ⟨bd, o, none⟩ = false
  tp : FTab (Value.int .i64) wx gp N (prTo row q)
  tj : FTab (Value.int .i64) wx gj N jt
  tf : FTab (Value.int .i64) wx gf m ft
theorem PlanW.fill {wr : World} {N m bd gp gj gf cj cf : Nat} {jt ft : Nat → Int} {wx : World} (h : PlanW wr N m bd gp gj gf cj cf jt ft wx) (c : Nat → Nat → Int) (row : Nat → Nat) : FillW wr N m bd gp gj gf cj cf jt ft c row 0 wx :=
  ⟨h.bel, h.c0, h.c1, h.c2, h.c3, h.fz, h.tp, h.tj, h.tf⟩
theorem FillW.skip {wr : World} {N m bd gp gj gf cj cf q : Nat} {jt ft : Nat → Int} {c : Nat → Nat → Int} {row : Nat → Nat} {wx : World} (h : FillW wr N m bd gp gj gf cj cf jt ft c row q wx) (hr : row (q + 1) = 0) : FillW wr N m bd gp gj gf cj cf jt ft c row (q + 1) wx :=
  ⟨h.bel, h.c0, h.c1, h.c2, by rw [costTo_skip hr]; exact h.c3, h.fz, h.tp.congr (fun i _ => (prTo_skip hr i).symm), h.tj, h.tf⟩
theorem FillW.set {wr w2 : World} {N m bd gp gj gf cj cf q i' : Nat} {jt ft : Nat → Int} {c : Nat → Nat → Int} {row : Nat → Nat} {wx : World} {x : Int} (h : FillW wr N m bd gp gj gf cj cf jt ft c row q wx) (p : PlanW wr N m bd gp gj gf cj cf jt ft w2) (hr : row (q + 1) = i' + 1) (hi : i' < N) (hx : x = costTo c row q + c (i' + 1) (q + 1)) :
    FillW wr N m bd gp gj gf cj cf jt ft c row (q + 1) ((wx.setCell ⟨gp, i', none⟩ (.int .i64 q)).setCell ⟨bd, 3, none⟩ (.int .i64 x)).drew := by
  subst hx
  have e : costTo c row (q + 1) = costTo c row q + c (i' + 1) (q + 1) := by rw [costTo_set (by omega), hr]
  refine ⟨((h.bel.setCell (p := ⟨gp, i', none⟩) p.l1 _).setCell (p := ⟨bd, 3, none⟩) p.l0 _).drew, ?_, ?_, ?_, ?_, fun o => ?_, ?_, ?_, ?_⟩
  · exact cell_off (by omega) (cell_other p.d1 h.c0)
  · exact cell_off (by omega) (cell_other p.d1 h.c1)
  · exact cell_off (by omega) (cell_other p.d1 h.c2)
  · rw [e]; exact cell_self (cell_other p.d1 h.c3) (frozen_set (h.fz 3))
  · exact frozen_set (frozen_set (h.fz o))
  · exact (((h.tp.set hi (q : Int)).congr (fun i _ => prTo_set hr i)).other p.d1 _).drew
  · exact ((h.tj.other p.d4 _).other p.d2 _).drew
  · exact ((h.tf.other p.d5 _).other p.d3 _).drew
theorem prTo_at {row : Nat → Nat} {m : Nat} (inj : ∀ j j', 1 ≤ j → j ≤ m → 1 ≤ j' → j' ≤ m → row j ≠ 0 → row j = row j' → j = j') {j : Nat} (h1 : 1 ≤ j) (hr : row j ≠ 0) : ∀ {q : Nat}, j ≤ q → q ≤ m → prTo row q (row j - 1) = (j : Int) - 1 := by
  intro q
  induction q with
  | zero => intro h; omega
  | succ q ih =>
    intro h2 h3
    simp only [prTo]
    by_cases e : row (q + 1) = row j - 1 + 1
    · have : j = q + 1 := inj j (q + 1) h1 (by omega) (by omega) h3 hr (by omega)
      rw [if_pos e, this]
      omega
    · rw [if_neg e]
      have : j ≠ q + 1 := fun e' => e (by rw [← e']; omega)
      exact ih (by omega) (by omega)
/-- An assignment with its proof: rows and columns from 0. -/
structure IsPlan (N m : Nat) (c : Nat → Nat → Int) (u v : Nat → Int) (pr : Nat → Nat) (press job fee : Nat → Int) (cost : Int) : Prop where
  p0 : Proof0 N m c u v pr
  pr' : ∀ i, i < N → press i = (pr (i + 1) : Int) - 1
  job' : ∀ i, job i = u (i + 1)
  fee' : ∀ i, fee i = v (i + 1)
  cost' : cost = sumTo (fun r => c r (pr r)) N
theorem IsPlan.of {N m : Nat} {c : Nat → Nat → Int} {u v : Nat → Int} {row : Nat → Nat} (h : Matched N m N c u v row) (hu : ∀ r, 1 ≤ r → r ≤ N → 0 ≤ u r ∧ u r ≤ 1048576) (hv : ∀ j, 1 ≤ j → j ≤ m → -1048576 ≤ v j ∧ v j ≤ 0) :
    ∃ pr, IsPlan N m c u v pr (prTo row m) (fun i => u (i + 1)) (fun i => v (i + 1)) (costTo c row m) := by
  have hp : ∀ j, 1 ≤ j → j ≤ m → row j ≠ 0 → (prTo row m (row j - 1)).toNat + 1 = j := fun j j1 j2 hr => by
    rw [prTo_at h.inj j1 hr j2 (Nat.le_refl _)]; omega
  obtain ⟨h1, h2⟩ := h.proof0 (pr := fun r => (prTo row m (r - 1)).toNat + 1) hu hv hp
  refine ⟨_, h1, fun i hi => ?_, fun _ => rfl, fun _ => rfl, h2⟩
  obtain ⟨j, j1, j2, j3⟩ := h.cover (i + 1) (by omega) (by omega)
  have := prTo_at h.inj j1 (by omega) j2 (Nat.le_refl _)
  rw [j3] at this
  simp only [Nat.add_sub_cancel] at this ⊢
  rw [this]
  omega
/-- A plan in memory. -/
structure PlanAt (B N m gp gj gf : Nat) (press job fee : Nat → Int) (w : World) : Prop where
  tp : FTab (Value.int .i64) w gp N press
  tj : FTab (Value.int .i64) w gj N job
  tf : FTab (Value.int .i64) w gf m fee
  l1 : B ≤ gp
  l2 : B ≤ gj
  l3 : B ≤ gf
  d4 : gp ≠ gj
  d5 : gp ≠ gf
  d6 : gj ≠ gf
def planV (gp gj gf N m cj cf : Nat) (cost : Int) : Value := .agg #[.slice (some ⟨gp, 0, none⟩) N N, .slice (some ⟨gj, 0, none⟩) N cj, .slice (some ⟨gf, 0, none⟩) m cf, .int .i64 cost]
/-- Returns a plan with its proof. -/
def RetPlan (N m : Nat) (c : Nat → Nat → Int) (w : World) (e : Ending) (w' : World) : Prop :=
  ∃ (gp gj gf cj cf : Nat) (u v : Nat → Int) (pr : Nat → Nat) (press job fee : Nat → Int) (cost : Int), e = .returned (.tuple #[planV gp gj gf N m cj cf cost, .int .i64 0]) ∧ IsPlan N m c u v pr press job fee cost ∧ PlanAt w.heap.size N m gp gj gf press job fee w' ∧ Below w.heap.size w w'
set_option maxRecDepth 100000 in
set_option maxHeartbeats 8000000 in
theorem assign_ok (b off : Nat) (rows : List (List Int)) (cap N m : Nat) (w : World) (hNN : N = rows.length) (hx : Rows1 w 1 encInt (some ⟨b, off, none⟩) rows) (hc : costsErr rows = 0) (hG : GoodCosts rows m) :
    Calls Try.prog 14 #[.slice (some ⟨b, off, none⟩) N cap] w (RetPlan N m (cOf rows) w) := by
  have hm12 := hG.n12
  have hn1 := hG.r1
  have hrn := hG.rn
  rw [← hNN] at hn1 hrn
  have hx1 := Lib.hid (hx.below (balloc (Below.refl _ w) (.cells #[.slice none 0 0, .slice none 0 0, .slice none 0 0, .int .i64 0] 27)))
  have hC := Lib.hid hc
  have hm9 : N ≤ maxLen := by unfold maxLen; omega
  obtain ⟨oa0, cap0, c0⟩ : ∃ oa0 cap0, w.cell? ⟨b, off + 0, none⟩ = some (.slice oa0 m cap0) := by
    obtain ⟨oa0, cap0, c0, _⟩ := hx.at (i := 0) (by omega)
    rw [hG.len 0 (by omega)] at c0
    exact ⟨oa0, cap0, c0⟩
  simp only [Nat.add_zero] at c0
  have c1 := keepCell (balloc (Below.refl _ w) (.cells #[.slice none 0 0, .slice none 0 0, .slice none 0 0, .int .i64 0] 27)) c0
  have hz1 : (0 : Int) < (N : Int) := by omega
  obtain ⟨N1, hN1⟩ : ∃ N1 : Nat, N1 = N + 1 := ⟨_, rfl⟩
  obtain ⟨n, hn⟩ : ∃ n : Nat, n = m + 1 := ⟨_, rfl⟩
  have mk1 := run_makeArr (P := Try.prog) elemInt Try.underlying25 (.int .i64 0) rfl N1 (by omega) (by omega)
  have mk2 := run_makeArr (P := Try.prog) elemInt Try.underlying25 (.int .i64 0) rfl n (by omega) (by omega)
  have g1 : IntKind.i64.wrap ((N : Int) + 1) = (N1 : Int) := by rw [IntWalk.i64_in _ (by omega)]; omega
  have g2 : IntKind.i64.wrap ((m : Int) + 1) = (n : Int) := by rw [IntWalk.i64_in _ (by omega)]; omega
  have hpos : 0 < N := by omega
  replace hN1 := Lib.hid hN1
  replace hn := Lib.hid hn
  have HNN := Lib.hid hNN
  have hch := Lib.hid (check_N (some ⟨b, off, none⟩) rows cap N (w.alloc (.cells #[.slice none 0 0, .slice none 0 0, .slice none 0 0, .int .i64 0] 27)) HNN.out hm9 hx1.out hC.out)
  replace hx := Lib.hid hx
  clear hc hNN
  go_enter Try.func14, Try.ntmps14
  go_wp2_with (go_at_call 16; (with_reducible refine (hch.out).mono ?_); rintro e w' ⟨rfl, rfl⟩)
  go_quiet (fail)
  generalize hw1 : (w.alloc (.cells #[.slice none 0 0, .slice none 0 0, .slice none 0 0, .int .i64 0] 27)).drewN nq = w1
  replace hw1 := Lib.hid hw1
  go_upto_region 5 with fail
  go_cut [7] (fun s7 wx => ∃ bm gu gv gr : Nat, s7 = .pointer (some ⟨bm, 0, none⟩) ∧ Hid (Apart4 w1.heap.size bm gu gv gr ∧ MW w1 bm gu gv gr (.slice (some ⟨b, off, none⟩) N cap) N m (fun _ => 0) (fun _ => 0) (fun _ => 0) wx))
  case first =>
    go_region
    all_goals
      go_wp2_with fail
      go_meet
    all_goals exact ⟨_, _, _, _, rfl, close4 hN1.out hn.out (by constructor) (by constructor) (by constructor) (by constructor) (by omega) (by omega) (by omega) (by omega) (by omega) (by omega)⟩
  case rest =>
    obtain ⟨bm, gu, gv, gr, rfl, HAM⟩ := hcut
    have hx2 : Hid (Rows1 w1 1 encInt (some ⟨b, off, none⟩) rows) := by
      have h := hx1.out.below (bdrewN (Below.refl _ _) nq)
      rw [hw1.out] at h
      exact h
    have HA := Lib.hid HAM.out.1
    have HG := Lib.hid hG
    have HR0 : Hid (InRows w1 bm gu gv gr (.slice (some ⟨b, off, none⟩) N cap) N m (cOf rows) 0 wc) := InRows.zero hG.c HAM.out.2
    clear HAM mk1 mk2 g1 g2 c0 c1 hch hG
    go_wp2
    go_loopw [36] (fun s36 wr => ∃ k : Nat, k ≤ N ∧ s36 = .int .i64 k ∧ Hid (InRows w1 bm gu gv gr (.slice (some ⟨b, off, none⟩) N cap) N m (cOf rows) k wr)) (fun s36 _ => N - (intOf s36).toNat)
    case atStart => exact ⟨0, by omega, rfl, HR0⟩
    case round =>
      clear HR0
      obtain ⟨k, hk, rfl, HR⟩ := hrel
      by_cases hlt : k < N
      · go_wp2_with (go_at_call 37; (with_reducible refine (augment_row HA.out HNN.out HG.out hx2.out hlt HR.out).mono ?_); rintro e w' ⟨rfl, hw'⟩; have HW := Lib.hid hw'; clear hw')
        go_roundw
        case rel => exact ⟨k + 1, by omega, by go_num, HW⟩
        case measure => simp [intOf]; omega
      · obtain rfl : N = k := by omega
        obtain ⟨u, v, row, h1, h2, h3, h4, h5, h6⟩ := HR.out
        have k1 := h2.c1
        have k2 := h2.c2
        rw [← hN1.out] at k1
        rw [← hn.out] at k2
        have U0 : Hid (∀ w', Below wr.heap.size wr w' → Calls Try.prog 21 #[.slice (some ⟨gu, 1, none⟩) N N] w' (RetCloneT N (fun i => u (i + 1)) w')) := fun w' hb => cloneTab gu N (N + 1) N 1 u w' hpos (by omega) (h2.tu.below hb h2.lt.2.1) (by omega)
        have U1 : Hid (∀ w', Below wr.heap.size wr w' → Calls Try.prog 21 #[.slice (some ⟨gv, 1, none⟩) m m] w' (RetCloneT m (fun i => v (i + 1)) w')) := fun w' hb => cloneTab gv m (m + 1) m 1 v w' (by omega) (by omega) (h2.tv.below hb h2.lt.2.2.1) (by omega)
        have mk3 := run_makeArr (P := Try.prog) elemInt Try.underlying25 (.int .i64 0) rfl N (by omega) (by omega)
        have n1 : 1 < N1 := by have := hN1.out; omega
        have n2 : 1 < n := by have := hn.out; omega
        have i1 : (1 : Int) ≤ (N1 : Int) := by omega
        have i2 : (1 : Int) ≤ (n : Int) := by omega
        have i3 : (1 : Int) < (N1 : Int) := by omega
        have i4 : (1 : Int) < (n : Int) := by omega
        have i5 : ¬ N1 = 1 := by omega
        have i6 : ¬ n = 1 := by omega
        have n3 : N1 - 1 = N := by have := hN1.out; omega
        have n4 : n - 1 = m := by have := hn.out; omega
        have hS : Hid (∀ w', Below wr.heap.size wr w' → (Below wr.heap.size wr w' ∧ w'.cell? ⟨bm, 1, none⟩ = some (.slice (some ⟨gu, 0, none⟩) N1 N1) ∧ w'.cell? ⟨bm, 2, none⟩ = some (.slice (some ⟨gv, 0, none⟩) n n))) := fun w' hb => ⟨hb, keepCell hb k1, keepCell hb k2⟩
        have H1 := Lib.hid h1
        have H2 := Lib.hid h2
        have H5 := Lib.hid h5
        have H6 := Lib.hid h6
        clear h1 h2 h3 h4 h5 h6
        go_upto_region 11 with fail
        go_cut [9, 44] (fun s9 s44 wx => ∃ bd gp gj gf cj cf : Nat, s9 = .pointer (some ⟨bd, 0, none⟩) ∧ s44 = .slice (some ⟨gp, 0, none⟩) N N ∧ Hid (PlanW wr N m bd gp gj gf cj cf (fun i => u (i + 1)) (fun i => v (i + 1)) wx))
        case rest =>
          obtain ⟨bd, gp, gj, gf, cj, cf, rfl, rfl, HP⟩ := hcut
          have HF0 : Hid (FillW wr N m bd gp gj gf cj cf (fun i => u (i + 1)) (fun i => v (i + 1)) (cOf rows) row 0 wc) := HP.out.fill _ _
          clear U0 U1 mk3 hS i1 i2 i3 i4 i5 i6 n1 n2 n3 n4 k1 k2 HR
          obtain ⟨w6, rfl⟩ : ∃ w6 : World, w6 = wr := ⟨_, rfl⟩
          go_wp2
          go_loopw [10] (fun s10 wi => ∃ q : Nat, q ≤ m ∧ s10 = .int .i64 ((q : Int) + 1) ∧ Hid (FillW w6 N m bd gp gj gf cj cf (fun i => u (i + 1)) (fun i => v (i + 1)) (cOf rows) row q wi)) (fun s10 _ => m + 1 - (intOf s10).toNat)
          case atStart => exact ⟨0, by omega, rfl, HF0⟩
          case round =>
            clear HF0
            obtain ⟨q, hq, rfl, HFQ⟩ := hrel
            by_cases hlt : q < m
            · have k3 := keepCell HFQ.out.bel H2.out.c3
              have kr := (H2.out.tr.below HFQ.out.bel H2.out.lt.2.2.2).at' (q + 1) (by omega)
              have hqn : q + 1 < n := by have := hn.out; omega
              rw [← hn.out] at k3
              unfold natV at kr
              obtain ⟨r, hr⟩ : ∃ r, r = row (q + 1) := ⟨_, rfl⟩
              have hrN := H1.out.range (q + 1) (by omega) (by omega)
              rw [← hr] at kr hrN
              by_cases hr0 : r = 0
              · have HFn := Lib.hid (HFQ.out.skip (by rw [← hr]; exact hr0))
                subst hr0
                replace hr := Lib.hid hr
                go_wp2
                go_roundw
                case rel => exact ⟨q + 1, by omega, by go_num, HFn⟩
                case measure => simp [intOf]; omega
              · obtain ⟨i', hi'⟩ : ∃ i', r = i' + 1 := ⟨r - 1, by omega⟩
                have hiN : i' < N := by omega
                have kb0 := HFQ.out.c0
                have kb3 := HFQ.out.c3
                have zb := HFQ.out.fz 3
                have kp := HFQ.out.tp.at' i' hiN
                have zp := HFQ.out.tp.fz i'
                have hcb := costTo_bd (row := row) HG.out.c q
                have hcx := HG.out.c (i' + 1) (q + 1)
                obtain ⟨bk, offk, capk, kc1, kc2, lb1, lb2⟩ := costCell2 (w := wr) hx2.out HG.out (H2.out.bel.trans (HFQ.out.bel.mono H2.out.bel.size)) (r := i') (q := q) (by rw [← HNN.out]; exact hiN) hlt
                have hrow : Hid (row (q + 1) = i' + 1) := by show _ = _; rw [← hr]; exact hi'
                have e1 := HP.out.d1
                have e2 : b ≠ gp := by have := HP.out.l1; have := H2.out.bel.size; omega
                have e3 : bk ≠ gp := by have := HP.out.l1; have := H2.out.bel.size; omega
                obtain ⟨X, hX⟩ : ∃ X, X = cOf rows (i' + 1) (q + 1) := ⟨_, rfl⟩
                obtain ⟨Y, hY⟩ : ∃ Y, Y = costTo (cOf rows) row q := ⟨_, rfl⟩
                rw [← hX] at kc2 hcx
                rw [← hY] at kb3 hcb
                have HFn := Lib.hid (HFQ.out.set HP.out hrow.out hiN (x := Y + X) (by rw [hX, hY]))
                have g3 : IntKind.i64.wrap (Y + X) = Y + X := IntWalk.i64_in _ (by omega)
                have g1 : IntKind.i64.wrap ((i' : Int) + 1 - 1) = (i' : Int) := by rw [IntWalk.i64_in _ (by omega)]; omega
                have g2 : IntKind.i64.wrap ((q : Int) + 1 - 1) = (q : Int) := by rw [IntWalk.i64_in _ (by omega)]; omega
                have hkr : wr.cell? ⟨gr, q + 1, none⟩ = some (.int .i64 ((i' : Int) + 1)) := by rw [kr, hi']; rfl
                clear hX hY kr hr hi' hr0 hrN
                go_wp2
                go_region
                go_wp2
                go_roundw
                case rel => exact ⟨q + 1, by omega, by go_num, HFn⟩
                case measure => simp [intOf]; omega
            · obtain rfl : m = q := by omega
              have b0 := HFQ.out.c0
              have b1 := HFQ.out.c1
              have b2 := HFQ.out.c2
              have b3 := HFQ.out.c3
              have hb1 : Below (w.alloc (.cells #[.slice none 0 0, .slice none 0 0, .slice none 0 0, .int .i64 0] 27)).heap.size (w.alloc (.cells #[.slice none 0 0, .slice none 0 0, .slice none 0 0, .int .i64 0] 27)) wr := by
                have h := H2.out.bel.trans (HFQ.out.bel.mono H2.out.bel.size)
                rw [← hw1.out] at h
                exact (bdrewN (Below.refl _ _) nq).trans h
              obtain ⟨r0, r1, r2, r3, rz⟩ := resCells hb1
              obtain ⟨C, hC2⟩ : ∃ C, C = costTo (cOf rows) row m := ⟨_, rfl⟩
              rw [← hC2] at b3
              have HL : Hid (w.heap.size < w6.heap.size) := by have := H2.out.bel.size; rw [← hw1.out] at this; show _ < _; simp at this; omega
              have HFIN := Lib.hid hb1
              have hC3 := Lib.hid hC2
              have e1 : w.heap.size ≠ bd := by have := HP.out.l0; have := HL.out; omega
              clear hb1 hC2
              go_wp2
              obtain ⟨y0, y1, y2, y3⟩ := setRes (.slice (some ⟨gp, 0, none⟩) N N) (.slice (some ⟨gj, 0, none⟩) N cj) (.slice (some ⟨gf, 0, none⟩) m cf) (.int .i64 C) r0 r1 r2 r3 rz
              generalize hwz : (((wr.setCell ⟨w.heap.size, 0, none⟩ (.slice (some ⟨gp, 0, none⟩) N N)).setCell ⟨w.heap.size, 1, none⟩ (.slice (some ⟨gj, 0, none⟩) N cj)).setCell ⟨w.heap.size, 2, none⟩ (.slice (some ⟨gf, 0, none⟩) m cf)).setCell ⟨w.heap.size, 3, none⟩ (.int .i64 C) = wz at *
              replace hwz := Lib.hid hwz
              refine bodyPost_ret (v := .tuple #[.agg #[.slice (some ⟨gp, 0, none⟩) N N, .slice (some ⟨gj, 0, none⟩) N cj, .slice (some ⟨gf, 0, none⟩) m cf, .int .i64 C], .int .i64 0]) (by simp [results, Try.results14, go_sem, y0, y1, y2, y3]) rfl ?_
              rw [← hwz.out]
              obtain ⟨pr, hIP⟩ := IsPlan.of H1.out H5.out H6.out
              have l0 := HL.out
              have p1 := HP.out.l1
              have p2 := HP.out.l2
              have p3 := HP.out.l3
              refine ⟨gp, gj, gf, cj, cf, u, v, pr, prTo row m, _, _, C, rfl, by rw [hC3.out]; exact hIP, ⟨?_, ?_, ?_, by omega, by omega, by omega, HP.out.d4, HP.out.d5, HP.out.d6⟩, ?_⟩
              · exact (((HFQ.out.tp.other (by omega) _).other (by omega) _).other (by omega) _).other (by omega) _
              · exact (((HFQ.out.tj.other (by omega) _).other (by omega) _).other (by omega) _).other (by omega) _
              · exact (((HFQ.out.tf.other (by omega) _).other (by omega) _).other (by omega) _).other (by omega) _
              · exact ((((balloc_lt w _ HFIN.out).setCell (p := ⟨w.heap.size, 0, none⟩) (Nat.le_refl _) _).setCell (p := ⟨w.heap.size, 1, none⟩) (Nat.le_refl _) _).setCell (p := ⟨w.heap.size, 2, none⟩) (Nat.le_refl _) _).setCell (p := ⟨w.heap.size, 3, none⟩) (Nat.le_refl _) _
        go_region_held3 (fun w' => Below wr.heap.size wr w' ∧ w'.cell? ⟨bm, 1, none⟩ = some (.slice (some ⟨gu, 0, none⟩) N1 N1) ∧ w'.cell? ⟨bm, 2, none⟩ = some (.slice (some ⟨gv, 0, none⟩) n n))
          ((refine hS.out _ ?_; go_grown))
          (first | fail | (go_simp; go_at_call 21; (with_reducible refine (U0.out _ (And.left (by assumption))).mono ?_); rintro e w3 ⟨gj, cj, rfl, hTj, lj1, lj2, hb3⟩; have hz3 : Below wr.heap.size wr w3 := bthen (And.left (by assumption)) hb3; obtain ⟨hc3, hf3⟩ := bcell hb3; have sz3 := hb3.size; (try simp only [World.size_alloc, World.size_drew] at sz3 lj1); (try have qw30 : wr.heap.size < w3.heap.size := by omega); (try have rw30 : wr.heap.size ≠ w3.heap.size := by omega); (try have sw30 : w3.heap.size ≠ wr.heap.size := by omega); (try have qw31 : wr.heap.size + 1 < w3.heap.size := by omega); (try have rw31 : wr.heap.size + 1 ≠ w3.heap.size := by omega); (try have sw31 : w3.heap.size ≠ wr.heap.size + 1 := by omega)) | (go_simp; go_at_call 21; (with_reducible refine (U1.out _ (And.left (by assumption))).mono ?_); rintro e w4 ⟨gf, cf, rfl, hTf, lf1, lf2, hb4⟩; have hz4 : Below wr.heap.size wr w4 := bthen (And.left (by assumption)) hb4; obtain ⟨hc4, hf4⟩ := bcell hb4; have sz4 := hb4.size; (try simp only [World.size_alloc] at sz4 lf1); (try have qw40 : wr.heap.size < w4.heap.size := by omega); (try have rw40 : wr.heap.size ≠ w4.heap.size := by omega); (try have sw40 : w4.heap.size ≠ wr.heap.size := by omega); (try have qw41 : wr.heap.size + 1 < w4.heap.size := by omega); (try have rw41 : wr.heap.size + 1 ≠ w4.heap.size := by omega); (try have sw41 : w4.heap.size ≠ wr.heap.size + 1 := by omega); (try have qw42 : w3.heap.size < w4.heap.size := by omega); (try have rw42 : w3.heap.size ≠ w4.heap.size := by omega); (try have sw42 : w4.heap.size ≠ w3.heap.size := by omega); (try have qw43 : w3.heap.size + 1 < w4.heap.size := by omega); (try have rw43 : w3.heap.size + 1 ≠ w4.heap.size := by omega); (try have sw43 : w4.heap.size ≠ w3.heap.size + 1 := by omega)))
        all_goals
          go_wp2_with fail
          go_meet
          (try have z00 : w4.cell? ⟨wr.heap.size, 0, none⟩ = some (.slice none 0 0) := (by first | (rw [hc4 _ _ (by (try simp only [World.size_alloc]); omega)]; first | (rw [hc3 _ _ (by (try simp only [World.size_alloc]); omega)]; go_simp; done) | (go_simp; rw [hc3 _ _ (by (try simp only [World.size_alloc]); omega)]; go_simp; done) | (go_simp; done)) | fail))
          (try have z01 : w4.cell? ⟨wr.heap.size, 1, none⟩ = some (.slice none 0 0) := (by first | (rw [hc4 _ _ (by (try simp only [World.size_alloc]); omega)]; first | (rw [hc3 _ _ (by (try simp only [World.size_alloc]); omega)]; go_simp; done) | (go_simp; rw [hc3 _ _ (by (try simp only [World.size_alloc]); omega)]; go_simp; done) | (go_simp; done)) | fail))
          (try have z02 : w4.cell? ⟨wr.heap.size, 2, none⟩ = some (.slice none 0 0) := (by first | (rw [hc4 _ _ (by (try simp only [World.size_alloc]); omega)]; first | (rw [hc3 _ _ (by (try simp only [World.size_alloc]); omega)]; go_simp; done) | (go_simp; rw [hc3 _ _ (by (try simp only [World.size_alloc]); omega)]; go_simp; done) | (go_simp; done)) | fail))
          (try have z03 : w4.cell? ⟨wr.heap.size, 3, none⟩ = some (.int .i64 0) := (by first | (rw [hc4 _ _ (by (try simp only [World.size_alloc]); omega)]; first | (rw [hc3 _ _ (by (try simp only [World.size_alloc]); omega)]; go_simp; done) | (go_simp; rw [hc3 _ _ (by (try simp only [World.size_alloc]); omega)]; go_simp; done) | (go_simp; done)) | fail))
          (try have z10 : w4.cell? ⟨wr.heap.size + 1, 0, none⟩ = some (.slice none 0 0) := (by first | (rw [hc4 _ _ (by (try simp only [World.size_alloc]); omega)]; first | (rw [hc3 _ _ (by (try simp only [World.size_alloc]); omega)]; go_simp; done) | (go_simp; rw [hc3 _ _ (by (try simp only [World.size_alloc]); omega)]; go_simp; done) | (go_simp; done)) | fail))
          (try have z11 : w4.cell? ⟨wr.heap.size + 1, 1, none⟩ = some (.slice none 0 0) := (by first | (rw [hc4 _ _ (by (try simp only [World.size_alloc]); omega)]; first | (rw [hc3 _ _ (by (try simp only [World.size_alloc]); omega)]; go_simp; done) | (go_simp; rw [hc3 _ _ (by (try simp only [World.size_alloc]); omega)]; go_simp; done) | (go_simp; done)) | fail))
          (try have z12 : w4.cell? ⟨wr.heap.size + 1, 2, none⟩ = some (.slice none 0 0) := (by first | (rw [hc4 _ _ (by (try simp only [World.size_alloc]); omega)]; first | (rw [hc3 _ _ (by (try simp only [World.size_alloc]); omega)]; go_simp; done) | (go_simp; rw [hc3 _ _ (by (try simp only [World.size_alloc]); omega)]; go_simp; done) | (go_simp; done)) | fail))
          (try have z13 : w4.cell? ⟨wr.heap.size + 1, 3, none⟩ = some (.int .i64 0) := (by first | (rw [hc4 _ _ (by (try simp only [World.size_alloc]); omega)]; first | (rw [hc3 _ _ (by (try simp only [World.size_alloc]); omega)]; go_simp; done) | (go_simp; rw [hc3 _ _ (by (try simp only [World.size_alloc]); omega)]; go_simp; done) | (go_simp; done)) | fail))
          (try have z20 : w4.cell? ⟨w3.heap.size, 0, none⟩ = some (.slice none 0 0) := (by first | (rw [hc4 _ _ (by (try simp only [World.size_alloc]); omega)]; first | (rw [hc3 _ _ (by (try simp only [World.size_alloc]); omega)]; go_simp; done) | (go_simp; rw [hc3 _ _ (by (try simp only [World.size_alloc]); omega)]; go_simp; done) | (go_simp; done)) | fail))
          (try have z21 : w4.cell? ⟨w3.heap.size, 1, none⟩ = some (.slice none 0 0) := (by first | (rw [hc4 _ _ (by (try simp only [World.size_alloc]); omega)]; first | (rw [hc3 _ _ (by (try simp only [World.size_alloc]); omega)]; go_simp; done) | (go_simp; rw [hc3 _ _ (by (try simp only [World.size_alloc]); omega)]; go_simp; done) | (go_simp; done)) | fail))
          (try have z22 : w4.cell? ⟨w3.heap.size, 2, none⟩ = some (.slice none 0 0) := (by first | (rw [hc4 _ _ (by (try simp only [World.size_alloc]); omega)]; first | (rw [hc3 _ _ (by (try simp only [World.size_alloc]); omega)]; go_simp; done) | (go_simp; rw [hc3 _ _ (by (try simp only [World.size_alloc]); omega)]; go_simp; done) | (go_simp; done)) | fail))
          (try have z23 : w4.cell? ⟨w3.heap.size, 3, none⟩ = some (.int .i64 0) := (by first | (rw [hc4 _ _ (by (try simp only [World.size_alloc]); omega)]; first | (rw [hc3 _ _ (by (try simp only [World.size_alloc]); omega)]; go_simp; done) | (go_simp; rw [hc3 _ _ (by (try simp only [World.size_alloc]); omega)]; go_simp; done) | (go_simp; done)) | fail))
          (try have z30 : w4.cell? ⟨w3.heap.size + 1, 0, none⟩ = some (.slice none 0 0) := (by first | (rw [hc4 _ _ (by (try simp only [World.size_alloc]); omega)]; first | (rw [hc3 _ _ (by (try simp only [World.size_alloc]); omega)]; go_simp; done) | (go_simp; rw [hc3 _ _ (by (try simp only [World.size_alloc]); omega)]; go_simp; done) | (go_simp; done)) | fail))
          (try have z31 : w4.cell? ⟨w3.heap.size + 1, 1, none⟩ = some (.slice none 0 0) := (by first | (rw [hc4 _ _ (by (try simp only [World.size_alloc]); omega)]; first | (rw [hc3 _ _ (by (try simp only [World.size_alloc]); omega)]; go_simp; done) | (go_simp; rw [hc3 _ _ (by (try simp only [World.size_alloc]); omega)]; go_simp; done) | (go_simp; done)) | fail))
          (try have z32 : w4.cell? ⟨w3.heap.size + 1, 2, none⟩ = some (.slice none 0 0) := (by first | (rw [hc4 _ _ (by (try simp only [World.size_alloc]); omega)]; first | (rw [hc3 _ _ (by (try simp only [World.size_alloc]); omega)]; go_simp; done) | (go_simp; rw [hc3 _ _ (by (try simp only [World.size_alloc]); omega)]; go_simp; done) | (go_simp; done)) | fail))
          (try have z33 : w4.cell? ⟨w3.heap.size + 1, 3, none⟩ = some (.int .i64 0) := (by first | (rw [hc4 _ _ (by (try simp only [World.size_alloc]); omega)]; first | (rw [hc3 _ _ (by (try simp only [World.size_alloc]); omega)]; go_simp; done) | (go_simp; rw [hc3 _ _ (by (try simp only [World.size_alloc]); omega)]; go_simp; done) | (go_simp; done)) | fail))
          clear hc3 hc4
          refine ⟨_, _, gj, gf, cj, cf, rfl, rfl, ⟨?_, by go_simp, by go_simp, by go_simp, by go_simp, fun o => by go_simp, ?_, ?_, ?_, ?_, ?_, ?_, ?_, ?_, ?_, ?_, ?_, ?_, ?_⟩⟩
          · go_grown
          · (repeat (first | (with_reducible exact hTj) | (with_reducible exact hTf) | (with_reducible refine FTab.drew ?_) | (with_reducible refine FTab.made' ?_) | (with_reducible refine FTab.alloc ?_ ?_ _) | (with_reducible refine FTab.other ?_ ?_ _) | (with_reducible refine FTab.below ?_ hb4 ?_) | (with_reducible refine FTab.below ?_ hb3 ?_)))
            all_goals (first | omega | (simp only [World.size_alloc]; done) | (simp only [World.size_alloc]; omega) | (simp only [World.size_setCell]; done) | (simp only [World.size_setCell]; omega) | (simp only [World.size_alloc, World.size_setCell]; done) | (simp only [World.size_alloc, World.size_setCell]; omega) | (simp only [World.size_drew]; done) | (simp only [World.size_drew]; omega) | (simp only [World.size_alloc, World.size_drew]; done) | (simp only [World.size_alloc, World.size_drew]; omega))
          · (repeat (first | (with_reducible exact hTj) | (with_reducible exact hTf) | (with_reducible refine FTab.drew ?_) | (with_reducible refine FTab.made' ?_) | (with_reducible refine FTab.alloc ?_ ?_ _) | (with_reducible refine FTab.other ?_ ?_ _) | (with_reducible refine FTab.below ?_ hb4 ?_) | (with_reducible refine FTab.below ?_ hb3 ?_)))
            all_goals (first | omega | (simp only [World.size_alloc]; done) | (simp only [World.size_alloc]; omega) | (simp only [World.size_setCell]; done) | (simp only [World.size_setCell]; omega) | (simp only [World.size_alloc, World.size_setCell]; done) | (simp only [World.size_alloc, World.size_setCell]; omega) | (simp only [World.size_drew]; done) | (simp only [World.size_drew]; omega) | (simp only [World.size_alloc, World.size_drew]; done) | (simp only [World.size_alloc, World.size_drew]; omega))
          · (repeat (first | (with_reducible exact hTj) | (with_reducible exact hTf) | (with_reducible refine FTab.drew ?_) | (with_reducible refine FTab.made' ?_) | (with_reducible refine FTab.alloc ?_ ?_ _) | (with_reducible refine FTab.other ?_ ?_ _) | (with_reducible refine FTab.below ?_ hb4 ?_) | (with_reducible refine FTab.below ?_ hb3 ?_)))
            all_goals (first | omega | (simp only [World.size_alloc]; done) | (simp only [World.size_alloc]; omega) | (simp only [World.size_setCell]; done) | (simp only [World.size_setCell]; omega) | (simp only [World.size_alloc, World.size_setCell]; done) | (simp only [World.size_alloc, World.size_setCell]; omega) | (simp only [World.size_drew]; done) | (simp only [World.size_drew]; omega) | (simp only [World.size_alloc, World.size_drew]; done) | (simp only [World.size_alloc, World.size_drew]; omega))
          all_goals omega
end Go.Proofs.Ytjggcnpnjnmamaa
