/-
  What augment's walk says of memory; the costs as a function. Own text.
-/
import Derived.Test.YtjggcnpnjnmamaaHungF
import Derived.Test.YtjggcnpnjnmamaaMade
import Derived.Test.YtjggcnpnjnmamaaCostsV
namespace Go.Proofs.Ytjggcnpnjnmamaa
open Go.RowKit
set_option linter.unusedVariables false
def natV (x : Nat) : Value := .int .i64 x
/-- The cost of row r at column j, both from 1. -/
def cOf (rows : List (List Int)) (r j : Nat) : Int := (rows.getD (r - 1) []).getD (j - 1) 0
theorem cOf_at {rows : List (List Int)} {r j : Nat} (h : r < rows.length) (h2 : j < rows[r].length) : cOf rows (r + 1) (j + 1) = rows[r][j] := by
  unfold cOf
  simp [List.getD_eq_getElem?_getD, h, h2]
/-- A table of costs without error. -/
structure GoodCosts (rows : List (List Int)) (n : Nat) : Prop where
  n12 : n ≤ 12
  r1 : 1 ≤ rows.length
  rn : rows.length ≤ n
  len : ∀ q (hq : q < rows.length), rows[q].length = n
  bd : ∀ q (hq : q < rows.length) j (hj : j < rows[q].length), 0 ≤ rows[q][j] ∧ rows[q][j] ≤ 1048576
theorem GoodCosts.of {rows : List (List Int)} (h : costsErr rows = 0) : ∃ n, GoodCosts rows n := by
  obtain ⟨n, h1, h2, h3, h4⟩ := costsErr_zero h
  exact ⟨n, h1, h2, h3, fun q hq => (h4 q hq).1, fun q hq => (h4 q hq).2⟩
theorem GoodCosts.c {rows : List (List Int)} {n : Nat} (h : GoodCosts rows n) : ∀ r j, 0 ≤ cOf rows r j ∧ cOf rows r j ≤ 1048576 := by
  intro r j
  unfold cOf
  by_cases hr : r - 1 < rows.length
  · rw [List.getD_eq_getElem?_getD, List.getD_eq_getElem?_getD, List.getElem?_eq_getElem hr]
    simp only [Option.getD_some]
    by_cases hj : j - 1 < rows[r - 1].length
    · rw [List.getElem?_eq_getElem hj]
      exact h.bd _ hr _ hj
    · rw [List.getElem?_eq_none (by omega)]
      simp
  · have e : rows.getD (r - 1) [] = [] := by
      rw [List.getD_eq_getElem?_getD, List.getElem?_eq_none (by omega)]
      rfl
    rw [e]
    simp
/-- Four blocks of the call's own, all different. -/
structure Apart4 (B bm gu gv gr : Nat) : Prop where
  b1 : B ≤ bm
  b2 : B ≤ gu
  b3 : B ≤ gv
  b4 : B ≤ gr
  d1 : bm ≠ gu
  d2 : bm ≠ gv
  d3 : bm ≠ gr
  d4 : gu ≠ gv
  d5 : gu ≠ gr
  d6 : gv ≠ gr
/-- The matcher in memory: the struct at block bm, its three tables. -/
structure MW (w0 : World) (bm gu gv gr : Nat) (cv : Value) (N m : Nat) (u v : Nat → Int) (row : Nat → Nat) (w : World) : Prop where
  bel : Below w0.heap.size w0 w
  c0 : w.cell? ⟨bm, 0, none⟩ = some cv
  c1 : w.cell? ⟨bm, 1, none⟩ = some (.slice (some ⟨gu, 0, none⟩) (N + 1) (N + 1))
  c2 : w.cell? ⟨bm, 2, none⟩ = some (.slice (some ⟨gv, 0, none⟩) (m + 1) (m + 1))
  c3 : w.cell? ⟨bm, 3, none⟩ = some (.slice (some ⟨gr, 0, none⟩) (m + 1) (m + 1))
  tu : FTab (Value.int .i64) w gu (N + 1) u
  tv : FTab (Value.int .i64) w gv (m + 1) v
  tr : FTab natV w gr (m + 1) row
section
variable {w0 : World} {bm gu gv gr : Nat} {cv : Value} {N m : Nat} {u v : Nat → Int} {row : Nat → Nat} {w : World}
theorem MW.lt (h : MW w0 bm gu gv gr cv N m u v row w) : bm < w.heap.size ∧ gu < w.heap.size ∧ gv < w.heap.size ∧ gr < w.heap.size :=
  ⟨cell?_lt h.c0, h.tu.lt (by omega), h.tv.lt (by omega), h.tr.lt (by omega)⟩
theorem MW.drewN (h : MW w0 bm gu gv gr cv N m u v row w) (q : Nat) : MW w0 bm gu gv gr cv N m u v row (w.drewN q) :=
  ⟨bdrewN h.bel q, h.c0, h.c1, h.c2, h.c3, h.tu.drewN q, h.tv.drewN q, h.tr.drewN q⟩
theorem MW.drew (h : MW w0 bm gu gv gr cv N m u v row w) : MW w0 bm gu gv gr cv N m u v row w.drew := ⟨h.bel.drew, h.c0, h.c1, h.c2, h.c3, h.tu.drew, h.tv.drew, h.tr.drew⟩
/-- New memory, or memory that is not the matcher's. -/
theorem MW.below (h : MW w0 bm gu gv gr cv N m u v row w) {w' : World} (hb : Below w.heap.size w w') : MW w0 bm gu gv gr cv N m u v row w' :=
  ⟨bthen h.bel hb, keepCell hb h.c0, keepCell hb h.c1, keepCell hb h.c2, keepCell hb h.c3, h.tu.below hb h.lt.2.1, h.tv.below hb h.lt.2.2.1, h.tr.below hb h.lt.2.2.2⟩
theorem MW.alloc (h : MW w0 bm gu gv gr cv N m u v row w) (o : Obj) : MW w0 bm gu gv gr cv N m u v row (w.alloc o) := h.below ((Below.refl _ _).alloc (Nat.le_refl _) o)
theorem cell_other {w : World} {b b' o o' : Nat} {x v : Value} (hb : b ≠ b') (h : w.cell? ⟨b, o, none⟩ = some x) : (w.setCell ⟨b', o', none⟩ v).cell? ⟨b, o, none⟩ = some x := by
  go_simp
theorem MW.other (h : MW w0 bm gu gv gr cv N m u v row w) {b o : Nat} (hB : w0.heap.size ≤ b) (d1 : b ≠ bm) (d2 : b ≠ gu) (d3 : b ≠ gv) (d4 : b ≠ gr) (y : Value) : MW w0 bm gu gv gr cv N m u v row (w.setCell ⟨b, o, none⟩ y) :=
  ⟨h.bel.setCell (p := ⟨b, o, none⟩) hB y, cell_other d1.symm h.c0, cell_other d1.symm h.c1, cell_other d1.symm h.c2, cell_other d1.symm h.c3, h.tu.other d2 y, h.tv.other d3 y, h.tr.other d4 y⟩
theorem MW.setU (h : MW w0 bm gu gv gr cv N m u v row w) (a : Apart4 w0.heap.size bm gu gv gr) {i : Nat} (hi : i < N + 1) (y : Int) : MW w0 bm gu gv gr cv N m (fun j => if j = i then y else u j) v row (w.setCell ⟨gu, i, none⟩ (.int .i64 y)) :=
  ⟨h.bel.setCell (p := ⟨gu, i, none⟩) a.b2 _, cell_other a.d1 h.c0, cell_other a.d1 h.c1, cell_other a.d1 h.c2, cell_other a.d1 h.c3, h.tu.set hi y, h.tv.other a.d4 _, h.tr.other a.d5 _⟩
theorem MW.setV (h : MW w0 bm gu gv gr cv N m u v row w) (a : Apart4 w0.heap.size bm gu gv gr) {i : Nat} (hi : i < m + 1) (y : Int) : MW w0 bm gu gv gr cv N m u (fun j => if j = i then y else v j) row (w.setCell ⟨gv, i, none⟩ (.int .i64 y)) :=
  ⟨h.bel.setCell (p := ⟨gv, i, none⟩) a.b3 _, cell_other a.d2 h.c0, cell_other a.d2 h.c1, cell_other a.d2 h.c2, cell_other a.d2 h.c3, h.tu.other a.d4.symm _, h.tv.set hi y, h.tr.other a.d6 _⟩
theorem MW.setR (h : MW w0 bm gu gv gr cv N m u v row w) (a : Apart4 w0.heap.size bm gu gv gr) {i : Nat} (hi : i < m + 1) (y : Nat) : MW w0 bm gu gv gr cv N m u v (fun j => if j = i then y else row j) (w.setCell ⟨gr, i, none⟩ (.int .i64 y)) :=
  ⟨h.bel.setCell (p := ⟨gr, i, none⟩) a.b4 _, cell_other a.d3 h.c0, cell_other a.d3 h.c1, cell_other a.d3 h.c2, cell_other a.d3 h.c3, h.tu.other a.d5.symm _, h.tv.other a.d6.symm _, h.tr.set hi y⟩
theorem MW.congr (h : MW w0 bm gu gv gr cv N m u v row w) {u' v' : Nat → Int} {row' : Nat → Nat} (hu : ∀ i, i < N + 1 → u i = u' i) (hv : ∀ i, i < m + 1 → v i = v' i) (hr : ∀ i, i < m + 1 → row i = row' i) : MW w0 bm gu gv gr cv N m u' v' row' w :=
  ⟨h.bel, h.c0, h.c1, h.c2, h.c3, h.tu.congr hu, h.tv.congr hv, h.tr.congr hr⟩
end
/-- The search's own three tables. -/
structure SW (bm gu gv gr gf gs gd m : Nat) (far : Nat → Int) (fr : Nat → Nat) (D : List Nat) (w : World) : Prop where
  tf : FTab (Value.int .i64) w gf (m + 1) far
  ts : FTab natV w gs (m + 1) fr
  td : FTab Value.bool w gd (m + 1) (fun j => decide (j ∈ D))
/-- Three blocks more. -/
structure Apart7 (B bm gu gv gr gf gs gd : Nat) : Prop where
  a4 : Apart4 B bm gu gv gr
  f0 : B ≤ gf
  f1 : gf ≠ bm
  f2 : gf ≠ gu
  f3 : gf ≠ gv
  f4 : gf ≠ gr
  s0 : B ≤ gs
  s1 : gs ≠ bm
  s2 : gs ≠ gu
  s3 : gs ≠ gv
  s4 : gs ≠ gr
  d0 : B ≤ gd
  d1 : gd ≠ bm
  d2 : gd ≠ gu
  d3 : gd ≠ gv
  d4 : gd ≠ gr
  fs : gf ≠ gs
  fd : gf ≠ gd
  sd : gs ≠ gd
section
variable {B bm gu gv gr gf gs gd m : Nat} {far : Nat → Int} {fr : Nat → Nat} {D : List Nat} {w : World}
theorem SW.drewN (h : SW bm gu gv gr gf gs gd m far fr D w) (q : Nat) : SW bm gu gv gr gf gs gd m far fr D (w.drewN q) := ⟨h.tf.drewN q, h.ts.drewN q, h.td.drewN q⟩
theorem SW.drew (h : SW bm gu gv gr gf gs gd m far fr D w) : SW bm gu gv gr gf gs gd m far fr D w.drew := ⟨h.tf.drew, h.ts.drew, h.td.drew⟩
theorem SW.setU (h : SW bm gu gv gr gf gs gd m far fr D w) (a : Apart7 B bm gu gv gr gf gs gd) (o : Nat) (y : Value) : SW bm gu gv gr gf gs gd m far fr D (w.setCell ⟨gu, o, none⟩ y) := ⟨h.tf.other a.f2.symm y, h.ts.other a.s2.symm y, h.td.other a.d2.symm y⟩
theorem SW.setV (h : SW bm gu gv gr gf gs gd m far fr D w) (a : Apart7 B bm gu gv gr gf gs gd) (o : Nat) (y : Value) : SW bm gu gv gr gf gs gd m far fr D (w.setCell ⟨gv, o, none⟩ y) := ⟨h.tf.other a.f3.symm y, h.ts.other a.s3.symm y, h.td.other a.d3.symm y⟩
theorem SW.setR (h : SW bm gu gv gr gf gs gd m far fr D w) (a : Apart7 B bm gu gv gr gf gs gd) (o : Nat) (y : Value) : SW bm gu gv gr gf gs gd m far fr D (w.setCell ⟨gr, o, none⟩ y) := ⟨h.tf.other a.f4.symm y, h.ts.other a.s4.symm y, h.td.other a.d4.symm y⟩
theorem SW.setF (h : SW bm gu gv gr gf gs gd m far fr D w) (a : Apart7 B bm gu gv gr gf gs gd) {i : Nat} (hi : i < m + 1) (y : Int) : SW bm gu gv gr gf gs gd m (fun j => if j = i then y else far j) fr D (w.setCell ⟨gf, i, none⟩ (.int .i64 y)) := ⟨h.tf.set hi y, h.ts.other a.fs _, h.td.other a.fd _⟩
theorem SW.setS (h : SW bm gu gv gr gf gs gd m far fr D w) (a : Apart7 B bm gu gv gr gf gs gd) {i : Nat} (hi : i < m + 1) (y : Nat) : SW bm gu gv gr gf gs gd m far (fun j => if j = i then y else fr j) D (w.setCell ⟨gs, i, none⟩ (.int .i64 y)) := ⟨h.tf.other a.fs.symm _, h.ts.set hi y, h.td.other a.sd _⟩
theorem SW.setD (h : SW bm gu gv gr gf gs gd m far fr D w) (a : Apart7 B bm gu gv gr gf gs gd) {i : Nat} (hi : i < m + 1) : SW bm gu gv gr gf gs gd m far fr (i :: D) (w.setCell ⟨gd, i, none⟩ (.bool true)) :=
  ⟨h.tf.other a.fd.symm _, h.ts.other a.sd.symm _, (h.td.set hi true).congr fun j _ => by
    by_cases e : j = i
    · simp [e]
    · simp [e]⟩
theorem SW.congr (h : SW bm gu gv gr gf gs gd m far fr D w) {far' : Nat → Int} {fr' : Nat → Nat} (hf : ∀ i, i < m + 1 → far i = far' i) (hs : ∀ i, i < m + 1 → fr i = fr' i) : SW bm gu gv gr gf gs gd m far' fr' D w := ⟨h.tf.congr hf, h.ts.congr hs, h.td⟩
theorem SW.otherM {w0 : World} {cv : Value} {N : Nat} {u v : Nat → Int} {row : Nat → Nat} (a : Apart7 w0.heap.size bm gu gv gr gf gs gd) (h : MW w0 bm gu gv gr cv N m u v row w) (o : Nat) (y : Value) :
    MW w0 bm gu gv gr cv N m u v row (w.setCell ⟨gf, o, none⟩ y) ∧ MW w0 bm gu gv gr cv N m u v row (w.setCell ⟨gs, o, none⟩ y) ∧ MW w0 bm gu gv gr cv N m u v row (w.setCell ⟨gd, o, none⟩ y) :=
  ⟨h.other a.f0 a.f1 a.f2 a.f3 a.f4 y, h.other a.s0 a.s1 a.s2 a.s3 a.s4 y, h.other a.d0 a.d1 a.d2 a.d3 a.d4 y⟩
end
end Go.Proofs.Ytjggcnpnjnmamaa
