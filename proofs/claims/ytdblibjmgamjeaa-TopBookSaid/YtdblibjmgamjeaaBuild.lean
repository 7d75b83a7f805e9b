/-
  Rasters, plain: pixels as a function of the place. No program in sight. The walk of raster's build, for whatever closure. Own text.
-/
import Derived.Test.YtdblibjmgamjeaaBase
import Derived.Test.YtdblibjmgamjeaaFoldA
import Derived.Deep.AppendLies
import Derived.Deep.RegionLaw
import Derived.BigRegion
import Derived.Test.YtdblibjmgamjeaaConcatLeaf
namespace Go.Proofs.Ytdblibjmgamjeaa
set_option linter.unusedVariables false
/-- The first n pixels, row by row. -/
def pixN (W : Nat) (px : Int → Int → Int) (n : Nat) : List Int := (List.range n).map fun k => px ((k % W : Nat) : Int) ((k / W : Nat) : Int)
def pixL (W H : Nat) (px : Int → Int → Int) : List Int := pixN W px (W * H)
theorem pixN_len (W : Nat) (px : Int → Int → Int) (n : Nat) : (pixN W px n).length = n := by simp [pixN]
theorem pixL_len (W H : Nat) (px : Int → Int → Int) : (pixL W H px).length = W * H := pixN_len _ _ _
theorem pos_lt {W H x y : Nat} (hx : x < W) (hy : y < H) : y * W + x < W * H := by
  have : (y + 1) * W ≤ H * W := Nat.mul_le_mul_right W hy
  rw [Nat.add_mul] at this
  rw [Nat.mul_comm W H]
  omega
theorem pos_mod {W x y : Nat} (hx : x < W) : (y * W + x) % W = x ∧ (y * W + x) / W = y := by
  constructor
  · rw [Nat.add_comm, Nat.add_mul_mod_self_right, Nat.mod_eq_of_lt hx]
  · rw [Nat.add_comm, Nat.add_mul_div_right _ _ (by omega), Nat.div_eq_of_lt hx]; omega
theorem pixN_snoc {W x y : Nat} (px : Int → Int → Int) (hx : x < W) : pixN W px (y * W + x + 1) = pixN W px (y * W + x) ++ [px x y] := by
  unfold pixN
  rw [List.range_succ, List.map_append]
  simp only [List.map_cons, List.map_nil, pos_mod hx]
theorem pixL_get? {W H x y : Nat} (px : Int → Int → Int) (hx : x < W) (hy : y < H) : (pixL W H px)[y * W + x]? = some (px x y) := by
  unfold pixL pixN
  rw [List.getElem?_map, List.getElem?_range (pos_lt hx hy)]
  simp only [Option.map_some, (pos_mod hx).1, (pos_mod hx).2]
theorem pixL_get {W H x y : Nat} (px : Int → Int → Int) (hx : x < W) (hy : y < H) (h : y * W + x < (pixL W H px).length) : (pixL W H px)[y * W + x] = px x y :=
  (List.getElem?_eq_some_iff.1 (pixL_get? px hx hy)).2
theorem pixL_congr {W H : Nat} {p q : Int → Int → Int} (h : ∀ x y : Nat, x < W → y < H → p x y = q x y) : pixL W H p = pixL W H q := by
  unfold pixL pixN
  refine List.map_congr_left fun k hk => ?_
  have hk' : k < W * H := List.mem_range.1 hk
  have hW : 0 < W := by
    rcases Nat.eq_zero_or_pos W with e | e
    · subst e; simp at hk'
    · exact e
  exact h _ _ (Nat.mod_lt _ hW) (Nat.div_lt_of_lt_mul hk')
structure Img where
  W : Nat
  H : Nat
  px : Int → Int → Int
/-- Sizes that rasters may have. -/
def Sized (m : Img) : Prop := 1 ≤ m.W ∧ m.W ≤ 1024 ∧ 1 ≤ m.H ∧ m.H ≤ 1024
def listI (m : Img) : List Int := pixL m.W m.H m.px
/-- Two rasters show the same. -/
def SameI (m n : Img) : Prop := m.W = n.W ∧ m.H = n.H ∧ ∀ x y : Nat, x < m.W → y < m.H → m.px x y = n.px x y
theorem SameI.list {m n : Img} (h : SameI m n) : listI m = listI n := by
  obtain ⟨h1, h2, h3⟩ := h
  unfold listI
  rw [← h1, ← h2]
  exact pixL_congr h3
theorem sized_area {m : Img} (h : Sized m) : 1 ≤ m.W * m.H ∧ m.W * m.H ≤ 1048576 := by
  obtain ⟨a, b, c, d⟩ := h
  have h1 : 1 * 1 ≤ m.W * m.H := Nat.mul_le_mul a c
  have h2 : m.W * m.H ≤ 1024 * 1024 := Nat.mul_le_mul b d
  omega
def cropI (m : Img) (x y : Int) (w h : Nat) : Img := ⟨w, h, fun i j => m.px (x + i) (y + j)⟩
def pasteI (m : Img) (x y : Int) (p : Img) : Img := ⟨m.W, m.H, fun a b => if x ≤ a ∧ a < x + p.W ∧ y ≤ b ∧ b < y + p.H then p.px (a - x) (b - y) else m.px a b⟩
/-- Clockwise quarter turns, k of 0 .. 3. -/
def turnI (m : Img) (k : Int) : Img :=
  if k = 1 then ⟨m.H, m.W, fun x y => m.px y ((m.H : Int) - 1 - x)⟩
  else if k = 2 then ⟨m.W, m.H, fun x y => m.px ((m.W : Int) - 1 - x) ((m.H : Int) - 1 - y)⟩
  else if k = 3 then ⟨m.H, m.W, fun x y => m.px ((m.W : Int) - 1 - y) x⟩
  else m
def fillI (W H : Nat) (v : Int) : Img := ⟨W, H, fun _ _ => v⟩
end Go.Proofs.Ytdblibjmgamjeaa
namespace Go.Proofs.Ytdblibjmgamjeaa
open Go.RowKit
set_option linter.unusedVariables false
theorem elemPx : ElemType Try.prog 5 (.int .u8 0) 1 1 := ElemType.mk (by kernel_rfl) rfl (by decide)
def encPx (x : Int) : List Value := [.int .u8 x]
abbrev OwnPx (w : World) (base : Nat) (v : Value) (xs : List Int) : Prop := Go.Proofs.Ytdblibjmgamjeaa.Own w base 5 1 encPx v xs
/-- A raster of the call's own is returned. -/
def RetGrid (m : Img) (w : World) (e : Ending) (w' : World) : Prop := ∃ o cap, e = .returned (.agg #[.int .i64 m.W, .int .i64 m.H, .slice o (listI m).length cap]) ∧ OwnPx w' w.heap.size (.slice o (listI m).length cap) (listI m) ∧ Below w.heap.size w w'
def madeP (n : Nat) : Array Value := madeCells #[.int .u8 0] (n * 1)
theorem madeP_size (n : Nat) : (madeP n).size = n * 1 := size_madeCells _ _
/-- 'make([]uint8, 0, n)'. -/
theorem run_make0 (n : Nat) (hn : n ≤ 281474976710656) : ∀ w : World, (Instr.makeSlice 35 (.int .i64 0) (.int .i64 (n : Int))).run Try.prog w = .ok (.slice (some ⟨w.heap.size, 0, none⟩) 0 n) (w.alloc (.cells (madeP n) 5)) := by
  intro w
  obtain ⟨i, hi, hz, hsz, hby, hzs, h0⟩ := elemPx
  have hr := run_make (P := Try.prog) w 35 5 i (.int .u8 0) Try.underlying35 hi hz .i64 .i64 0 n (by omega) (by omega) (by rw [hby]; omega) (by omega)
  rw [hr, hsz]
  rfl
/-- The raster under way: its block g, the result's block r. -/
structure GrU (w : World) (g r : Nat) (wr : World) (x y : Value) (v : Value) (xs : List Int) : Prop where
  bel : Below w.heap.size w wr
  tab : FTab (fun v : Value => v) wr g 3 (outF x y v)
  res : FTab (fun v : Value => v) wr r 3 (outF (.int .i64 0) (.int .i64 0) (.slice none 0 0))
  op : OwnPx wr w.heap.size v xs
  ne : v.ownBlock ≠ some g ∧ v.ownBlock ≠ some r
  lt : g < wr.heap.size ∧ r < wr.heap.size ∧ w.heap.size ≤ g ∧ w.heap.size ≤ r ∧ r ≠ g
section
variable {w wr w' : World} {g r : Nat} {x y v v' : Value} {xs : List Int}
theorem GrU.below (h : GrU w g r wr x y v xs) (hb : Below wr.heap.size wr w') : GrU w g r w' x y v xs :=
  ⟨h.bel.trans (hb.mono h.bel.size), h.tab.below hb h.lt.1, h.res.below hb h.lt.2.1, h.op.below hb, h.ne, Nat.lt_of_lt_of_le h.lt.1 hb.size, Nat.lt_of_lt_of_le h.lt.2.1 hb.size, h.lt.2.2⟩
theorem GrU.mid (h : GrU w g r wr x y v xs) (hgr : wr.grownBy w' v.ownBlock) : FTab (fun v : Value => v) w' g 3 (outF x y v) :=
  h.tab.heap (hgr.block g h.lt.1 fun e => h.ne.1 e.symm)
theorem GrU.add (h : GrU w g r wr x y v xs) {p : Int} (hown : OwnPx w' w.heap.size v' (xs ++ [p])) (hgr : wr.grownBy w' v.ownBlock) (hat : v'.ownBlock = v.ownBlock ∨ v'.ownBlock = some wr.heap.size) :
    GrU w g r (w'.setCell ⟨g, 2, none⟩ v') x y v' (xs ++ [p]) := by
  obtain ⟨l1, l2, l3, l4, l5⟩ := h.lt
  have hz := hgr.size
  have hv'g : v'.ownBlock ≠ some g ∧ v'.ownBlock ≠ some r := by
    rcases hat with e | e
    · rw [e]; exact h.ne
    · rw [e]; exact ⟨fun e2 => by cases e2; omega, fun e2 => by cases e2; omega⟩
  refine ⟨?_, ?_, ?_, ?_, hv'g, by simp; omega, by simp; omega, l3, l4, l5⟩
  · exact (h.bel.grown hgr h.bel.size (fun j hj => (h.op.blk hj).1)).setCell (p := ⟨g, 2, none⟩) l3 v'
  · exact ((h.mid hgr).set (i := 2) (by omega) v').congr (outF_set x y v v')
  · exact (h.res.heap (hgr.block r l2 fun e => h.ne.2 e.symm)).other (fun e => l5 e.symm) v'
  · exact hown.heap fun k e => Below.heap_setCell _ _ _ k fun e2 => hv'g.1 (by rw [e, show k = g from e2])
end
theorem buildRes : Try.f45.results = #[.cell 6 74] := rfl
end Go.Proofs.Ytdblibjmgamjeaa
