/-
  The memory of the law TopForwardInverse. Own text.
-/
import Derived.Test.YtiokmfmcmfbjoaaSCol
import Derived.Test.YtiokmfmcmfbjoaaOpen
namespace Go.Proofs.Ytiokmfmcmfbjoaa
open Go.RowKit
set_option linter.unusedVariables false
/-- The seven cells of a question as a table. -/
def askF (x0 x1 x2 st : Int) (gl gh d : Nat) : Nat → Value
  | 0 => .int .i64 x0
  | 1 => .int .i64 x1
  | 2 => .int .i64 x2
  | 3 => .int .i64 st
  | 4 => .int .i64 2040
  | 5 => .slice (some ⟨gl, 0, none⟩) d d
  | _ => .slice (some ⟨gh, 0, none⟩) d d
structure LM (w1 : World) (ba gl gh d : Nat) (x0 x1 x2 st : Int) (H : Nat → Int) (W : World) : Prop where
  bel : Below w1.heap.size w1 W
  ask : FTab (fun v : Value => v) W ba 7 (askF x0 x1 x2 st gl gh d)
  low : FTab (Value.int .i64) W gl d (fun _ => 0)
  high : FTab (Value.int .i64) W gh d H
  za : w1.heap.size ≤ ba ∧ ba < W.heap.size
  zl : w1.heap.size ≤ gl ∧ gl < W.heap.size
  zh : w1.heap.size ≤ gh ∧ gh < W.heap.size
  n1 : ba ≠ gl
  n2 : ba ≠ gh
  n3 : gl ≠ gh
section
variable {w1 : World} {ba gl gh d : Nat} {x0 x1 x2 st : Int} {H : Nat → Int} {W W' : World}
theorem LM.drewN (h : LM w1 ba gl gh d x0 x1 x2 st H W) (q : Nat) : LM w1 ba gl gh d x0 x1 x2 st H (W.drewN q) :=
  ⟨bdrewN h.bel q, h.ask.drewN q, h.low.drewN q, h.high.drewN q, h.za, h.zl, h.zh, h.n1, h.n2, h.n3⟩
theorem LM.below (h : LM w1 ba gl gh d x0 x1 x2 st H W) (hb : Below W.heap.size W W') : LM w1 ba gl gh d x0 x1 x2 st H W' := by
  have hs := hb.size
  obtain ⟨h0, h1, h2, h3, h4, h5, h6, h7, h8, h9⟩ := h
  exact ⟨bthen h0 hb, h1.below hb h4.2, h2.below hb h5.2, h3.below hb h6.2, by omega, by omega, by omega, h7, h8, h9⟩
theorem LM.other (h : LM w1 ba gl gh d x0 x1 x2 st H W) {g o : Nat} (g0 : w1.heap.size ≤ g) (g1 : g ≠ ba) (g2 : g ≠ gl) (g3 : g ≠ gh) (v : Value) : LM w1 ba gl gh d x0 x1 x2 st H (W.setCell ⟨g, o, none⟩ v) := by
  obtain ⟨h0, h1, h2, h3, h4, h5, h6, h7, h8, h9⟩ := h
  exact ⟨h0.setCell (p := ⟨g, o, none⟩) g0 v, h1.other g1 v, h2.other g2 v, h3.other g3 v, by simpa using h4, by simpa using h5, by simpa using h6, h7, h8, h9⟩
theorem LM.setHigh (h : LM w1 ba gl gh d x0 x1 x2 st H W) {k : Nat} (hk : k < d) (v : Int) : LM w1 ba gl gh d x0 x1 x2 st (fun i => if i = k then v else H i) (W.setCell ⟨gh, k, none⟩ (.int .i64 v)) := by
  obtain ⟨h0, h1, h2, h3, h4, h5, h6, h7, h8, h9⟩ := h
  exact ⟨h0.setCell (p := ⟨gh, k, none⟩) h6.1 _, h1.other h8.symm _, h2.other h9.symm _, h3.set hk v, by simpa using h4, by simpa using h5, by simpa using h6, h7, h8, h9⟩
theorem LM.congr {H' : Nat → Int} (h : LM w1 ba gl gh d x0 x1 x2 st H W) (he : ∀ i, i < d → H i = H' i) : LM w1 ba gl gh d x0 x1 x2 st H' W := by
  obtain ⟨h0, h1, h2, h3, h4, h5, h6, h7, h8, h9⟩ := h
  exact ⟨h0, h1, h2, h3.congr he, h4, h5, h6, h7, h8, h9⟩
theorem LM.aim (h : LM w1 ba gl gh d x0 x1 x2 st H W) (y0 y1 y2 : Int) : LM w1 ba gl gh d y0 y1 y2 st H (((W.setCell ⟨ba, 0, none⟩ (.int .i64 y0)).setCell ⟨ba, 1, none⟩ (.int .i64 y1)).setCell ⟨ba, 2, none⟩ (.int .i64 y2)) := by
  obtain ⟨h0, h1, h2, h3, h4, h5, h6, h7, h8, h9⟩ := h
  refine ⟨((h0.setCell (p := ⟨ba, 0, none⟩) h4.1 _).setCell (p := ⟨ba, 1, none⟩) h4.1 _).setCell (p := ⟨ba, 2, none⟩) h4.1 _, ?_, ((h2.other h7 _).other h7 _).other h7 _, ((h3.other h8 _).other h8 _).other h8 _, by simpa using h4, by simpa using h5, by simpa using h6, h7, h8, h9⟩
  have q0 := h1.set (i := 0) (by omega) (.int .i64 y0)
  have q1 := q0.set (i := 1) (by omega) (.int .i64 y1)
  have q2 := q1.set (i := 2) (by omega) (.int .i64 y2)
  refine q2.congr fun i hi => ?_
  match i, hi with
  | 0, _ => rfl
  | 1, _ => rfl
  | 2, _ => rfl
  | 3, _ => rfl
  | 4, _ => rfl
  | 5, _ => rfl
  | 6, _ => rfl
end
/-- Three new blocks. -/
def At3 (w : World) (A B C : Obj) (g : Nat) (o : Obj) : Prop := (g = w.heap.size ∧ o = A) ∨ (g = w.heap.size + 1 ∧ o = B) ∨ (g = w.heap.size + 1 + 1 ∧ o = C)
theorem At3.heap {w : World} {A B C : Obj} {g : Nat} {o : Obj} (h : At3 w A B C g o) : (((w.alloc A).alloc B).alloc C).heap[g]? = some o ∧ w.heap.size ≤ g ∧ g < (((w.alloc A).alloc B).alloc C).heap.size := by
  have s1 : (w.alloc A).heap.size = w.heap.size + 1 := World.size_alloc _ _
  have s2 : ((w.alloc A).alloc B).heap.size = w.heap.size + 1 + 1 := by rw [World.size_alloc, s1]
  have s3 : (((w.alloc A).alloc B).alloc C).heap.size = w.heap.size + 1 + 1 + 1 := by rw [World.size_alloc, s2]
  have b2 := balloc (Below.refl _ (w.alloc A)) B
  have b3 := balloc (Below.refl _ ((w.alloc A).alloc B)) C
  rcases h with ⟨rfl, rfl⟩ | ⟨rfl, rfl⟩ | ⟨rfl, rfl⟩
  · exact ⟨by rw [b3.block _ (by omega), b2.block _ (by omega)]; exact heap_alloc_new w o, by omega, by omega⟩
  · refine ⟨?_, by omega, by omega⟩
    have h := heap_alloc_new (w.alloc A) o
    rw [s1] at h
    rw [b3.block _ (by omega), h]
  · refine ⟨?_, by omega, by omega⟩
    have h := heap_alloc_new ((w.alloc A).alloc B) o
    rw [s2] at h
    exact h
theorem FTab.ofHeap {α : Type} {f : α → Value} {W : World} {g n : Nat} {t : Nat → α} {cs : Array Value} {e : TypeId} (h : W.heap[g]? = some (.cells cs e)) (hc : ∀ i, i < n → cs[i]? = some (f (t i))) : FTab f W g n t := by
  refine ⟨fun i hi => ?_, fun o => ?_⟩
  · rw [cell_of_row _ g i _ e (0, 0) h]
    exact hc i hi
  · unfold World.frozen?
    rw [h]
    simp
theorem LM.made {w1 w2 : World} {A B C : Obj} {ba gl gh d : Nat} {st : Int} {ta tr : TypeId} (hb : Below w1.heap.size w1 w2)
    (hA : At3 w2 A B C ba (.cells #[.int .i64 0, .int .i64 0, .int .i64 0, .int .i64 st, .int .i64 2040, .slice (some ⟨gl, 0, none⟩) d d, .slice (some ⟨gh, 0, none⟩) d d] ta))
    (hL : At3 w2 A B C gl (.cells (madeArr (.int .i64 0) d) tr)) (hH : At3 w2 A B C gh (.cells (madeArr (.int .i64 0) d) tr)) (n1 : ba ≠ gl) (n2 : ba ≠ gh) (n3 : gl ≠ gh) :
    LM w1 ba gl gh d 0 0 0 st (fun _ => 0) (((w2.alloc A).alloc B).alloc C) := by
  obtain ⟨a1, a2, a3⟩ := hA.heap
  obtain ⟨l1, l2, l3⟩ := hL.heap
  obtain ⟨h1, h2, h3⟩ := hH.heap
  have hs := hb.size
  refine ⟨balloc (balloc (balloc hb _) _) _, FTab.ofHeap a1 fun i hi => ?_, FTab.ofHeap l1 fun i hi => madeArr_get _ hi, FTab.ofHeap h1 fun i hi => madeArr_get _ hi, ⟨by omega, a3⟩, ⟨by omega, l3⟩, ⟨by omega, h3⟩, n1, n2, n3⟩
  match i, hi with
  | 0, _ => rfl
  | 1, _ => rfl
  | 2, _ => rfl
  | 3, _ => rfl
  | 4, _ => rfl
  | 5, _ => rfl
  | 6, _ => rfl
theorem LM.madeE {w1 w2 : World} {A B C : Obj} {ba gl gh d : Nat} {st : Int} {ta tr : TypeId} (hb : Below w1.heap.size w1 w2)
    (hA : At3 w2 A B C ba (.cells #[.int .i64 0, .int .i64 0, .int .i64 0, .int .i64 st, .int .i64 2040, .slice (some ⟨gl, 0, none⟩) d d, .slice (some ⟨gh, 0, none⟩) d d] ta))
    (hL : At3 w2 A B C gl (.cells (madeArr (.int .i64 0) d) tr)) (hH : At3 w2 A B C gh (.cells (madeArr (.int .i64 0) d) tr)) (n1 : ba ≠ gl) (n2 : ba ≠ gh) (n3 : gl ≠ gh) :
    ∃ b l h : Nat, Value.pointer (some ⟨ba, 0, none⟩) = .pointer (some ⟨b, 0, none⟩) ∧ Hid (LM w1 b l h d 0 0 0 st (fun _ => 0) (((w2.alloc A).alloc B).alloc C).drew) := ⟨ba, gl, gh, rfl, (LM.made hb hA hL hH n1 n2 n3).drewN 1⟩
theorem BoxAt.all7 {W : World} {b : Nat} {v0 v1 v2 v3 v4 v5 v6 : Value} (h : BoxAt W b 0 #[v0, v1, v2, v3, v4, v5, v6]) :
    W.cell? ⟨b, 0, none⟩ = some v0 ∧ W.cell? ⟨b, 1, none⟩ = some v1 ∧ W.cell? ⟨b, 2, none⟩ = some v2 ∧ W.cell? ⟨b, 3, none⟩ = some v3 ∧ W.cell? ⟨b, 4, none⟩ = some v4 ∧ W.cell? ⟨b, 5, none⟩ = some v5 ∧ W.cell? ⟨b, 6, none⟩ = some v6 :=
  ⟨h.at' 0 _ rfl, h.at' 1 _ rfl, h.at' 2 _ rfl, h.at' 3 _ rfl, h.at' 4 _ rfl, h.at' 5 _ rfl, h.at' 6 _ rfl⟩
/-- The tone that is taken for a number. -/
def modV (x : Int) : Int := x % 256
theorem modV_bd (x : Int) : 0 ≤ modV x ∧ modV x ≤ 255 := by unfold modV; omega
theorem smod_t (x : Int) : (x.tmod 256 + 256).tmod 256 = x % 256 ∧ -256 < x.tmod 256 ∧ x.tmod 256 < 256 := by
  have h1 := Int.tmod_eq_emod (a := x) (b := 256)
  have h2 := tmod_bd x 256 (by omega)
  refine ⟨?_, h2.1, h2.2⟩
  rw [Int.tmod_eq_emod_of_nonneg (by omega), h1]
  split <;> omega
set_option maxHeartbeats 1000000 in
theorem smod_any (x : Int) (hx : i64ok x) (w : World) : Calls Try.prog 6 #[.int .i64 x, .int .i64 256] w (fun e w' => e = .returned (.int .i64 (modV x)) ∧ w = w') := by
  obtain ⟨h1, h2, h3⟩ := smod_t x
  have HM : Hid ((x.tmod 256 + 256).tmod 256 = modV x) := h1
  obtain ⟨hx1, hx2⟩ := hx
  have hw : IntKind.i64.wrap (x.tmod 256) = x.tmod 256 := IntWalk.i64_in _ (by omega)
  have hw2 : IntKind.i64.wrap (x.tmod 256 + 256) = x.tmod 256 + 256 := IntWalk.i64_in _ (by omega)
  go_enter Try.func6, Try.ntmps6
  go_wp2
  go_ret
  exact ⟨rfl, rfl⟩
end Go.Proofs.Ytiokmfmcmfbjoaa
