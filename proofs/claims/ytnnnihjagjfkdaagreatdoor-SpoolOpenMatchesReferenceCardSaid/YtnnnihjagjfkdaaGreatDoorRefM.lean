/-
  The memory of the reference's Area, and what a line does. Own text.
-/
import Derived.Test.YtnnnihjagjfkdaaGreatDoorRefR
import Derived.StillTailTactics
import Derived.Deep.RegionHeld3
import Derived.Deep.RegionLaw
import Derived.RegionTactic
import Derived.BigRegion
namespace Go.Proofs.YtnnnihjagjfkdaaGreatDoor
open Go.RowKit
set_option linter.unusedVariables false
def arF (vj : Value) (ep nx sz : Int) : Nat → Value
  | 0 => vj
  | 1 => .int .i64 ep
  | 2 => .int .i64 nx
  | _ => .int .i64 sz
/-- The result's struct and the one that is filled. -/
structure ArAt (w wr : World) (a2 a5 : Nat) (vj : Value) (J : List Sj) (ep nx sz : Int) : Prop where
  be : Below w.heap.size w wr
  t2 : FTab (fun v : Value => v) wr a2 4 (arF (.slice none 0 0) 0 0 0)
  t5 : FTab (fun v : Value => v) wr a5 4 (arF vj ep nx sz)
  own : Own wr w.heap.size 41 2 encSj vj J
  b2 : w.heap.size ≤ a2
  b5 : w.heap.size ≤ a5
  ne : a2 ≠ a5
  n2 : vj.ownBlock ≠ some a2
  n5 : vj.ownBlock ≠ some a5
theorem arF_new (w : World) (vj : Value) (ep nx sz : Int) : FTab (fun v : Value => v) (w.alloc (.cells #[vj, .int .i64 ep, .int .i64 nx, .int .i64 sz] 69)) w.heap.size 4 (arF vj ep nx sz) := by
  refine ⟨fun i hi => ?_, fun o => ?_⟩
  · rw [cell_of_row _ w.heap.size i _ _ (0, 0) (heap_alloc_new w _)]
    match i, hi with
    | 0, _ => rfl
    | 1, _ => rfl
    | 2, _ => rfl
    | 3, _ => rfl
  · unfold World.frozen?
    rw [heap_alloc_new]
    simp
section
variable {w wr w' : World} {a2 a5 : Nat} {vj : Value} {J : List Sj} {ep nx sz : Int}
theorem ArAt.lt2 (h : ArAt w wr a2 a5 vj J ep nx sz) : a2 < wr.heap.size := h.t2.lt (by omega)
theorem ArAt.lt5 (h : ArAt w wr a2 a5 vj J ep nx sz) : a5 < wr.heap.size := h.t5.lt (by omega)
theorem ArAt.below (h : ArAt w wr a2 a5 vj J ep nx sz) (hb : Below wr.heap.size wr w') : ArAt w w' a2 a5 vj J ep nx sz :=
  ⟨bthen h.be hb, h.t2.below hb h.lt2, h.t5.below hb h.lt5, h.own.below hb, h.b2, h.b5, h.ne, h.n2, h.n5⟩
theorem ArAt.drewN (h : ArAt w wr a2 a5 vj J ep nx sz) (n : Nat) : ArAt w (wr.drewN n) a2 a5 vj J ep nx sz :=
  ⟨bdrewN h.be n, h.t2.drewN n, h.t5.drewN n, h.own.drewN n, h.b2, h.b5, h.ne, h.n2, h.n5⟩
theorem ArAt.setN (h : ArAt w wr a2 a5 vj J ep nx sz) (i : Nat) (hi : 1 ≤ i) (hi4 : i < 4) (x : Int) {ep' nx' sz' : Int} (he : ∀ j, j < 4 → (if j = i then Value.int .i64 x else arF vj ep nx sz j) = arF vj ep' nx' sz' j) : ArAt w (wr.setCell ⟨a5, i, none⟩ (.int .i64 x)) a2 a5 vj J ep' nx' sz' :=
  ⟨h.be.setCell (p := ⟨a5, i, none⟩) h.b5 _, h.t2.other (fun e => h.ne e.symm) _, (h.t5.set hi4 _).congr he, own_other h.own (fun e => h.n5 e) _, h.b2, h.b5, h.ne, h.n2, h.n5⟩
theorem ArAt.c2 (h : ArAt w wr a2 a5 vj J ep nx sz) : wr.cell? ⟨a2, 0, none⟩ = some (.slice none 0 0) ∧ wr.cell? ⟨a2, 1, none⟩ = some (.int .i64 0) ∧ wr.cell? ⟨a2, 2, none⟩ = some (.int .i64 0) ∧ wr.cell? ⟨a2, 3, none⟩ = some (.int .i64 0) := ⟨h.t2.at' 0 (by omega), h.t2.at' 1 (by omega), h.t2.at' 2 (by omega), h.t2.at' 3 (by omega)⟩
theorem ArAt.c5 (h : ArAt w wr a2 a5 vj J ep nx sz) : wr.cell? ⟨a5, 0, none⟩ = some vj ∧ wr.cell? ⟨a5, 1, none⟩ = some (.int .i64 ep) ∧ wr.cell? ⟨a5, 2, none⟩ = some (.int .i64 nx) ∧ wr.cell? ⟨a5, 3, none⟩ = some (.int .i64 sz) := ⟨h.t5.at' 0 (by omega), h.t5.at' 1 (by omega), h.t5.at' 2 (by omega), h.t5.at' 3 (by omega)⟩
/-- The struct is copied to the result. -/
def retW (wr : World) (a2 : Nat) (vj : Value) (ep nx sz : Int) : World := (((wr.setCell ⟨a2, 0, none⟩ vj).setCell ⟨a2, 1, none⟩ (.int .i64 ep)).setCell ⟨a2, 2, none⟩ (.int .i64 nx)).setCell ⟨a2, 3, none⟩ (.int .i64 sz)
structure RetAt (w W : World) (a2 : Nat) (vj : Value) (J : List Sj) (ep nx sz : Int) : Prop where
  be : Below w.heap.size w W
  own : Own W w.heap.size 41 2 encSj vj J
  c0 : W.cell? ⟨a2, 0, none⟩ = some vj
  c1 : W.cell? ⟨a2, 1, none⟩ = some (.int .i64 ep)
  c2 : W.cell? ⟨a2, 2, none⟩ = some (.int .i64 nx)
  c3 : W.cell? ⟨a2, 3, none⟩ = some (.int .i64 sz)
theorem ArAt.ret (h : ArAt w wr a2 a5 vj J ep nx sz) : RetAt w (retW wr a2 vj ep nx sz) a2 vj J ep nx sz := by
  have t1 := (((h.t2.set (i := 0) (by omega) vj).set (i := 1) (by omega) (.int .i64 ep)).set (i := 2) (by omega) (.int .i64 nx)).set (i := 3) (by omega) (.int .i64 sz)
  refine ⟨(((h.be.setCell (p := ⟨a2, 0, none⟩) h.b2 _).setCell (p := ⟨a2, 1, none⟩) h.b2 _).setCell (p := ⟨a2, 2, none⟩) h.b2 _).setCell (p := ⟨a2, 3, none⟩) h.b2 _, own_other (own_other (own_other (own_other h.own (fun e => h.n2 e) _) (fun e => h.n2 e) _) (fun e => h.n2 e) _) (fun e => h.n2 e) _, t1.at' 0 (by omega), t1.at' 1 (by omega), t1.at' 2 (by omega), t1.at' 3 (by omega)⟩
end
theorem nil_eq (W : World) : (binOp .eql 64 (.slice none 0 0) (.slice none 0 0)).run Tryz.prog W = .ok (.bool true) W := by kernel_rfl
theorem nil_ne (W : World) (a : Addr) (n c : Nat) : (binOp .eql 64 (.slice (some a) n c) (.slice none 0 0)).run Tryz.prog W = .ok (.bool false) W := by kernel_rfl
theorem cell_far {w : World} {b g o o' : Nat} (v : Value) (h : g ≠ b) : (w.setCell ⟨b, o, none⟩ v).cell? ⟨g, o', none⟩ = w.cell? ⟨g, o', none⟩ := World.cell?_of_block (w := w) (Below.heap_setCell w ⟨b, o, none⟩ v g (fun e => h e))
theorem Flat.setFar {w : World} {b g : Nat} {xs : List (List UInt8)} (h : Flat w 1 encT (some ⟨g, 0, none⟩) xs) (hn : g ≠ b) (o : Nat) (v : Value) : Flat (w.setCell ⟨b, o, none⟩ v) 1 encT (some ⟨g, 0, none⟩) xs := fun i hi j hj => by
  obtain ⟨u, hu, b1, off, e, hc⟩ := h i hi j hj
  simp only [Option.some.injEq, Addr.mk.injEq, and_true] at e
  obtain ⟨rfl, rfl⟩ := e
  exact ⟨u, hu, g, 0, rfl, by rw [cell_far v hn]; exact hc⟩
theorem areaRes : Tryz.f26.results = #[.cell 2 69, .tmp 3] := rfl
/-- What Area returns. -/
def RetArea (S : List UInt8) (w : World) (e : Ending) (w' : World) : Prop := Below w.heap.size w w' ∧
  ((begunV S = none ∧ ∃ x y z, e = .returned (.tuple #[.agg #[.slice none 0 0, .int .i64 x, .int .i64 y, .int .i64 z], .bool false])) ∨
   ∃ q0 s0 q s vj, begunV S = some (q0, s0) ∧ runV (s0.rest.length + 1) q0 s0 = (q, s) ∧ e = .returned (.tuple #[.agg #[vj, .int .i64 q0.epoch, .int .i64 q.next, .int .i64 s.read], .bool true]) ∧ Own w' w.heap.size 41 2 encSj vj (q.jobs.map showJ))
theorem Flat.setB {α : Type} {w : World} {b g k : Nat} {enc : α → List Value} {xs : List α} (h : Flat w k enc (some ⟨g, 0, none⟩) xs) (hn : g ≠ b) (o : Nat) (v : Value) : Flat (w.setCell ⟨b, o, none⟩ v) k enc (some ⟨g, 0, none⟩) xs := fun i hi j hj => by
  obtain ⟨u, hu, b1, off, e, hc⟩ := h i hi j hj
  simp only [Option.some.injEq, Addr.mk.injEq, and_true] at e
  obtain ⟨rfl, rfl⟩ := e
  exact ⟨u, hu, g, 0, rfl, by rw [cell_far v hn]; exact hc⟩
/-- The memory in the loop: the struct, the lines, the head's words. -/
structure ArM (w wr : World) (a2 a5 g gh : Nat) (vj : Value) (J : List Sj) (ep nx sz : Int) (ps : List (List UInt8)) (x1 : List UInt8) : Prop where
  ar : ArAt w wr a2 a5 vj J ep nx sz
  fl : Flat wr 1 encT (some ⟨g, 0, none⟩) ps
  hd : wr.cell? ⟨gh, 1, none⟩ = some (.string (strB x1))
  lg : g < wr.heap.size
  lh : gh < wr.heap.size
  ng : vj.ownBlock ≠ some g
  nh : vj.ownBlock ≠ some gh
  fg : g ≠ a5
  fh : gh ≠ a5
section
variable {w wr w' : World} {a2 a5 g gh : Nat} {vj : Value} {J : List Sj} {ep nx sz : Int} {ps : List (List UInt8)} {x1 : List UInt8}
theorem ArM.below (h : ArM w wr a2 a5 g gh vj J ep nx sz ps x1) (hb : Below wr.heap.size wr w') : ArM w w' a2 a5 g gh vj J ep nx sz ps x1 :=
  ⟨h.ar.below hb, h.fl.below hb, keepCell hb h.hd, Nat.lt_of_lt_of_le h.lg hb.size, Nat.lt_of_lt_of_le h.lh hb.size, h.ng, h.nh, h.fg, h.fh⟩
theorem ArM.setN (h : ArM w wr a2 a5 g gh vj J ep nx sz ps x1) (i : Nat) (hi : 1 ≤ i) (hi4 : i < 4) (x : Int) {ep' nx' sz' : Int} (he : ∀ j, j < 4 → (if j = i then Value.int .i64 x else arF vj ep nx sz j) = arF vj ep' nx' sz' j) : ArM w (wr.setCell ⟨a5, i, none⟩ (.int .i64 x)) a2 a5 g gh vj J ep' nx' sz' ps x1 :=
  ⟨h.ar.setN i hi hi4 x he, h.fl.setB h.fg i _, by rw [cell_far _ h.fh]; exact h.hd, by rw [World.size_setCell]; exact h.lg, by rw [World.size_setCell]; exact h.lh, h.ng, h.nh, h.fg, h.fh⟩
theorem ArM.next (h : ArM w wr a2 a5 g gh vj J ep nx sz ps x1) (x : Int) : ArM w (wr.setCell ⟨a5, 2, none⟩ (.int .i64 x)) a2 a5 g gh vj J ep x sz ps x1 :=
  h.setN 2 (by omega) (by omega) x (fun j hj => by match j, hj with | 0, _ => rfl | 1, _ => rfl | 2, _ => rfl | 3, _ => rfl)
theorem ArM.size (h : ArM w wr a2 a5 g gh vj J ep nx sz ps x1) (x : Int) : ArM w (wr.setCell ⟨a5, 3, none⟩ (.int .i64 x)) a2 a5 g gh vj J ep nx x ps x1 :=
  h.setN 3 (by omega) (by omega) x (fun j hj => by match j, hj with | 0, _ => rfl | 1, _ => rfl | 2, _ => rfl | 3, _ => rfl)
theorem ArM.put (h : ArM w wr a2 a5 g gh vj J ep nx sz ps x1) {u : Value} {K : List Sj} (hown : Own wr w.heap.size 41 2 encSj u K) (hn : ∀ j, u.ownBlock = some j → j ≠ a2 ∧ j ≠ a5 ∧ j ≠ g ∧ j ≠ gh) : ArM w (wr.setCell ⟨a5, 0, none⟩ u) a2 a5 g gh u K ep nx sz ps x1 :=
  ⟨⟨h.ar.be.setCell (p := ⟨a5, 0, none⟩) h.ar.b5 _, h.ar.t2.other (fun e => h.ar.ne e.symm) _, (h.ar.t5.set (i := 0) (by omega) u).congr (fun j hj => by match j, hj with | 0, _ => rfl | 1, _ => rfl | 2, _ => rfl | 3, _ => rfl), own_other hown (fun e => (hn _ e).2.1 rfl) _, h.ar.b2, h.ar.b5, h.ar.ne, fun e => (hn _ e).1 rfl, fun e => (hn _ e).2.1 rfl⟩, h.fl.setB h.fg 0 _, by rw [cell_far _ h.fh]; exact h.hd, by rw [World.size_setCell]; exact h.lg, by rw [World.size_setCell]; exact h.lh, fun e => (hn _ e).2.2.1 rfl, fun e => (hn _ e).2.2.2 rfl, h.fg, h.fh⟩
theorem Flat.ofBlock {α : Type} {w w' : World} {g k : Nat} {enc : α → List Value} {xs : List α} (h : Flat w k enc (some ⟨g, 0, none⟩) xs) (hb : w'.heap[g]? = w.heap[g]?) : Flat w' k enc (some ⟨g, 0, none⟩) xs := fun i hi j hj => by
  obtain ⟨u, hu, b1, off, e, hc⟩ := h i hi j hj
  simp only [Option.some.injEq, Addr.mk.injEq, and_true] at e
  obtain ⟨rfl, rfl⟩ := e
  exact ⟨u, hu, g, 0, rfl, by rw [World.cell?_of_block (w := w) hb]; exact hc⟩
theorem FTab.grown {α : Type} {f : α → Value} {t : Nat → α} {n b : Nat} {row : Option Nat} (h : FTab f wr b n t) (hn : 0 < n) (hg : wr.grownBy w' row) (hr : row ≠ some b) : FTab f w' b n t := by
  have hb : w'.heap[b]? = wr.heap[b]? := hg.block b (h.lt hn) (fun e => hr e.symm)
  exact ⟨fun i hi => by rw [World.cell?_of_block (w := wr) hb]; exact h.at' i hi, fun o => by have := h.fz o; unfold World.frozen? at this ⊢; rw [hb]; exact this⟩
/-- A row has grown: the struct's jobs. -/
theorem ArM.app (h : ArM w wr a2 a5 g gh vj J ep nx sz ps x1) {g7 n cap : Nat} {K : List Sj} (hown : Own w' w.heap.size 41 2 encSj (.slice (some ⟨g7, 0, none⟩) n cap) K) (hg : wr.grownBy w' vj.ownBlock) (hat : vj.ownBlock = some g7 ∨ g7 = wr.heap.size) : ArM w (w'.setCell ⟨a5, 0, none⟩ (.slice (some ⟨g7, 0, none⟩) n cap)) a2 a5 g gh (.slice (some ⟨g7, 0, none⟩) n cap) K ep nx sz ps x1 := by
  have l2 := h.ar.lt2
  have l5 := h.ar.lt5
  have hsz : wr.heap.size ≤ w'.heap.size := hg.size
  have e2 := h.ar.n2
  have e5 := h.ar.n5
  have eg := h.ng
  have eh := h.nh
  have hfar : ∀ b, b < wr.heap.size → vj.ownBlock ≠ some b → g7 ≠ b := fun b hb hne e => by
    rcases hat with h1 | h1
    · exact hne (by rw [h1, e])
    · omega
  have hbe : Below w.heap.size w w' := Below.grown h.ar.be hg h.ar.be.size (fun j e => (h.ar.own.blk e).1)
  have own2 : ∀ b, b < wr.heap.size → vj.ownBlock ≠ some b → (Value.slice (some ⟨g7, 0, none⟩) n cap).ownBlock ≠ some b := fun b hb hne e => hfar b hb hne (by simpa [Value.ownBlock] using e)
  refine ⟨⟨hbe.setCell (p := ⟨a5, 0, none⟩) h.ar.b5 _, (h.ar.t2.grown (by omega) hg e2).other (fun e => h.ar.ne e.symm) _, ((h.ar.t5.grown (by omega) hg e5).set (i := 0) (by omega) _).congr (fun j hj => by match j, hj with | 0, _ => rfl | 1, _ => rfl | 2, _ => rfl | 3, _ => rfl), own_other hown (own2 a5 l5 e5) _, h.ar.b2, h.ar.b5, h.ar.ne, own2 a2 l2 e2, own2 a5 l5 e5⟩, ?_, ?_, ?_, ?_, own2 g h.lg eg, own2 gh h.lh eh, h.fg, h.fh⟩
  · exact Flat.setB (h.fl.ofBlock (hg.block g h.lg (fun e => eg e.symm))) h.fg 0 _
  · rw [cell_far _ h.fh, World.cell?_of_block (w := wr) (hg.block gh h.lh (fun e => eh e.symm))]
    exact h.hd
  · rw [World.size_setCell]; exact Nat.lt_of_lt_of_le h.lg hsz
  · rw [World.size_setCell]; exact Nat.lt_of_lt_of_le h.lh hsz
end
/-- A line that is taken. -/
def GoodC (q : Que) (L : Int) (p : Prop) (ws : List (List UInt8)) : Prop :=
  (ws.length = 3 ∧ p ∧ ws.getD 0 [] = keepB ∧ (decV (ws.getD 2 [])).2 = true ∧ L < bigV (ws.getD 1 []) ∧ bigV (ws.getD 1 []) < q.next) ∨
  (ws.length = 3 ∧ ¬ p ∧ ws.getD 0 [] = putB ∧ (decV (ws.getD 2 [])).2 = true ∧ L < bigV (ws.getD 1 []) ∧ bigV (ws.getD 1 []) = q.next ∧ bigV (ws.getD 1 []) ≤ 1073741824 ∧ q.jobs.length < 64) ∨
  (ws.length = 2 ∧ ¬ p ∧ ws.getD 0 [] = doneB ∧ ∃ m, ∃ hm : m < q.jobs.length, q.jobs[m].id = bigV (ws.getD 1 []))
section
variable {S : List UInt8} {ps : List (List UInt8)} {ep : Int} {many i : Nat} {q : Que} {s : Sc} {L : Int}
def WordsAre (o : Option (List (List UInt8))) (ws : List (List UInt8)) : Prop := (o = none ∧ ws = []) ∨ o = some ws
/-- A line that is not taken. -/
def BadE (S : List UInt8) (ep : Int) (many i : Nat) (q : Que) (s : Sc) : Prop := (i < many → begunV S = none) ∧ (many ≤ i → ∃ q0 s0, begunV S = some (q0, s0) ∧ q0.epoch = ep ∧ runV (s0.rest.length + 1) q0 s0 = (q, s))
theorem AreaI.bad (h : AreaI S ps ep many i q s L) (hk : i + 2 < ps.length) {ws : List (List UInt8)} (hw : WordsAre (wordsOfV (ps[i + 1]'(by omega)) (Lib.itoa ep) (i + 1)) ws) (hn : ¬ GoodC q L (i < many) ws) : BadE S ep many i q s := by
  constructor
  · intro him
    refine h.keepBad hk him (fun ws' hw' h3 h0 hc => ?_)
    rcases hw with ⟨e, -⟩ | e
    · rw [e] at hw'; cases hw'
    · rw [e] at hw'
      obtain rfl : ws = ws' := Option.some.inj hw'
      exact hn (.inl ⟨h3, him, h0, hc⟩)
  · intro hge
    refine h.stop hge ?_
    rcases hw with ⟨e, -⟩ | e
    · exact .inl (h.rec0 hk e)
    · refine .inr ⟨ws, _, h.rec1 hk e, ?_⟩
      by_cases c1 : ws.length = 3 ∧ ws.getD 0 [] = putB
      · exact h.putBad c1.1 c1.2 (fun e => hn (.inr (.inl ⟨c1.1, by omega, c1.2, e⟩)))
      · by_cases c2 : ws.length = 2 ∧ ws.getD 0 [] = doneB
        · exact h.doneBad c2.1 c2.2 (fun m hm e => hn (.inr (.inr ⟨c2.1, by omega, c2.2, m, hm, e⟩)))
        · exact applyV_other c1 c2
theorem WordsAre.some {o : Option (List (List UInt8))} {ws : List (List UInt8)} (h : WordsAre o ws) (hn : 0 < ws.length) : o = .some ws := by
  rcases h with ⟨-, e⟩ | e
  · rw [e] at hn; simp at hn
  · exact e
/-- The scanner behind the line. -/
def nextSc (ps : List (List UInt8)) (ep : Int) (i : Nat) (s : Sc) : Sc := ⟨tailV ps (i + 2), ep, s.seq + 1, s.read + ((ps.getD (i + 1) []).length : Nat) + 1⟩
theorem getD_at {ps : List (List UInt8)} {j : Nat} (h : j < ps.length) : ps.getD j [] = ps[j] := by
  rw [List.getD_eq_getElem?_getD, List.getElem?_eq_getElem h]; rfl
theorem AreaI.keep2 (h : AreaI S ps ep many i q s L) (hk : i + 2 < ps.length) (him : i < many) {ws : List (List UInt8)} (hw : WordsAre (wordsOfV (ps[i + 1]'(by omega)) (Lib.itoa ep) (i + 1)) ws) (h3 : ws.length = 3) (h0 : ws.getD 0 [] = keepB) {T : ByteArray} (ht : decV (ws.getD 2 []) = (T.data.toList, true)) (h1 : L < bigV (ws.getD 1 [])) (h2 : bigV (ws.getD 1 []) < q.next) :
    AreaI S ps ep many (i + 1) { q with jobs := q.jobs ++ [⟨bigV (ws.getD 1 []), T, 0, 0⟩] } (nextSc ps ep i s) (bigV (ws.getD 1 [])) := by
  have hg := h.keepGood hk him (hw.some (by omega)) h3 h0 ht h1 h2
  have e : strB T.data.toList = T := rfl
  rw [e] at hg
  unfold nextSc
  rw [getD_at (show i + 1 < ps.length by omega)]
  exact hg
theorem AreaI.put2 (h : AreaI S ps ep many i q s L) (hk : i + 2 < ps.length) (him : many ≤ i) {ws : List (List UInt8)} (hw : WordsAre (wordsOfV (ps[i + 1]'(by omega)) (Lib.itoa ep) (i + 1)) ws) (h3 : ws.length = 3) (h0 : ws.getD 0 [] = putB) {T : ByteArray} (ht : decV (ws.getD 2 []) = (T.data.toList, true)) (h1 : L < bigV (ws.getD 1 [])) (h2 : bigV (ws.getD 1 []) = q.next) (h4 : bigV (ws.getD 1 []) ≤ 1073741824) (h5 : q.jobs.length < 64) :
    AreaI S ps ep many (i + 1) { q with jobs := q.jobs ++ [⟨bigV (ws.getD 1 []), T, 0, 0⟩], next := q.next + 1 } (nextSc ps ep i s) (bigV (ws.getD 1 [])) := by
  have hp := h.putGood h3 h0 ht h1 h2 h4 h5
  have e : strB T.data.toList = T := rfl
  rw [e, ← h2] at hp
  have hla := h.la
  have hnx := h.nx
  have hids : Ids (q.jobs ++ [⟨bigV (ws.getD 1 []), T, 0, 0⟩]) (q.next + 1) := by
    refine Ids.keep ⟨fun i hi => ⟨(h.ids.low i hi).1, by have := (h.ids.low i hi).2; omega⟩, h.ids.up⟩ (by rw [h2]; exact lastId_lt h.ids hnx.1) (by omega) (by omega) T
  have hg := h.apply hk him (hw.some (by omega)) hp (L' := bigV (ws.getD 1 [])) (by rw [h2]; rw [h2] at hids; exact hids) (by show 0 ≤ _ ∧ _ < bigV _ + 1; omega)
  unfold nextSc
  rw [getD_at (show i + 1 < ps.length by omega)]
  rw [h2] at hg ⊢
  exact hg
theorem AreaI.done2 (h : AreaI S ps ep many i q s L) (hk : i + 2 < ps.length) (him : many ≤ i) {ws : List (List UInt8)} (hw : WordsAre (wordsOfV (ps[i + 1]'(by omega)) (Lib.itoa ep) (i + 1)) ws) (h3 : ws.length = 2) (h0 : ws.getD 0 [] = doneB) (hj : ∃ m, ∃ hm : m < q.jobs.length, q.jobs[m].id = bigV (ws.getD 1 [])) :
    ∃ q', AreaI S ps ep many (i + 1) q' (nextSc ps ep i s) L ∧ q'.jobs = q.jobs.filter (fun j => decide (j.id ≠ bigV (ws.getD 1 []))) ∧ q'.next = q.next := by
  obtain ⟨q', ha, hq, hx, hids⟩ := h.doneGood h3 h0 hj
  have hg := h.apply hk him (hw.some (by omega)) ha (L' := L) hids (by rw [hx]; exact h.la)
  refine ⟨q', ?_, hq, hx⟩
  unfold nextSc
  rw [getD_at (show i + 1 < ps.length by omega)]
  exact hg
theorem head_itoa {hw : List UInt8} (h : 0 ≤ bigV hw) : Lib.itoa (bigV hw) = hw := by
  obtain ⟨n1, _⟩ := big_some h
  have h := (numV_ok (l := hw) (by rw [n1])).2
  rw [n1] at h
  exact h
end
theorem ArAt.ret0 {w wr : World} {a2 a5 : Nat} {vj : Value} {J : List Sj} {ep nx sz : Int} (h : ArAt w wr a2 a5 vj J ep nx sz) : RetAt w (retW wr a2 (.slice none 0 0) 0 0 0) a2 (.slice none 0 0) [] 0 0 0 := by
  have t1 := (((h.t2.set (i := 0) (by omega) (.slice none 0 0)).set (i := 1) (by omega) (.int .i64 0)).set (i := 2) (by omega) (.int .i64 0)).set (i := 3) (by omega) (.int .i64 0)
  exact ⟨(((h.be.setCell (p := ⟨a2, 0, none⟩) h.b2 _).setCell (p := ⟨a2, 1, none⟩) h.b2 _).setCell (p := ⟨a2, 2, none⟩) h.b2 _).setCell (p := ⟨a2, 3, none⟩) h.b2 _, Own.nil _ _ _ _ _, t1.at' 0 (by omega), t1.at' 1 (by omega), t1.at' 2 (by omega), t1.at' 3 (by omega)⟩
theorem Flat.sjA {w : World} {oa : Option Addr} {xs : List Sj} (h : Flat w 2 encSj oa xs) {i : Nat} (hi : i < xs.length) :
    ∃ b off, oa = some ⟨b, off, none⟩ ∧ w.cell? ⟨b, off + i * 2, none⟩ = some (.int .i64 xs[i].id) ∧ w.cell? ⟨b, off + i * 2 + 1, none⟩ = some (.string xs[i].text) := by
  obtain ⟨v0, h0, b, off, e, c0⟩ := h i hi 0 (by omega)
  obtain ⟨v1, h1, b1, off1, e1, c1⟩ := h i hi 1 (by omega)
  rw [e] at e1
  simp only [Option.some.injEq, Addr.mk.injEq, and_true] at e1
  obtain ⟨rfl, rfl⟩ := e1
  simp only [encSj, List.getElem?_cons_zero, List.getElem?_cons_succ, Option.some.injEq] at h0 h1
  subst h0 h1
  exact ⟨b, off, e, by simpa using c0, by simpa [Nat.add_assoc] using c1⟩
theorem Own.baseA {α : Type} {w : World} {base base' k : Nat} {e : TypeId} {enc : α → List Value} {v : Value} {xs : List α} (h : Own w base e k enc v xs) (hb : base' ≤ base) : Own w base' e k enc v xs := by
  refine ⟨h.1, ?_⟩
  rcases h.2 with hn | ⟨g', cap, cur, rfl, hbg, rest⟩
  · exact .inl hn
  · exact .inr ⟨g', cap, cur, rfl, by omega, rest⟩
/-- The jobs that stay. -/
def stayV (xs : List Jb) (n : Int) : List Jb := xs.filter (fun j => decide (j.id ≠ n))
/-- The loop over the jobs. -/
structure DoneAt (w6 wr : World) (xs : List Jb) (n : Int) (m : Nat) (u : Value) (gd : Bool) : Prop where
  be : Below w6.heap.size w6 wr
  own : Own wr w6.heap.size 41 2 encSj u ((stayV (xs.take m) n).map showJ)
  gd : gd = true ↔ ∃ j, ∃ h : j < xs.length, j < m ∧ xs[j].id = n
theorem DoneAt.start (w6 : World) (xs : List Jb) (n : Int) : DoneAt w6 w6 xs n 0 (.slice none 0 0) false :=
  ⟨Below.refl _ _, Own.nil _ _ _ _ _, ⟨fun h => (by cases h), fun h => (by obtain ⟨_, _, h, _⟩ := h; omega)⟩⟩
section
variable {w6 wr w' : World} {xs : List Jb} {n : Int} {m : Nat} {u : Value} {gd : Bool}
theorem DoneAt.below (h : DoneAt w6 wr xs n m u gd) (hb : Below wr.heap.size wr w') : DoneAt w6 w' xs n m u gd := ⟨bthen h.be hb, h.own.below hb, h.gd⟩
theorem DoneAt.hit (h : DoneAt w6 wr xs n m u gd) (hm : m < xs.length) (hi : xs[m].id = n) : DoneAt w6 wr xs n (m + 1) u true := by
  refine ⟨h.be, ?_, ⟨fun _ => ⟨m, hm, by omega, hi⟩, fun _ => rfl⟩⟩
  have e : stayV (xs.take (m + 1)) n = stayV (xs.take m) n := by
    unfold stayV
    rw [List.take_succ_eq_append_getElem hm, List.filter_append, List.filter_cons_of_neg (by simp [hi]), List.filter_nil, List.append_nil]
  rw [e]
  exact h.own
theorem DoneAt.missList (xs : List Jb) (n : Int) (m : Nat) (hm : m < xs.length) (hi : xs[m].id ≠ n) : (stayV (xs.take (m + 1)) n).map showJ = (stayV (xs.take m) n).map showJ ++ [showJ xs[m]] := by
  unfold stayV
  rw [List.take_succ_eq_append_getElem hm, List.filter_append, List.filter_cons_of_pos (by simpa using hi), List.filter_nil, List.map_append]
  rfl
theorem DoneAt.miss {o : Obj} {v : Value} (h : DoneAt w6 wr xs n m u gd) (hm : m < xs.length) (hi : xs[m].id ≠ n) (hb : Below wr.heap.size wr w') {W : World} (hg : (w'.alloc o).grownBy W u.ownBlock) (ho : Own W w6.heap.size 41 2 encSj v ((stayV (xs.take m) n).map showJ ++ [showJ xs[m]])) : DoneAt w6 W xs n (m + 1) v gd := by
  have hb2 : Below w6.heap.size w6 w' := bthen h.be hb
  refine ⟨Below.grown (balloc hb2 o) hg (balloc hb2 o).size (fun j e => ((h.own.blk e)).1), by rw [DoneAt.missList xs n m hm hi]; exact ho, h.gd.trans ⟨fun ⟨j, h1, h2, h3⟩ => ⟨j, h1, by omega, h3⟩, fun ⟨j, h1, h2, h3⟩ => ⟨j, h1, ?_, h3⟩⟩⟩
  rcases Nat.lt_or_ge j m with h4 | h4
  · exact h4
  · have e : j = m := by omega
    subst e
    exact absurd h3 hi
theorem DoneAt.none (h : DoneAt w6 wr xs n xs.length u false) : stayV xs n = xs ∧ ∀ j (hj : j < xs.length), xs[j].id ≠ n := by
  have hne : ∀ j (hj : j < xs.length), xs[j].id ≠ n := fun j hj e => by
    have := h.gd.2 ⟨j, hj, hj, e⟩
    cases this
  refine ⟨?_, hne⟩
  unfold stayV
  rw [List.filter_eq_self]
  intro y hy
  obtain ⟨j, hj, rfl⟩ := List.getElem_of_mem hy
  simpa using hne j hj
theorem DoneAt.fin {w : World} {a2 a5 g gh : Nat} {vj : Value} {J : List Sj} {ep nx sz : Int} {ps : List (List UInt8)} {x1 : List UInt8} (h : DoneAt w6 wr xs n xs.length u gd) (hM : ArM w w6 a2 a5 g gh vj J ep nx sz ps x1) : ArM w (wr.setCell ⟨a5, 0, .none⟩ u) a2 a5 g gh u ((stayV xs n).map showJ) ep nx sz ps x1 := by
  have h2 := hM.below h.be
  have ho := h.own
  rw [List.take_of_length_le (Nat.le_refl _)] at ho
  refine h2.put (ho.baseA hM.ar.be.size) (fun j e => ?_)
  have h3 := (h.own.blk e).1
  have := hM.ar.lt2
  have := hM.ar.lt5
  have := hM.lg
  have := hM.lh
  omega
end
end Go.Proofs.YtnnnihjagjfkdaaGreatDoor
