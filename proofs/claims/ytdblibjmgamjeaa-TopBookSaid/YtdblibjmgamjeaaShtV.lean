/-
  impose.Sheet, plain, and its sheet under way in memory. Own text.
-/
import Derived.Test.YtdblibjmgamjeaaPlc
import Derived.Test.YtdblibjmgamjeaaRasM
namespace Go.Proofs.Ytdblibjmgamjeaa
open Go.RowKit
set_option linter.unusedVariables false
/-- A placed page. -/
structure Pl where
  page : Int
  x : Int
  y : Int
  turn : Int
def encPl (p : Pl) : List Value := [.int .i64 p.page, .int .i64 p.x, .int .i64 p.y, .int .i64 p.turn]
theorem elemPl : ElemType Try.prog 84 (.agg #[.int .i64 0, .int .i64 0, .int .i64 0, .int .i64 0]) 4 32 := ElemType.mk (by kernel_rfl) rfl (by decide)
/-- How page i (from 0) is placed. -/
def plV (l : Lay) (i : Nat) (p : Pg) : Pl :=
  let b := placeV l ((i : Int) + 1) p
  if l.style = 1 ∧ p.back = true then ⟨(i : Int) + 1, b.x + oneW l, b.y, p.turn⟩
  else if l.style = 2 ∧ p.back = true then ⟨(i : Int) + 1, (turnB b 2).x, oneH l + (turnB b 2).y, (p.turn + 2) % 4⟩
  else ⟨(i : Int) + 1, b.x, b.y, p.turn⟩
def onF (l : Lay) (p : Pg) : Bool := !(l.style == 0 && p.back)
def onB (l : Lay) (p : Pg) : Bool := !(l.style == 0) || p.back
def frV (l : Lay) : Nat → List Pg → List Pl
  | _, [] => []
  | i, p :: ps => (if onF l p then [plV l i p] else []) ++ frV l (i + 1) ps
def bkV (l : Lay) : Nat → List Pg → List Pl
  | _, [] => []
  | i, p :: ps => (if onB l p then [plV l i p] else []) ++ bkV l (i + 1) ps
theorem frV_snoc (l : Lay) (p : Pg) : ∀ (ps : List Pg) (i : Nat), frV l i (ps ++ [p]) = frV l i ps ++ (if onF l p then [plV l (i + ps.length) p] else [])
  | [], i => by simp [frV]
  | q :: ps, i => by
    show _ ++ frV l (i + 1) (ps ++ [p]) = (_ ++ frV l (i + 1) ps) ++ _
    rw [frV_snoc l p ps (i + 1), List.append_assoc]
    have e : i + 1 + ps.length = i + (q :: ps).length := by simp; omega
    rw [e]
theorem bkV_snoc (l : Lay) (p : Pg) : ∀ (ps : List Pg) (i : Nat), bkV l i (ps ++ [p]) = bkV l i ps ++ (if onB l p then [plV l (i + ps.length) p] else [])
  | [], i => by simp [bkV]
  | q :: ps, i => by
    show _ ++ bkV l (i + 1) (ps ++ [p]) = (_ ++ bkV l (i + 1) ps) ++ _
    rw [bkV_snoc l p ps (i + 1), List.append_assoc]
    have e : i + 1 + ps.length = i + (q :: ps).length := by simp; omega
    rw [e]
theorem frV_len (l : Lay) : ∀ (ps : List Pg) (i : Nat), (frV l i ps).length ≤ ps.length
  | [], i => Nat.le_refl _
  | q :: ps, i => by
    have h := frV_len l ps (i + 1)
    show (_ ++ frV l (i + 1) ps).length ≤ ps.length + 1
    rw [List.length_append]
    split <;> simp <;> omega
theorem bkV_len (l : Lay) : ∀ (ps : List Pg) (i : Nat), (bkV l i ps).length ≤ ps.length
  | [], i => Nat.le_refl _
  | q :: ps, i => by
    have h := bkV_len l ps (i + 1)
    show (_ ++ bkV l (i + 1) ps).length ≤ ps.length + 1
    rw [List.length_append]
    split <;> simp <;> omega
def shF (a b c d : Value) : Nat → Value
  | 0 => a
  | 1 => b
  | 2 => c
  | _ => d
theorem shF_new (w : World) (a b c d : Value) (t : TypeId) : FTab (fun v : Value => v) (w.alloc (.cells #[a, b, c, d] t)) w.heap.size 4 (shF a b c d) :=
  (pgF_new w a b c d t).congr fun i hi => match i, hi with
    | 0, _ => rfl
    | 1, _ => rfl
    | 2, _ => rfl
    | 3, _ => rfl
abbrev OwnPl (w : World) (base : Nat) (v : Value) (xs : List Pl) : Prop := Go.Proofs.Ytdblibjmgamjeaa.Own w base 84 4 encPl v xs
/-- The sheet under way: its variable s. -/
structure ShU (w0 wr : World) (s : Nat) (W H : Int) (vF vB : Value) (xF xB : List Pl) : Prop where
  bel : Below w0.heap.size w0 wr
  tab : FTab (fun v : Value => v) wr s 4 (shF (.int .i64 W) (.int .i64 H) vF vB)
  opF : OwnPl wr w0.heap.size vF xF
  opB : OwnPl wr w0.heap.size vB xB
  neF : vF.ownBlock ≠ some s
  neB : vB.ownBlock ≠ some s
  neFB : ∀ g, vF.ownBlock = some g → vB.ownBlock ≠ some g
  lt : s < wr.heap.size
  ge : w0.heap.size ≤ s
section
variable {w0 wr w' : World} {s : Nat} {W H : Int} {vF vB v' : Value} {xF xB : List Pl}
theorem ShU.below (h : ShU w0 wr s W H vF vB xF xB) (hb : Below wr.heap.size wr w') : ShU w0 w' s W H vF vB xF xB :=
  ⟨h.bel.trans (hb.mono h.bel.size), h.tab.below hb h.lt, h.opF.below hb, h.opB.below hb, h.neF, h.neB, h.neFB, Nat.lt_of_lt_of_le h.lt hb.size, h.ge⟩
theorem ShU.midF (h : ShU w0 wr s W H vF vB xF xB) (hg : wr.grownBy w' vF.ownBlock) : FTab (fun v : Value => v) w' s 4 (shF (.int .i64 W) (.int .i64 H) vF vB) :=
  h.tab.heap (hg.block s h.lt fun e => h.neF e.symm)
theorem ShU.midB (h : ShU w0 wr s W H vF vB xF xB) (hg : wr.grownBy w' vB.ownBlock) : FTab (fun v : Value => v) w' s 4 (shF (.int .i64 W) (.int .i64 H) vF vB) :=
  h.tab.heap (hg.block s h.lt fun e => h.neB e.symm)
theorem ShU.addF (h : ShU w0 wr s W H vF vB xF xB) {y : Pl} (hown : OwnPl w' w0.heap.size v' (xF ++ [y])) (hgr : wr.grownBy w' vF.ownBlock) (hat : v'.ownBlock = vF.ownBlock ∨ v'.ownBlock = some wr.heap.size) :
    ShU w0 (w'.setCell ⟨s, 2, none⟩ v') s W H v' vB (xF ++ [y]) xB ∧ (∀ g, g < wr.heap.size → g ≠ s → vF.ownBlock ≠ some g → (w'.setCell ⟨s, 2, none⟩ v').heap[g]? = wr.heap[g]?) ∧ wr.heap.size ≤ (w'.setCell ⟨s, 2, none⟩ v').heap.size := by
  have hz := hgr.size
  have hl := h.lt
  have hv : v'.ownBlock ≠ some s := by
    rcases hat with e | e
    · rw [e]; exact h.neF
    · rw [e]; intro e2; cases e2; omega
  have hk : ∀ g, g < wr.heap.size → g ≠ s → vF.ownBlock ≠ some g → (w'.setCell ⟨s, 2, none⟩ v').heap[g]? = wr.heap[g]? := fun g h1 h2 h3 => by
    rw [Below.heap_setCell _ _ _ g h2]
    exact hgr.block g h1 fun e => h3 e.symm
  refine ⟨⟨?_, ?_, ?_, ?_, hv, h.neB, ?_, by simp; omega, h.ge⟩, hk, by simp; omega⟩
  · exact (h.bel.grown hgr h.bel.size (fun j hj => (h.opF.blk hj).1)).setCell (p := ⟨s, 2, none⟩) h.ge v'
  · exact ((h.midF hgr).set (i := 2) (by omega) v').congr fun i hi => match i, hi with
      | 0, _ => rfl
      | 1, _ => rfl
      | 2, _ => rfl
      | 3, _ => rfl
  · exact hown.heap fun k e => Below.heap_setCell _ _ _ k fun e2 => hv (by rw [e, show k = s from e2])
  · exact h.opB.heap fun k e => hk k (h.opB.blk e).2 (fun e2 => h.neB (by rw [e, e2])) (fun e2 => h.neFB k e2 e)
  · intro g e e2
    rcases hat with e3 | e3
    · rw [e3] at e; exact h.neFB g e e2
    · rw [e3] at e
      cases e
      have := (h.opB.blk e2).2
      omega
theorem ShU.addB (h : ShU w0 wr s W H vF vB xF xB) {y : Pl} (hown : OwnPl w' w0.heap.size v' (xB ++ [y])) (hgr : wr.grownBy w' vB.ownBlock) (hat : v'.ownBlock = vB.ownBlock ∨ v'.ownBlock = some wr.heap.size) :
    ShU w0 (w'.setCell ⟨s, 3, none⟩ v') s W H vF v' xF (xB ++ [y]) := by
  have hz := hgr.size
  have hl := h.lt
  have hv : v'.ownBlock ≠ some s := by
    rcases hat with e | e
    · rw [e]; exact h.neB
    · rw [e]; intro e2; cases e2; omega
  have hk : ∀ g, g < wr.heap.size → g ≠ s → vB.ownBlock ≠ some g → (w'.setCell ⟨s, 3, none⟩ v').heap[g]? = wr.heap[g]? := fun g h1 h2 h3 => by
    rw [Below.heap_setCell _ _ _ g h2]
    exact hgr.block g h1 fun e => h3 e.symm
  refine ⟨?_, ?_, ?_, ?_, h.neF, hv, ?_, by simp; omega, h.ge⟩
  · exact (h.bel.grown hgr h.bel.size (fun j hj => (h.opB.blk hj).1)).setCell (p := ⟨s, 3, none⟩) h.ge v'
  · exact ((h.midB hgr).set (i := 3) (by omega) v').congr fun i hi => match i, hi with
      | 0, _ => rfl
      | 1, _ => rfl
      | 2, _ => rfl
      | 3, _ => rfl
  · exact h.opF.heap fun k e => hk k (h.opF.blk e).2 (fun e2 => h.neF (by rw [e, e2])) (fun e2 => h.neFB k e e2)
  · exact hown.heap fun k e => Below.heap_setCell _ _ _ k fun e2 => hv (by rw [e, show k = s from e2])
  · intro g e e2
    rcases hat with e3 | e3
    · rw [e3] at e2; exact h.neFB g e e2
    · rw [e3] at e2
      cases e2
      have := (h.opF.blk e).2
      omega
end
def setS (W : World) (t : Nat) (a b c d : Value) : World := (((W.setCell ⟨t, 0, none⟩ a).setCell ⟨t, 1, none⟩ b).setCell ⟨t, 2, none⟩ c).setCell ⟨t, 3, none⟩ d
theorem setS_at {W : World} {t : Nat} {f : Nat → Value} (h : FTab (fun v : Value => v) W t 4 f) (a b c d : Value) : FTab (fun v : Value => v) (setS W t a b c d) t 4 (shF a b c d) ∧ (∀ k, k ≠ t → (setS W t a b c d).heap[k]? = W.heap[k]?) ∧ (setS W t a b c d).heap.size = W.heap.size ∧ ∀ {B : Nat} {w : World}, Below B w W → B ≤ t → Below B w (setS W t a b c d) := by
  have t4 := (((h.set (i := 0) (by omega) a).set (i := 1) (by omega) b).set (i := 2) (by omega) c).set (i := 3) (by omega) d
  refine ⟨t4.congr fun i hi => ?_, fun k hk => ?_, by unfold setS; simp, fun hb hl => ?_⟩
  · match i, hi with
    | 0, _ => rfl
    | 1, _ => rfl
    | 2, _ => rfl
    | 3, _ => rfl
  · unfold setS
    rw [Below.heap_setCell _ _ _ _ hk, Below.heap_setCell _ _ _ _ hk, Below.heap_setCell _ _ _ _ hk, Below.heap_setCell _ _ _ _ hk]
  · exact (((hb.setCell (p := ⟨t, 0, none⟩) hl _).setCell (p := ⟨t, 1, none⟩) hl _).setCell (p := ⟨t, 2, none⟩) hl _).setCell (p := ⟨t, 3, none⟩) hl _
/-- A sheet is returned, and 0. -/
def RetSheet (l : Lay) (F B : List Pl) (w : World) (e : Ending) (w' : World) : Prop := ∃ oF kF oB kB, e = .returned (.tuple #[.agg #[.int .i64 (fullW l), .int .i64 (fullH l), .slice oF F.length kF, .slice oB B.length kB], .int .i64 0]) ∧ Flat w' 4 encPl oF F ∧ Flat w' 4 encPl oB B ∧ Below w.heap.size w w'
end Go.Proofs.Ytdblibjmgamjeaa
