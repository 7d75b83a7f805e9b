/-
  The memory of gang.Forms. Own text.
-/
import Derived.Test.YtimofofaeedcoaaPart
import Derived.Test.YtimofofaeedcoaaCloneG
import Derived.Test.YtimofofaeedcoaaMade
import Derived.Test.YtimofofaeedcoaaSur
namespace Go.Proofs.Ytimofofaeedcoaa
open Go.RowKit
set_option linter.unusedVariables false
def natV (k : Nat) : Value := .int .i64 (k : Int)
/-- The blocks lie apart, behind the caller's. -/
structure FApart (B bd bo go bb nb : Nat) : Prop where
  l1 : B ≤ bd
  l2 : B ≤ bo
  l3 : B ≤ go
  l4 : B ≤ bb
  l5 : B ≤ nb
  d1 : bd ≠ go
  d2 : bo ≠ go
  d3 : bb ≠ bd
  d4 : bb ≠ bo
  d5 : bb ≠ go
  d6 : nb ≠ bd
  d7 : nb ≠ bo
  d8 : nb ≠ go
  d9 : nb ≠ bb
/-- The variables of Forms: the demands, the order, the two tables. -/
structure FMem (w0 : World) (bd bo go bb nb : Nat) (od : Option Addr) (ds : List Int) (cd : Nat) (B : Nat → Int) (N : Nat → Nat) (w : World) : Prop where
  bel : Below w0.heap.size w0 w
  co : w.cell? ⟨bo, 0, none⟩ = some (.slice (some ⟨go, 0, none⟩) ds.length ds.length)
  cd : w.cell? ⟨bd, 0, none⟩ = some (.slice od ds.length cd)
  ot : FTab (Value.int .i64) w go ds.length (fun i => (((ordV ds).getD i 0 : Nat) : Int))
  tb : FTab (Value.int .i64) w bb (ds.length + 1) B
  tn : FTab natV w nb ds.length N
section
variable {w0 w w' : World} {bd bo go bb nb cd : Nat} {od : Option Addr} {ds : List Int} {B : Nat → Int} {N : Nat → Nat}
theorem FMem.below (h : FMem w0 bd bo go bb nb od ds cd B N w) (h0 : 0 < ds.length) (hb : Below w.heap.size w w') : FMem w0 bd bo go bb nb od ds cd B N w' :=
  ⟨bthen h.bel hb, keepCell hb h.co, keepCell hb h.cd, h.ot.below hb (h.ot.lt h0), h.tb.below hb (h.tb.lt (by omega)), h.tn.below hb (h.tn.lt h0)⟩
theorem FMem.setB (h : FMem w0 bd bo go bb nb od ds cd B N w) (ha : FApart w0.heap.size bd bo go bb nb) {i : Nat} (hi : i < ds.length + 1) (y : Int) : FMem w0 bd bo go bb nb od ds cd (upd B i y) N (w.setCell ⟨bb, i, none⟩ (.int .i64 y)) := by
  have d3 := ha.d3; have d4 := ha.d4; have d5 := ha.d5; have d9 := ha.d9
  have d3' := d3.symm; have d4' := d4.symm
  refine ⟨h.bel.trans ((Below.refl _ _).setCell ha.l4 _), ?_, ?_, h.ot.other d5 _, h.tb.set hi y, h.tn.other (fun e => d9 e.symm) _⟩
  · have := h.co; go_simp
  · have := h.cd; go_simp
theorem FMem.setN (h : FMem w0 bd bo go bb nb od ds cd B N w) (ha : FApart w0.heap.size bd bo go bb nb) {i : Nat} (hi : i < ds.length) (y : Nat) : FMem w0 bd bo go bb nb od ds cd B (upd N i y) (w.setCell ⟨nb, i, none⟩ (.int .i64 (y : Int))) := by
  have d3 := ha.d6; have d4 := ha.d7; have d5 := ha.d8; have d9 := ha.d9
  have d3' := d3.symm; have d4' := d4.symm
  refine ⟨h.bel.trans ((Below.refl _ _).setCell ha.l5 _), ?_, ?_, h.ot.other d5 _, h.tb.other d9 _, h.tn.set hi y⟩
  · have := h.co; go_simp
  · have := h.cd; go_simp
theorem FMem.drew (h : FMem w0 bd bo go bb nb od ds cd B N w) : FMem w0 bd bo go bb nb od ds cd B N w.drew := ⟨h.bel.drew, h.co, h.cd, h.ot.drew, h.tb.drew, h.tn.drew⟩
end
/-! ### The plates that are returned -/
theorem elemForm : ElemType Try.prog 34 (.agg #[.slice none 0 0, .slice none 0 0, .int .i64 0]) 3 56 := ElemType.mk (by kernel_rfl) rfl (by decide)
abbrev FormC := Value × Value × Int
def encF (x : FormC) : List Value := [x.1, x.2.1, .int .i64 x.2.2]
/-- The cells x of plate f; its rows lie in blocks that are not row. -/
def FormIn (w : World) (row : Option Nat) (x : FormC) (f : Form) : Prop :=
  ∃ gj oj cj gu ou cu, x = (.slice (some ⟨gj, oj, none⟩) f.jobs.length cj, .slice (some ⟨gu, ou, none⟩) f.ups.length cu, f.run) ∧ Flat w 1 encInt (some ⟨gj, oj, none⟩) f.jobs ∧ Flat w 1 encInt (some ⟨gu, ou, none⟩) f.ups ∧ gj < w.heap.size ∧ gu < w.heap.size ∧ row ≠ some gj ∧ row ≠ some gu
structure FormsIn (base : Nat) (w : World) (v : Value) (fs : List Form) (xs : List FormC) : Prop where
  own : Own w base 34 3 encF v xs
  len : xs.length = fs.length
  rel : ∀ i (h1 : i < xs.length) (h2 : i < fs.length), FormIn w v.ownBlock xs[i] fs[i]
theorem FormsIn.nil (base : Nat) (w : World) : FormsIn base w (.slice none 0 0) [] [] := ⟨Own.nil _ _ _ _ _, rfl, fun i h => by simp at h⟩
theorem FormIn.below {w w' : World} {row : Option Nat} {x : FormC} {f : Form} (h : FormIn w row x f) (hb : Below w.heap.size w w') : FormIn w' row x f := by
  obtain ⟨gj, oj, cj, gu, ou, cu, e, h1, h2, h3, h4, h5, h6⟩ := h
  exact ⟨gj, oj, cj, gu, ou, cu, e, h1.below hb, h2.below hb, Nat.lt_of_lt_of_le h3 hb.size, Nat.lt_of_lt_of_le h4 hb.size, h5, h6⟩
theorem Flat.grownRow {w w' : World} {row : Option Nat} {gj oj : Nat} {xs : List Int} (h : Flat w 1 encInt (some ⟨gj, oj, none⟩) xs) (hg : w.grownBy w' row) (hl : gj < w.heap.size) (hne : row ≠ some gj) : Flat w' 1 encInt (some ⟨gj, oj, none⟩) xs := by
  intro i hi j hj
  obtain ⟨v, hv, b, off, e, hc⟩ := h i hi j hj
  refine ⟨v, hv, b, off, e, ?_⟩
  cases e
  unfold World.cell? at hc ⊢
  rw [hg.block gj hl (fun e => hne e.symm)]
  exact hc
theorem FormIn.grown {w w' : World} {row row' : Option Nat} {x : FormC} {f : Form} (h : FormIn w row x f) (hg : w.grownBy w' row) (hr : row' = row ∨ row' = some w.heap.size) : FormIn w' row' x f := by
  obtain ⟨gj, oj, cj, gu, ou, cu, e, h1, h2, h3, h4, h5, h6⟩ := h
  refine ⟨gj, oj, cj, gu, ou, cu, e, h1.grownRow hg h3 h5, h2.grownRow hg h4 h6, Nat.lt_of_lt_of_le h3 hg.size, Nat.lt_of_lt_of_le h4 hg.size, ?_, ?_⟩
  · rcases hr with e | e
    · rw [e]; exact h5
    · rw [e]; intro e2; cases e2; omega
  · rcases hr with e | e
    · rw [e]; exact h6
    · rw [e]; intro e2; cases e2; omega
theorem FormsIn.below {base : Nat} {w w' : World} {v : Value} {fs : List Form} {xs : List FormC} (h : FormsIn base w v fs xs) (hb : Below w.heap.size w w') : FormsIn base w' v fs xs :=
  ⟨h.own.below hb, h.len, fun i h1 h2 => (h.rel i h1 h2).below hb⟩
/-- A plate more. -/
theorem FormsIn.snoc {base : Nat} {w w' : World} {v v' : Value} {fs : List Form} {xs : List FormC} {x : FormC} {f : Form} (h : FormsIn base w v fs xs) (hx : FormIn w v.ownBlock x f) (hown : Own w' base 34 3 encF v' (xs ++ [x])) (hg : w.grownBy w' v.ownBlock) (hr : v'.ownBlock = v.ownBlock ∨ v'.ownBlock = some w.heap.size) :
    FormsIn base w' v' (fs ++ [f]) (xs ++ [x]) := by
  refine ⟨hown, by rw [List.length_append, List.length_append, h.len]; rfl, fun i h1 h2 => ?_⟩
  by_cases e : i < xs.length
  · rw [List.getElem_append_left e, List.getElem_append_left (by rw [← h.len]; exact e)]
    exact (h.rel i e (by rw [← h.len]; exact e)).grown hg hr
  · rw [List.getElem_append_right (by omega), List.getElem_append_right (by rw [← h.len]; omega)]
    simp only [List.getElem_singleton]
    exact hx.grown hg hr
end Go.Proofs.Ytimofofaeedcoaa
