/-
  TopTurns: the pages and the sheets in memory. Own text.
-/
import Derived.Test.YtdblibjmgamjeaaPlR
import Derived.Test.YtdblibjmgamjeaaTurnsV
import Derived.Test.YtdblibjmgamjeaaSmall
namespace Go.Proofs.Ytdblibjmgamjeaa
open Go.RowKit
set_option linter.unusedVariables false
/-- Blocks from Z on are as they were. -/
def HighZ (Z : Nat) (w w' : World) : Prop := w.heap.size ≤ w'.heap.size ∧ ∀ g, Z ≤ g → g < w.heap.size → w'.heap[g]? = w.heap[g]?
theorem HighZ.ofBelow {Z : Nat} {w w' : World} (hb : Below w.heap.size w w') : HighZ Z w w' := ⟨hb.size, fun g _ h => hb.block g h⟩
theorem HighZ.trans {Z : Nat} {w w1 w2 : World} (h1 : HighZ Z w w1) (h2 : HighZ Z w1 w2) : HighZ Z w w2 := ⟨Nat.le_trans h1.1 h2.1, fun g hg hl => (h2.2 g hg (Nat.lt_of_lt_of_le hl h1.1)).trans (h1.2 g hg hl)⟩
theorem HighZ.setCell {Z : Nat} (w : World) {b o : Nat} (hb : b < Z) (v : Value) : HighZ Z w (w.setCell ⟨b, o, none⟩ v) := ⟨by simp, fun g hg _ => Below.heap_setCell _ _ _ g (by show g ≠ b; omega)⟩
theorem RowsV.high {α β : Type} {enc : β → List Value} {blks : β → Nat → Prop} {R : World → β → α → Prop} {k Z : Nat} {w w' : World} {oa : Option Addr} {us : List β} {xs : List α} (hs : Stab R blks) (h : RowsV enc blks R k w oa us xs) (h1 : ∀ a, oa = some a → Z ≤ a.block) (h2 : ∀ u ∈ us, ∀ g, blks u g → Z ≤ g) (hz : HighZ Z w w') : RowsV enc blks R k w' oa us xs := by
  refine ⟨fun i hi j hj => ?_, h.len, fun i hi hi' => hs.keep (h.row i hi hi') fun g hg => hz.2 g (h2 _ (List.getElem_mem hi) g hg) (h.lt _ (List.getElem_mem hi) g hg), fun u hu g hg => Nat.lt_of_lt_of_le (h.lt u hu g hg) hz.1⟩
  obtain ⟨v, hv, b, off, e, hc⟩ := h.flat i hi j hj
  have hl : b < w.heap.size := cell?_lt hc
  exact ⟨v, hv, b, off, e, by rw [World.cell?_of_block (w := w) (a := ⟨b, off + (i * k + j), none⟩) (hz.2 b (h1 _ e) hl)]; exact hc⟩
/-- A row of pages: slice v, its blocks from Z on. -/
def PgS (Z : Nat) (w : World) (v : Value) (gs : List Img) : Prop := ∃ o c us, v = .slice o gs.length c ∧ RowsV encRp blkP RelP 3 w o us gs ∧ (∀ a, o = some a → Z ≤ a.block) ∧ ∀ u ∈ us, ∀ g, blkP u g → Z ≤ g
theorem PgS.high {Z : Nat} {w w' : World} {v : Value} {gs : List Img} (h : PgS Z w v gs) (hz : HighZ Z w w') : PgS Z w' v gs := by
  obtain ⟨o, c, us, e, h1, h2, h3⟩ := h
  exact ⟨o, c, us, e, h1.high stabPl h2 h3 hz, h2, h3⟩
theorem PgS.at {Z : Nat} {w : World} {v : Value} {gs : List Img} (h : PgS Z w v gs) : ∃ o c, v = .slice o gs.length c ∧ PlAt w o gs := by
  obtain ⟨o, c, us, e, h1, h2, h3⟩ := h
  exact ⟨o, c, e, PlAt.ofRows h1⟩
/-- A row of sheets. -/
def ShS (Z : Nat) (w : World) (v : Value) (ss : List (Img × Img)) : Prop := ∃ o c us, v = .slice o ss.length c ∧ RowB w o us ss ∧ FrB Z o us ∧ ss.length ≤ c
theorem ShS.high {Z : Nat} {w w' : World} {v : Value} {ss : List (Img × Img)} (h : ShS Z w v ss) (hz : HighZ Z w w') : ShS Z w' v ss := by
  obtain ⟨o, c, us, e, h1, h2, h3⟩ := h
  exact ⟨o, c, us, e, h1.high stabB h2.1 h2.2 hz, h2, h3⟩
theorem PgS.nil (Z : Nat) (w : World) : PgS Z w (.slice none 0 0) [] := ⟨none, 0, [], rfl, ⟨fun i h => (by simp at h), rfl, fun i h => (by simp at h), fun u h => (by cases h)⟩, fun a e => (by cases e), fun u h => (by cases h)⟩
/-- The pages that are made for a layout. -/
structure PgOk (L : Lay) (x : Sht) (gs : List Img) : Prop where
  W : ∀ g ∈ gs, (g.W : Int) = L.w
  H : ∀ g ∈ gs, (g.H : Int) = L.h
  n : gs.length ≤ (pagesV L.sc x).length
/-- What is known at the loop's head: pages v6, sheets v0 v1 v2. -/
def TD (Z : Nat) (L : Lay) (w : World) (v6 v0 v1 v2 : Value) : Nat → Prop
  | 0 => v6 = .slice none 0 0 ∧ v0 = .slice none 0 0 ∧ v1 = .slice none 0 0 ∧ v2 = .slice none 0 0
  | 1 => ∃ x gs, Good (st L 0) x ∧ PgOk L x gs ∧ PgS Z w v6 gs ∧ ShS Z w v0 (ss0 L x gs) ∧ v1 = .slice none 0 0 ∧ v2 = .slice none 0 0
  | 2 => ∃ x gs, Good (st L 0) x ∧ PgOk L x gs ∧ PgS Z w v6 gs ∧ ShS Z w v0 (ss0 L x gs) ∧ ShS Z w v1 (ss1 L x gs) ∧ v2 = .slice none 0 0
  | _ => ∃ x gs, Good (st L 0) x ∧ PgOk L x gs ∧ PgS Z w v6 gs ∧ ShS Z w v0 (ss0 L x gs) ∧ ShS Z w v1 (ss1 L x gs) ∧ ShS Z w v2 (ss2 L x gs)
/-- The state at the loop's head. -/
structure TR (w0 wr : World) (b5 : Nat) (L : Lay) (os : Option Addr) (m cs : Nat) (v6 v0 v1 v2 : Value) : Prop where
  bel : Below w0.heap.size w0 wr
  tab : ∃ s, FTab (fun v : Value => v) wr w0.heap.size 11 (layF (st L s) os m cs)
  arr : FTab (fun v : Value => v) wr b5 3 (outF v0 v1 v2)
  lt : w0.heap.size < b5 ∧ b5 < wr.heap.size
/-- Good layouts of one scheme have the same pages. -/
theorem good_same {l : Lay} {s t : Int} {x y : Sht} (hx : Good (st l s) x) (hy : Good (st l t) y) : x = y := by
  have h1 := hx.f.endV
  have h2 := hy.f.endV
  have e : (st l s).sc = (st l t).sc := rfl
  rw [e, h2] at h1
  exact (Option.some.inj h1).symm
theorem fr_sized {l : Lay} {x : Sht} (hx : Good l x) (gs : List Img) : Sized (frI l x gs) ∧ Sized (bkI l x gs) := by
  have h := fr_size l x gs
  have hl := hx.large
  have ho := one_pos hx
  have hf : 1 ≤ fullW l ∧ 1 ≤ fullH l := by
    constructor
    · unfold fullW; split <;> omega
    · unfold fullH; split <;> omega
  constructor
  · exact ⟨by rw [h.1]; omega, by rw [h.1]; omega, by rw [h.2.1]; omega, by rw [h.2.1]; omega⟩
  · exact ⟨by rw [h.2.2.1]; omega, by rw [h.2.2.1]; omega, by rw [h.2.2.2]; omega, by rw [h.2.2.2]; omega⟩
end Go.Proofs.Ytdblibjmgamjeaa
