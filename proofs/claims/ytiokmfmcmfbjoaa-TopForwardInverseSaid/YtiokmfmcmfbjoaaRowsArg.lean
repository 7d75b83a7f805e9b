/-
  Arguments of type [][]int and []int, opened; a plan as an argument. Own text.
-/
import Derived.Test.YtiokmfmcmfbjoaaRows
import Derived.Test.YtiokmfmcmfbjoaaOpen
import Derived.Test.YtiokmfmcmfbjoaaNest
namespace Go.Proofs.Ytiokmfmcmfbjoaa
open Go.ChangeShapes Go.WideShapes Go.ChangeAt Go.RowKit
/-- A slice's header and its elements; nil has no room. -/
theorem opens_slice0 {α : Type} {P : Program} {w : World} {t e : TypeId} {R : List Value → α → Prop} (ht : P.underlying t = some (.slice e)) (hk : 0 < P.cellsOf e) (he : Opens P w e R) :
    Opens P w t (fun cs (xs : List α) => ∃ oa cap, cs = [.slice oa xs.length cap] ∧ xs.length ≤ cap ∧ cap ≤ maxLen ∧ (oa = none → cap = 0) ∧ SliceR w (P.cellsOf e) R oa xs) := by
  intro H enc sp held fuel cs x h
  have h0 : ∀ c l, cs = [.slice none l c] → c = 0 := by
    intro c l hcs
    rcases Deep.open_slice ht h with ⟨rfl, _⟩ | ⟨a, len, cap, m, n, D, Pl, rfl, _⟩
    · simp at hcs; omega
    · simp at hcs
  obtain ⟨xs, oa, cap, h1, h2, h3, h4⟩ := opens_slice ht hk he H enc sp held fuel cs x h
  refine ⟨xs, oa, cap, h1, h2, h3, fun e0 => ?_, h4⟩
  subst e0
  exact h0 cap _ h1
theorem opens_ints {P : Program} {w : World} {t e : TypeId} (ht : P.underlying t = some (.slice e)) (hk : P.cellsOf e = 1) (he : P.underlying e = some (.int .i64)) :
    Opens P w t (fun cs (xs : List Int) => ∃ v, cs = [v] ∧ IsSlice w 1 encInt v xs ∧ ∀ x ∈ xs, i64ok x) := by
  intro H enc sp held fuel cs x h
  obtain ⟨xs, oa, cap, h1, h2, h3, h4, h5⟩ := opens_slice0 ht (by omega) (opens_int he) H enc sp held fuel cs x h
  rw [hk] at h5
  refine ⟨xs, _, h1, ⟨oa, cap, rfl, h4, by omega, h5.flat (fun cs n hr => hr.1)⟩, fun x hx => ?_⟩
  obtain ⟨cs, hr⟩ := h5.mem x hx
  exact hr.2
/-- An argument of rows. -/
def RowsArg (w : World) (v : Value) : Prop := ∃ (rows : List (List Int)) (oa : Option Addr) (cap : Nat), v = .slice oa rows.length cap ∧ rows.length ≤ maxLen ∧ (oa = none → cap = 0) ∧ rows.length ≤ cap ∧ Rows1 w 1 encInt oa rows ∧ ∀ r ∈ rows, ∀ x ∈ r, i64ok x
theorem opens_rows {P : Program} {w : World} {t s e : TypeId} (ht : P.underlying t = some (.slice s)) (hs : P.underlying s = some (.slice e)) (ks : P.cellsOf s = 1) (hk : P.cellsOf e = 1) (he : P.underlying e = some (.int .i64)) :
    Opens P w t (fun cs (v : Value) => cs = [v] ∧ RowsArg w v) := by
  intro H enc sp held fuel cs x h
  obtain ⟨rows, oa, cap, h1, h2, h3, h4, h5⟩ := opens_slice0 ht (by omega) (opens_ints hs hk he) H enc sp held fuel cs x h
  rw [ks] at h5
  refine ⟨_, h1, rows, oa, cap, rfl, by omega, h4, h2, fun i hi => ?_, fun r hr => ?_⟩
  · obtain ⟨b, off, cs', e1, e2, e3, v, rfl, e4, _⟩ := h5 i hi
    refine ⟨b, off, v, e1, ?_, e4⟩
    have := e3 0 v rfl
    simpa using this
  · obtain ⟨cs', v, _, _, hv⟩ := h5.mem r hr
    exact hv
theorem open_rowsArg {H : Type} {enc : TypeId × Value → H} {P : Program} {w : World} {t s e : TypeId} {sp : Nat → Bool} {held : Bool} {r : Reach} {b0 : Nat} {v : Value} {d : DataW H} {ps : List MemPlace}
    (ht : P.underlying t = some (.slice s)) (hs : P.underlying s = some (.slice e)) (ks : P.cellsOf s = 1) (hk : P.cellsOf e = 1) (he : P.underlying e = some (.int .i64)) (hval : Value.okWide P w r b0 t v) (hd : DataW.Trod enc P w 0 sp held t v d ps) : RowsArg w v := by
  obtain ⟨a0, len, c, rfl⟩ := okWide_slice ht hval
  obtain ⟨fuel, hf⟩ := hd
  obtain ⟨v, h1, h2⟩ := opens_rows ht hs ks hk he _ _ _ _ _ _ _ hf
  simp [Value.cells] at h1
  subst h1
  exact h2
end Go.Proofs.Ytiokmfmcmfbjoaa
