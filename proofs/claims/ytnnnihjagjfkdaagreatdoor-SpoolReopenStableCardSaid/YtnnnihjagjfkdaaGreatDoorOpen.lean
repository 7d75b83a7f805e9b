/-
  From the form's reading of an argument to own readings. General over the program. Own text.
-/
import Derived.Test.YtnnnihjagjfkdaaGreatDoorRead
import Derived.Deep.Slices
import Derived.Deep.Strs
namespace Go.Proofs.YtnnnihjagjfkdaaGreatDoor
open Go.ChangeShapes Go.WideShapes Go.ChangeAt Go.RowKit

/-- Whatever reads at type t has cells that R tells of. -/
def Opens {α : Type} (P : Program) (w : World) (t : TypeId) (R : List Value → α → Prop) : Prop :=
  ∀ (H : Type) (enc : TypeId × Value → H) (sp : Nat → Bool) (held : Bool) (fuel : Nat) (cs : List Value) (x : DataW H × List MemPlace), DataW.trod enc P w 0 sp held fuel t cs = some x → ∃ y, R cs y

def i64ok (n : Int) : Prop := -9223372036854775808 ≤ n ∧ n ≤ 9223372036854775807

theorem opens_int {P : Program} {w : World} {t : TypeId} (ht : P.underlying t = some (.int .i64)) : Opens P w t (fun cs n => cs = [.int .i64 n] ∧ i64ok n) := by
  intro H enc sp held fuel cs x h
  obtain ⟨n, rfl, _, hw⟩ := DataW.trod_int ht h
  exact ⟨n, rfl, bounds_i64 hw⟩
theorem opens_bool {P : Program} {w : World} {t : TypeId} (ht : P.underlying t = some .bool) : Opens P w t (fun cs b => cs = [.bool b]) := by
  intro H enc sp held fuel cs x h
  obtain ⟨n, rfl, _⟩ := DataW.trod_bool ht h
  exact ⟨n, rfl⟩

/-- The slice at 'oa' (elements of k cells) reads as xs, each element by R. -/
def SliceR {α : Type} (w : World) (k : Nat) (R : List Value → α → Prop) (oa : Option Addr) (xs : List α) : Prop :=
  ∀ i (h : i < xs.length), ∃ b off cs, oa = some ⟨b, off, none⟩ ∧ cs.length = k ∧ (∀ j v, cs[j]? = some v → w.cell? ⟨b, off + (i * k + j), none⟩ = some v) ∧ R cs xs[i]

theorem SliceR.flat {α : Type} {w : World} {k : Nat} {R : List Value → α → Prop} {enc : α → List Value} {oa : Option Addr} {xs : List α} (h : SliceR w k R oa xs) (he : ∀ cs x, R cs x → cs = enc x) : Flat w k enc oa xs := by
  intro i hi j hj
  obtain ⟨b, off, cs, e, hl, hc, hr⟩ := h i hi
  have := he _ _ hr
  subst this
  have hj' : j < (enc xs[i]).length := by omega
  exact ⟨(enc xs[i])[j], List.getElem?_eq_getElem hj', b, off, e, hc j _ (List.getElem?_eq_getElem hj')⟩

theorem SliceR.mem {α : Type} {w : World} {k : Nat} {R : List Value → α → Prop} {oa : Option Addr} {xs : List α} (h : SliceR w k R oa xs) : ∀ x ∈ xs, ∃ cs, R cs x := by
  intro x hx
  obtain ⟨i, hi, rfl⟩ := List.mem_iff_getElem.1 hx
  obtain ⟨b, off, cs, _, _, _, hr⟩ := h i hi
  exact ⟨cs, hr⟩

theorem choose_list {α : Type} {p : Nat → α → Prop} : ∀ (n : Nat), (∀ i, i < n → ∃ x, p i x) → ∃ xs : List α, xs.length = n ∧ ∀ i (h : i < xs.length), p i xs[i]
  | 0, _ => ⟨[], rfl, fun i h => by simp at h⟩
  | n + 1, h => by
    obtain ⟨xs, hl, hx⟩ := choose_list n (fun i hi => h i (by omega))
    obtain ⟨x, hp⟩ := h n (by omega)
    refine ⟨xs ++ [x], by simp [hl], fun i hi => ?_⟩
    by_cases e : i < xs.length
    · rw [List.getElem_append_left e]
      exact hx i e
    · have : i = xs.length := by simp at hi; omega
      subst this
      rw [List.getElem_append_right (by omega)]
      simpa [hl] using hp

theorem cell?_spot {w : World} {a : Addr} {v : Value} (h : w.cell? a = some v) : a.spot = none := by
  unfold World.cell? at h
  cases e : w.heap[a.block]? with
  | none => rw [e] at h; cases h
  | some o =>
    rw [e] at h
    cases o <;> simp at h
    cases hs : a.spot with
    | none => rfl
    | some s => rw [hs] at h; simp at h

theorem opens_slice {α : Type} {P : Program} {w : World} {t e : TypeId} {R : List Value → α → Prop} (ht : P.underlying t = some (.slice e)) (hk : 0 < P.cellsOf e) (he : Opens P w e R) :
    Opens P w t (fun cs (xs : List α) => ∃ oa cap, cs = [.slice oa xs.length cap] ∧ xs.length ≤ cap ∧ cap ≤ maxLen ∧ SliceR w (P.cellsOf e) R oa xs) := by
  intro H enc sp held fuel cs x h
  rcases Deep.open_slice ht h with ⟨rfl, _⟩ | ⟨a, len, cap, m, n, D, Pl, rfl, _, hl, hm, hmm, _, hx⟩
  · exact ⟨[], none, 0, rfl, by simp, by simp, fun i hi => by simp at hi⟩
  · have hlm : len ≤ m := by rw [hmm]; split <;> omega
    obtain ⟨xs, hlen, hxs⟩ := choose_list (p := fun i y => ∃ cs, cs.length = P.cellsOf e ∧ (∀ j v, cs[j]? = some v → w.cell? ((a.add (i * P.cellsOf e)).add j) = some v) ∧ R cs y) len (fun i hi => by
      obtain ⟨cs', h1, h2⟩ := hx i (by omega)
      obtain ⟨y, hy⟩ := he _ _ _ _ _ _ _ h2
      obtain ⟨_, hlen, hc⟩ := World.cells?_some h1
      refine ⟨y, cs', hlen, fun j v hv => ?_, hy⟩
      rw [hc j (by have := (List.getElem?_eq_some_iff.1 hv).1; omega)]
      exact hv)
    refine ⟨xs, some a, cap, by rw [hlen], by omega, hm, fun i hi => ?_⟩
    obtain ⟨cs', h1, h2, h3⟩ := hxs i hi
    obtain ⟨cs0, g1, g2, _⟩ := hxs 0 (by omega)
    have h0 := g2 0 cs0[0] (List.getElem?_eq_getElem (by omega))
    have hs := cell?_spot h0
    obtain ⟨b, off, s⟩ := a
    have hs' : s = none := by simpa [Addr.add] using hs
    subst hs'
    refine ⟨b, off, cs', rfl, h1, fun j v hv => ?_, h3⟩
    have := h2 j v hv
    rw [Deep.add_add] at this
    have e1 : (⟨b, off, none⟩ : Addr).add (i * P.cellsOf e + j) = ⟨b, off + (i * P.cellsOf e + j), none⟩ := by
      unfold Addr.add
      split <;> simp_all
    rw [e1] at this
    exact this

/-- An argument of slice type, opened. -/
theorem open_sliceR {α H : Type} {enc : TypeId × Value → H} {P : Program} {w : World} {t e : TypeId} {R : List Value → α → Prop} {sp : Nat → Bool} {held : Bool} {r : Reach} {b0 : Nat} {v : Value} {d : DataW H} {ps : List MemPlace}
    (ht : P.underlying t = some (.slice e)) (hk : 0 < P.cellsOf e) (he : Opens P w e R) (hval : Value.okWide P w r b0 t v) (hd : DataW.Trod enc P w 0 sp held t v d ps) :
    ∃ (xs : List α) (oa : Option Addr) (cap : Nat), v = .slice oa xs.length cap ∧ xs.length ≤ cap ∧ cap ≤ maxLen ∧ SliceR w (P.cellsOf e) R oa xs := by
  obtain ⟨a0, len, c, rfl⟩ := okWide_slice ht hval
  obtain ⟨fuel, hf⟩ := hd
  obtain ⟨xs, oa, cap, hcs, h1, h2, h3⟩ := opens_slice ht hk he _ _ _ _ _ _ _ hf
  simp [Value.cells] at hcs
  obtain ⟨rfl, rfl, rfl⟩ := hcs
  exact ⟨xs, a0, c, rfl, h1, h2, h3⟩

/-- A struct of two ints. -/
theorem opens_int2 {P : Program} {w : World} {t : TypeId} {f0 f1 : Field} (ht : P.underlying t = some (.struct #[f0, f1])) (hc : P.cellsOf t = 2)
    (h0 : P.underlying f0.type = some (.int .i64)) (h1 : P.underlying f1.type = some (.int .i64)) (o0 : f0.offset = 0) (o1 : f1.offset = 1) (c0 : P.cellsOf f0.type = 1) (c1 : P.cellsOf f1.type = 1) :
    Opens P w t (fun cs (x : Int × Int) => cs = encInt2 x ∧ i64ok x.1 ∧ i64ok x.2) := by
  intro H enc sp held fuel cs x h
  obtain ⟨y0, y1, n, _, hl, e0, e1⟩ := trod_struct2 ht h
  rw [hc] at hl
  match cs, hl with
  | [a, b], _ =>
    rw [o0, c0] at e0
    rw [o1, c1] at e1
    obtain ⟨p, hp, _, wp⟩ := DataW.trod_int h0 e0
    obtain ⟨q, hq, _, wq⟩ := DataW.trod_int h1 e1
    simp at hp hq
    subst hp hq
    exact ⟨(p, q), rfl, bounds_i64 wp, bounds_i64 wq⟩
end Go.Proofs.YtnnnihjagjfkdaaGreatDoor
