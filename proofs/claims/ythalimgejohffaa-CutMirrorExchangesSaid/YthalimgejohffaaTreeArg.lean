/-
  The arguments []api.CutItem and api.CutTree, opened. Own text.
-/
import Derived.Test.YthalimgejohffaaRows
import Derived.Test.YthalimgejohffaaCuts
import Derived.Test.YthalimgejohffaaOpen
namespace Go.Proofs.Ythalimgejohffaa
open Go.ChangeShapes Go.WideShapes Go.ChangeAt Go.RowKit
theorem cellsTree : Try.prog.cellsOf 25 = 4 := by kernel_rfl
theorem cellsItem : Try.prog.cellsOf 51 = 4 := by kernel_rfl
theorem cellsInt : Try.prog.cellsOf 3 = 1 := by kernel_rfl
theorem cellsBool : Try.prog.cellsOf 4 = 1 := by kernel_rfl
theorem cellsTrees : Try.prog.cellsOf 23 = 1 := by kernel_rfl
theorem opens_item (w : World) : Opens Try.prog w 51 (fun cs (p : Item) => cs = encItem p) := by
  intro H enc sp held fuel cs x h
  obtain ⟨xs, n, _, rfl, hl, hlen, hf⟩ := DataW.trod_struct Try.underlying51 h
  rw [cellsItem] at hl
  match cs, hl with
  | [a, b, c, d], _ =>
    have l4 : xs.length = 4 := hlen
    have e0 := (hf 0 _ rfl).trans (List.getElem?_eq_getElem (by omega))
    have e1 := (hf 1 _ rfl).trans (List.getElem?_eq_getElem (by omega))
    have e2 := (hf 2 _ rfl).trans (List.getElem?_eq_getElem (by omega))
    have e3 := (hf 3 _ rfl).trans (List.getElem?_eq_getElem (by omega))
    obtain ⟨p0, h0, _, _⟩ := DataW.trod_int Try.underlying3 e0
    obtain ⟨p1, h1, _, _⟩ := DataW.trod_int Try.underlying3 e1
    obtain ⟨p2, h2, _, _⟩ := DataW.trod_int Try.underlying3 e2
    obtain ⟨p3, h3, _⟩ := DataW.trod_bool Try.underlying4 e3
    simp [cellsInt, cellsBool] at h0 h1 h2 h3
    subst h0 h1 h2 h3
    exact ⟨⟨p0, p1, p2, p3⟩, rfl⟩
theorem tree_of {H : Type} {enc : TypeId × Value → H} {w : World} {sp : Nat → Bool} {held : Bool} : ∀ (m fuel : Nat), fuel ≤ m → ∀ (cs : List Value) (x : DataW H × List MemPlace), DataW.trod enc Try.prog w 0 sp held fuel 25 cs = some x → ∃ t, TreeAt w t cs := by
  intro m
  induction m with
  | zero =>
    intro fuel hfu cs x h
    obtain ⟨xs, n, hn, _⟩ := DataW.trod_struct Try.underlying25 h
    omega
  | succ m ih =>
    intro fuel hfu cs x h
    obtain ⟨xs, n, hn, rfl, hl, hlen, hf⟩ := DataW.trod_struct Try.underlying25 h
    rw [cellsTree] at hl
    match cs, hl with
    | [a, b, c, d], _ =>
      have l4 : xs.length = 4 := hlen
      have e0 := (hf 0 _ rfl).trans (List.getElem?_eq_getElem (by omega))
      have e1 := (hf 1 _ rfl).trans (List.getElem?_eq_getElem (by omega))
      have e2 := (hf 2 _ rfl).trans (List.getElem?_eq_getElem (by omega))
      have e3 := (hf 3 _ rfl).trans (List.getElem?_eq_getElem (by omega))
      obtain ⟨p0, h0, _, w0⟩ := DataW.trod_int Try.underlying3 e0
      obtain ⟨p1, h1, _, w1⟩ := DataW.trod_int Try.underlying3 e1
      obtain ⟨p2, h2, _, w2⟩ := DataW.trod_int Try.underlying3 e2
      have k0 := bounds_i64 w0
      have k1 := bounds_i64 w1
      have k2 := bounds_i64 w2
      simp [cellsInt] at h0 h1 h2
      subst h0 h1 h2
      rcases DataW.trod_slice Try.underlying23 e3 with ⟨h3, _⟩ | ⟨ad, len, cap, elems, rest, n', hn', h3, _, _, hlc, hcm, hel, hx, _⟩
      · simp [cellsTrees] at h3
        subst h3
        exact ⟨_, .mk p0 p1 p2 [] none 0 (fun _ => []) (by decide) ⟨k0.1, k0.2, k1.1, k1.2, k2.1, k2.2⟩ (fun j hj => by cases hj) (fun j hj => by cases hj)⟩
      · simp [cellsTrees] at h3
        subst h3
        have hk : ∀ i, i < len → ∃ t, ∃ cs' : List Value, cs'.length = 4 ∧ (∀ j v, cs'[j]? = some v → w.cell? ((ad.add (i * 4)).add j) = some v) ∧ TreeAt w t cs' := by
          intro i hi
          have h1 := hx i hi
          rw [List.getElem?_eq_getElem (by omega), cellsTree] at h1
          obtain ⟨cs', hc1, hc2⟩ := Option.bind_eq_some_iff.1 h1
          obtain ⟨t, ht⟩ := ih n' (by omega) cs' _ hc2
          obtain ⟨_, hl', hc⟩ := World.cells?_some hc1
          refine ⟨t, cs', hl', fun j v hv => ?_, ht⟩
          rw [hc j (by have := (List.getElem?_eq_some_iff.1 hv).1; omega)]
          exact hv
        obtain ⟨ts, hts, hall⟩ := choose_list len hk
        obtain ⟨css, hcss⟩ : ∃ css : Nat → List Value, ∀ i (h : i < ts.length), (css i).length = 4 ∧ (∀ j v, (css i)[j]? = some v → w.cell? ((ad.add (i * 4)).add j) = some v) ∧ TreeAt w ts[i] (css i) := by
          refine ⟨fun i => if h : i < ts.length then Classical.choose (hall i h) else [], fun i h => ?_⟩
          simp only [dif_pos h]
          exact Classical.choose_spec (hall i h)
        subst hts
        refine ⟨_, .mk p0 p1 p2 ts (some ad) cap css (by omega) ⟨k0.1, k0.2, k1.1, k1.2, k2.1, k2.2⟩ (fun j hj => ?_) (fun j hj => (hcss j hj).2.2)⟩
        obtain ⟨l0, g0, _⟩ := hcss 0 (by omega)
        have hs := cell?_spot (g0 0 (css 0)[0] (List.getElem?_eq_getElem (by omega)))
        obtain ⟨b, off, s⟩ := ad
        have hs' : s = none := by simpa [Addr.add] using hs
        subst hs'
        refine ⟨b, off, rfl, fun q v hv => ?_⟩
        have := (hcss j hj).2.1 q v hv
        rw [Deep.add_add] at this
        have e1 : (⟨b, off, none⟩ : Addr).add (j * 4 + q) = ⟨b, off + (j * 4 + q), none⟩ := by
          unfold Addr.add
          split <;> simp_all
        rw [e1] at this
        exact this
end Go.Proofs.Ythalimgejohffaa
