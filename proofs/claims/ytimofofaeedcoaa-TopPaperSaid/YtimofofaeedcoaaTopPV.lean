/-
  The sheets for plates: plain laws, and lists of plates in memory. Own text.
-/
import Derived.Test.YtimofofaeedcoaaNeed
import Derived.Test.YtimofofaeedcoaaFSuffV
import Derived.Test.YtimofofaeedcoaaFormsX
import Derived.Test.YtimofofaeedcoaaMCut
namespace Go.Proofs.Ytimofofaeedcoaa
open Go.RowKit
set_option linter.unusedVariables false
theorem after_step {s p x : Int} (h0 : 0 ≤ s) (h1 : 0 ≤ p) (h2 : p ≤ 999) (hx : 0 ≤ x) : afterV s p (x + 1) ≤ afterV s p x + 1 := by
  unfold afterV
  by_cases h : x + 1 ≤ s
  · rw [if_pos h, if_pos (by omega)]
    omega
  · rw [if_neg h]
    have hm : 0 ≤ (x + 1 - s) * p := Int.mul_nonneg (by omega) h1
    by_cases h' : x ≤ s
    · rw [if_pos h']
      have := Int.ediv_nonneg (a := (x + 1 - s) * p + 1000 - 1) (b := 1000) (by omega) (by omega)
      omega
    · rw [if_neg h']
      have e : (x + 1 - s) * p = (x - s) * p + p := by
        rw [show x + 1 - s = (x - s) + 1 by omega, Int.add_mul, Int.one_mul]
      rw [e]
      have := Int.ediv_le_ediv (a := (x - s) * p + 1000 - 1) (b := (x - s) * p + p + 1000 - 1) (c := 1000) (by omega) (by omega)
      omega
theorem yield_one {xs : List (Int × Int)} (hx : GoodSteps xs) {x : Int} (h0 : 0 ≤ x) : yieldV xs (x + 1) ≤ yieldV xs x + 1 := by
  induction xs generalizing x with
  | nil => exact Int.le_refl _
  | cons s r ih =>
    have hs := hx s (by simp)
    have hr : GoodSteps r := fun y hy => hx y (by simp [hy])
    have ha := after_bd s.1 s.2 x hs.1 hs.2.2.1 hs.2.2.2 h0
    have ha2 := after_bd s.1 s.2 (x + 1) hs.1 hs.2.2.1 hs.2.2.2 (by omega)
    have h1 := after_step (x := x) hs.1 hs.2.2.1 hs.2.2.2 h0
    have h2 := yield_mono hr ha2.1 h1
    have h3 := ih hr ha.1
    show yieldV r (afterV s.1 s.2 (x + 1)) ≤ yieldV r (afterV s.1 s.2 x) + 1
    omega
/-- What is needed yields exactly what is asked. -/
theorem need_exact {xs : List (Int × Int)} (hx : GoodSteps xs) {g n : Int} (hg : 1 ≤ g) (h : needL xs g = some n) : 1 ≤ n ∧ yieldV xs n = g ∧ yieldV xs (n - 1) < g := by
  obtain ⟨n0, hi⟩ := need_iff hx (by omega) h
  have h1 := (hi n n0).2 (Int.le_refl _)
  have hn : 1 ≤ n := by
    by_cases e : 1 ≤ n
    · exact e
    · have := yield_bd hx (n := n) n0
      omega
  have h2 : ¬ g ≤ yieldV xs (n - 1) := fun e => by have := (hi (n - 1) (by omega)).1 e; omega
  have h3 := yield_one hx (x := n - 1) (by omega)
  rw [show n - 1 + 1 = n by omega] at h3
  omega
theorem chk_ten (xs : List (Int × Int)) : (chk xs == 10) = false := by
  unfold chk
  split
  · rfl
  · split <;> rfl
theorem need_lit : chk [((10 : Int), (100 : Int))] = 0 ∧ needR [((10 : Int), (100 : Int))] 18 = (30, 0) := by decide
/-- The demands of the law. -/
def listP (ds : List Int) (k : Nat) : List Int := (ds.take k).map fun d => mcV d 1 3000
theorem listP_succ {ds : List Int} {k : Nat} (h : k < ds.length) : listP ds (k + 1) = listP ds k ++ [mcV ds[k] 1 3000] := by
  unfold listP
  rw [List.take_succ_eq_append_getElem h, List.map_append]
  rfl
theorem listP_len {ds : List Int} {k : Nat} (h : k ≤ ds.length) : (listP ds k).length = k := by
  unfold listP
  rw [List.length_map, List.length_take]
  omega
theorem listP_demands (ds : List Int) (k : Nat) : Demands (listP ds k) := by
  intro d hd
  unfold listP at hd
  obtain ⟨x, _, rfl⟩ := List.mem_map.1 hd
  have := mcV_bd (x := x) (lo := 1) (hi := 3000) (by omega)
  omega
theorem Flat.takeK {α : Type} {w : World} {k : Nat} {enc : α → List Value} {oa : Option Addr} {xs : List α} (h : Flat w k enc oa xs) (n : Nat) : Flat w k enc oa (xs.take n) := by
  intro i hi j hj
  have hi' : i < xs.length := by rw [List.length_take] at hi; omega
  have := h i hi' j hj
  rw [List.getElem_take]
  exact this
/-! ### Plates as cells -/
/-- The cells of plate i are x, in the memory w. -/
def CellOf (w : World) (oa : Option Addr) (fs : List Form) (i : Nat) (x : FormC) : Prop :=
  ∃ (h : i < fs.length) (b off : Nat) (oj : Option Addr) (cj : Nat) (ou : Option Addr) (cu : Nat), oa = some ⟨b, off, none⟩ ∧ x = (.slice oj fs[i].jobs.length cj, .slice ou fs[i].ups.length cu, fs[i].run) ∧
    w.cell? ⟨b, off + i * 3, none⟩ = some (.slice oj fs[i].jobs.length cj) ∧ w.cell? ⟨b, off + i * 3 + 1, none⟩ = some (.slice ou fs[i].ups.length cu) ∧ w.cell? ⟨b, off + i * 3 + 2, none⟩ = some (.int .i64 fs[i].run) ∧ FormR w (encF x) fs[i]
theorem forms_cells {w : World} {oa : Option Addr} {fs : List Form} (h : FormsAt w oa fs) : ∃ X : List FormC, X.length = fs.length ∧ ∀ i (hi : i < X.length), CellOf w oa fs i X[i] := by
  have hc : ∀ i : Nat, ∃ x : FormC, i < fs.length → CellOf w oa fs i x := by
    intro i
    by_cases hi : i < fs.length
    · obtain ⟨b, off, cs, e, _, hcs, oj, cj, ou, cu, hcs2, h1, h2, h3, h4, h5⟩ := h i hi
      subst hcs2
      refine ⟨(.slice oj fs[i].jobs.length cj, .slice ou fs[i].ups.length cu, fs[i].run), fun _ => ⟨hi, b, off, oj, cj, ou, cu, e, rfl, ?_, ?_, ?_, oj, cj, ou, cu, rfl, h1, h2, h3, h4, h5⟩⟩
      · simpa using hcs 0 _ rfl
      · simpa [Nat.add_assoc] using hcs 1 _ rfl
      · simpa [Nat.add_assoc] using hcs 2 _ rfl
    · exact ⟨(.slice none 0 0, .slice none 0 0, 0), fun hh => absurd hh hi⟩
  obtain ⟨f, hf⟩ := Classical.axiomOfChoice hc
  refine ⟨(List.range fs.length).map f, by rw [List.length_map, List.length_range], fun i hi => ?_⟩
  rw [List.length_map, List.length_range] at hi
  rw [List.getElem_map, List.getElem_range]
  exact hf i hi
theorem forms_again {w w' : World} {base : Nat} {v : Value} {oa : Option Addr} {fs : List Form} {X : List FormC} (hl : X.length = fs.length) (hX : ∀ i (hi : i < X.length), CellOf w oa fs i X[i]) (hown : Own w' base 34 3 encF v X) (hb : Below w.heap.size w w') :
    ∃ ov cv, v = .slice ov fs.length cv ∧ FormsAt w' ov fs := by
  obtain ⟨ov, cv, e, _, hf⟩ := hown.flat (fun _ => rfl)
  refine ⟨ov, cv, by rw [e, hl], fun i hi => ?_⟩
  have hi' : i < X.length := by rw [hl]; exact hi
  obtain ⟨_, _, _, _, _, _, _, _, _, _, _, _, hR⟩ := hX i hi'
  obtain ⟨v0, hv0, b, off, eo, hc0⟩ := hf i hi' 0 (by omega)
  refine ⟨b, off, encF X[i], eo, rfl, fun j u hu => ?_, hR.below hb⟩
  have hj : j < 3 := (List.getElem?_eq_some_iff.1 hu).1
  obtain ⟨v1, hv1, b', off', eo', hc1⟩ := hf i hi' j hj
  rw [eo] at eo'
  cases eo'
  rw [hu] at hv1
  cases hv1
  exact hc1
theorem Own.otherCell {α : Type} {w : World} {base : Nat} {e : TypeId} {k : Nat} {enc : α → List Value} {v : Value} {xs : List α} (h : Own w base e k enc v xs) {a : Addr} (ha : w.heap.size ≤ a.block ∨ v.ownBlock ≠ some a.block) (x : Value) : Own (w.setCell a x) base e k enc v xs := by
  refine ⟨h.1, ?_⟩
  rcases h.2 with h1 | ⟨g, cap, cur, h1, h2, h3, r⟩
  · exact .inl h1
  · refine .inr ⟨g, cap, cur, h1, h2, ?_, r⟩
    have hne : g ≠ a.block := by
      intro e
      rcases ha with ha | ha
      · have := (World.ownsRow.lt h g (by rw [h1]; rfl)).2
        omega
      · exact ha (by rw [h1, ← e]; rfl)
    rw [Below.heap_setCell _ _ _ _ hne]
    exact h3
end Go.Proofs.Ytimofofaeedcoaa
