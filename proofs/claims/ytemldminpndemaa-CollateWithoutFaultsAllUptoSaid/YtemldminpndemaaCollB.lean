/-
  Feeders as an argument whose bulk is bounded. Own text.
-/
import Derived.Test.YtemldminpndemaaCollArg
namespace Go.Proofs.Ytemldminpndemaa
open Go.ChangeShapes Go.WideShapes Go.ChangeAt Go.RowKit
set_option linter.unusedVariables false
theorem bulk_pos {H : Type} (d : DataW H) : 1 ≤ Rows.uptoBulk d := by
  cases d with
  | lit x => cases x <;> simp [Rows.uptoBulk]
  | _ => simp [Rows.uptoBulk]
theorem bulk_append {H : Type} (l r : List (DataW H)) : Rows.uptoBulkAll (l ++ r) = Rows.uptoBulkAll l + Rows.uptoBulkAll r := by
  induction l with
  | nil => simp [Rows.uptoBulkAll]
  | cons x l ih => simp only [List.cons_append, Rows.uptoBulkAll, ih]; omega
theorem bulk_len {H : Type} (l : List (DataW H)) : l.length ≤ Rows.uptoBulkAll l := by
  induction l with
  | nil => simp
  | cons x l ih => simp only [List.length_cons, Rows.uptoBulkAll]; have := bulk_pos x; omega
theorem bulk_mem {H : Type} {l : List (DataW H)} {x : DataW H} (h : x ∈ l) : Rows.uptoBulk x ≤ Rows.uptoBulkAll l := by
  induction l with
  | nil => cases h
  | cons y l ih =>
    simp only [Rows.uptoBulkAll]
    rcases List.mem_cons.1 h with rfl | h
    · omega
    · have := ih h; omega
theorem bulk_slice {H : Type} (elems spare : List (DataW H)) : Rows.uptoBulkAll elems + 1 ≤ Rows.uptoBulk (.slice elems spare) := by
  simp only [Rows.uptoBulk]
  omega
section
variable {H : Type} {enc : TypeId × Value → H} {w : World} {sp : Nat → Bool} {held : Bool}
set_option maxRecDepth 100000 in
theorem open_rowB {fuel : Nat} {cs : List Value} {x : DataW H × List MemPlace} (h : DataW.trod enc Try.prog w 0 sp held fuel 39 cs = some x) : ∃ l : List Pt, RowR w cs l ∧ l.length ≤ Rows.uptoBulk x.1 := by
  obtain ⟨l, hl⟩ := opens_pts H enc sp held fuel cs x h
  refine ⟨l, hl, ?_⟩
  obtain ⟨o, c, e, _, _⟩ := hl
  rcases Deep.open_slice Try.underlying39 h with ⟨h1, h2⟩ | ⟨a, len, cap, m, n, D, Pl, h1, _, hlc, hm, hmm, hx0, hx⟩
  · rw [e] at h1
    simp at h1
    simp [h1.2.1]
  · rw [e] at h1
    simp at h1
    have hd1 : x.1 = .slice ((List.range len).map D) ((List.range (m - len)).map fun j => D (len + j)) := congrArg Prod.fst hx0
    rw [hd1]
    have h4 := bulk_slice ((List.range len).map D) ((List.range (m - len)).map fun j => D (len + j))
    have h5 := bulk_len ((List.range len).map D)
    simp at h5
    omega
/-- An argument of feeders whose bulk is bounded. -/
def FeedArgB (w : World) (v : Value) (B : Nat) : Prop := ∃ (fs : List (List Pt)) (oa : Option Addr) (so : Nat → Option Addr) (sc : Nat → Nat) (cap : Nat), v = .slice oa fs.length cap ∧ Args w fs oa so sc ∧ fs.length ≤ B ∧ ∀ k, ln fs k ≤ B
set_option maxRecDepth 100000 in
theorem open_feedB {r : Go.Reach} {b0 : Nat} {v : Value} {d : DataW H} {ps : List MemPlace} (hval : Value.okWide Try.prog w r b0 22 v) (hd : DataW.Trod enc Try.prog w 0 sp held 22 v d ps) : FeedArgB w v (Rows.uptoBulk d) := by
  obtain ⟨a0, len0, c0, rfl⟩ := okWide_slice Try.underlying22 hval
  obtain ⟨fuel, hf⟩ := hd
  rcases Deep.open_slice Try.underlying22 hf with ⟨h1, h2⟩ | ⟨a, len, cap, m, n, D, Pl, h1, _, hl, hm, hmm, hx0, hx⟩
  · simp [Value.cells] at h1
    obtain ⟨rfl, rfl, rfl⟩ := h1
    exact ⟨[], none, fun _ => none, fun _ => 0, 0, rfl, ⟨fun k hk => by simp at hk, fun k hk => by simp at hk⟩, by simp, fun k => by simp [ln]⟩
  · simp [Value.cells] at h1
    obtain ⟨rfl, rfl, rfl⟩ := h1
    have hlm : len0 ≤ m := by rw [hmm]; split <;> omega
    obtain ⟨fs, hlen, hfs⟩ := choose_list (p := fun i (y : List Pt) => ∃ cs, cs.length = 1 ∧ (∀ j v, cs[j]? = some v → w.cell? ((a.add (i * 1)).add j) = some v) ∧ RowR w cs y ∧ y.length ≤ Rows.uptoBulk (D i)) len0 (fun i hi => by
      obtain ⟨cs', g1, g2⟩ := hx i (by omega)
      rw [cellsRow] at g1
      obtain ⟨_, hcl, hc⟩ := World.cells?_some g1
      obtain ⟨y, hy, hb⟩ := open_rowB g2
      exact ⟨y, cs', hcl, fun j v hv => by rw [hc j (by have := (List.getElem?_eq_some_iff.1 hv).1; omega)]; exact hv, hy, hb⟩)
    have hd1 : d = .slice ((List.range len0).map D) ((List.range (m - len0)).map fun j => D (len0 + j)) := congrArg Prod.fst hx0
    have h4 := bulk_slice ((List.range len0).map D) ((List.range (m - len0)).map fun j => D (len0 + j))
    have h5 := bulk_len ((List.range len0).map D)
    simp at h5
    have hS : SliceR w 1 (RowR w) (some a) fs := fun i hi => by
      obtain ⟨cs', g0, g1, g2, _⟩ := hfs i hi
      obtain ⟨cs0, k0, k1, k2, _⟩ := hfs 0 (by omega)
      have h00 := k1 0 cs0[0] (List.getElem?_eq_getElem (by omega))
      have hs := cell?_spot h00
      obtain ⟨b, off, s⟩ := a
      have hs' : s = none := by simpa [Addr.add] using hs
      subst hs'
      refine ⟨b, off, cs', rfl, g0, fun j v hv => ?_, g2⟩
      have h2 := g1 j v hv
      rw [Deep.add_add] at h2
      have e1 : (⟨b, off, none⟩ : Addr).add (i * 1 + j) = ⟨b, off + (i * 1 + j), none⟩ := by
        unfold Addr.add
        split <;> simp_all
      rw [e1] at h2
      exact h2
    obtain ⟨so, sc, h6, _⟩ := args_of hS
    refine ⟨fs, some a, so, sc, c0, by rw [hlen], h6, by rw [hd1, hlen]; omega, fun k => ?_⟩
    by_cases hk : k < fs.length
    · rw [ln_get fs k hk, hd1]
      obtain ⟨_, _, _, _, g3⟩ := hfs k hk
      have h7 : Rows.uptoBulk (D k) ≤ Rows.uptoBulkAll ((List.range len0).map D) := bulk_mem (List.mem_map.2 ⟨k, List.mem_range.2 (by omega), rfl⟩)
      omega
    · have : fs.getD k [] = [] := by rw [List.getD_eq_getElem?_getD, List.getElem?_eq_none (by omega)]; rfl
      unfold ln
      rw [this]
      simp
end
end Go.Proofs.Ytemldminpndemaa
