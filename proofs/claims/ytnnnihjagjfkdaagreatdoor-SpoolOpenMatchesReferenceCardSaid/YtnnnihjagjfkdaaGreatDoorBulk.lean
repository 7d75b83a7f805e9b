/-
  What a bound on the bulk of the arguments gives. Own text (after the given lemmas on the bulk).
-/
import Derived.Test.YtnnnihjagjfkdaaGreatDoorRows
import Derived.Test.YtnnnihjagjfkdaaGreatDoorBase
import Derived.Test.YtnnnihjagjfkdaaGreatDoorQues
namespace Go.Proofs.YtnnnihjagjfkdaaGreatDoor
open Go.ChangeShapes Go.WideShapes Go.ChangeAt Go.RowKit
set_option linter.unusedVariables false
theorem bulk_append {H : Type} (l r : List (DataW H)) : Rows.uptoBulkAll (l ++ r) = Rows.uptoBulkAll l + Rows.uptoBulkAll r := by
  induction l with
  | nil => simp [Rows.uptoBulkAll]
  | cons x l ih => simp only [List.cons_append, Rows.uptoBulkAll, ih]; omega
theorem bulk_slice {H : Type} (elems spare : List (DataW H)) : Rows.uptoBulkAll elems + 1 ≤ Rows.uptoBulk (.slice elems spare) := by
  simp only [Rows.uptoBulk]
  omega
theorem bulk_string {H : Type} (bytes : List UInt8) : Rows.uptoBulk (DataW.lit (H := H) (.string bytes)) = bytes.length + 1 := by
  simp [Rows.uptoBulk]
/-- The sizes of all data. -/
def sizeWL (l : List Wr) : Nat := (l.map fun x => x.data.size).sum
theorem cellsInt : Tryz.prog.cellsOf 3 = 1 := by kernel_rfl
theorem cellsStr : Tryz.prog.cellsOf 9 = 1 := by kernel_rfl
theorem cellsWr : Tryz.prog.cellsOf 54 = 2 := by kernel_rfl
theorem cellsDisk : Tryz.prog.cellsOf 23 = 2 := by kernel_rfl
section
variable {H : Type} {enc : TypeId × Value → H} {w : World} {sp : Nat → Bool} {held : Bool} {fuel : Nat}
set_option maxRecDepth 100000 in
theorem open_wr {cs : List Value} {x : DataW H × List MemPlace} (h : DataW.trod enc Tryz.prog w 0 sp held fuel 54 cs = some x) : ∃ y : Wr, cs = encWr y ∧ y.data.size + 2 ≤ Rows.uptoBulk x.1 := by
  obtain ⟨xs, n, _, rfl, hl, hlen, hf⟩ := DataW.trod_struct Tryz.underlying54 h
  rw [cellsWr] at hl
  match cs, hl with
  | [a, b], _ =>
    have l2 : xs.length = 2 := hlen
    match xs, l2 with
    | [x0, x1], _ =>
      have e0 := hf 0 _ rfl
      have e1 := hf 1 _ rfl
      obtain ⟨p0, h0, hx0, _⟩ := DataW.trod_int Tryz.underlying3 (e0.trans rfl)
      obtain ⟨s, h1, hx1, _⟩ := DataW.trod_string Tryz.underlying9 (e1.trans rfl)
      simp [cellsInt, cellsStr] at h0 h1
      subst h0 h1
      refine ⟨⟨p0, s⟩, rfl, ?_⟩
      have q1 : x1.1 = .lit (.string s.data.toList) := by rw [hx1]
      show s.size + 2 ≤ Rows.uptoBulk (.agg [x0.1, x1.1])
      rw [q1]
      simp only [Rows.uptoBulk, Rows.uptoBulkAll]
      have : s.data.toList.length = s.size := by simp
      omega
set_option maxRecDepth 100000 in
theorem open_writes {v : Value} {d : DataW H} {ps : List MemPlace} (hd : DataW.Trod enc Tryz.prog w 0 sp held 35 v d ps) {r : Go.Reach} {b0 : Nat} (hval : Value.okWide Tryz.prog w r b0 35 v) :
    ∃ (l : List Wr) (oa : Option Addr) (cap : Nat), v = .slice oa l.length cap ∧ Flat w 2 encWr oa l ∧ sizeWL l + l.length ≤ Rows.uptoBulk d := by
  obtain ⟨a0, len0, c0, rfl⟩ := okWide_slice Tryz.underlying35 hval
  obtain ⟨fuel, hf⟩ := hd
  rcases Deep.open_slice Tryz.underlying35 hf with ⟨h1, h2⟩ | ⟨a, len, cap, m, n, D, Pl, h1, _, hl, hm, hmm, hx0, hx⟩
  · simp [Value.cells] at h1
    obtain ⟨rfl, rfl, rfl⟩ := h1
    exact ⟨[], none, 0, rfl, (fun i hi => by simp at hi), by simp [sizeWL]⟩
  · simp [Value.cells] at h1
    obtain ⟨rfl, rfl, rfl⟩ := h1
    have hlm : len0 ≤ m := by rw [hmm]; split <;> omega
    obtain ⟨xs, hlen, hxs⟩ := choose_list (p := fun i (y : Wr) => (∀ j v, (encWr y)[j]? = some v → w.cell? ((a.add (i * 2)).add j) = some v) ∧ y.data.size + 2 ≤ Rows.uptoBulk (D i)) len0 (fun i hi => by
      obtain ⟨cs', g1, g2⟩ := hx i (by omega)
      rw [cellsWr] at g1
      obtain ⟨_, hcl, hc⟩ := World.cells?_some g1
      obtain ⟨y, hy, hb⟩ := open_wr g2
      subst hy
      exact ⟨y, fun j v hv => by rw [hc j (by have := (List.getElem?_eq_some_iff.1 hv).1; simpa [encWr] using this)]; exact hv, hb⟩)
    have hsum : ∀ k, k ≤ xs.length → sizeWL (xs.take k) + k ≤ Rows.uptoBulkAll ((List.range k).map D) := by
      intro k
      induction k with
      | zero => intro _; simp [sizeWL, Rows.uptoBulkAll]
      | succ k ih =>
        intro hk
        have h1 := ih (by omega)
        have h2 := (hxs k (by omega)).2
        rw [List.range_succ, List.map_append, bulk_append, List.take_succ_eq_append_getElem (by omega)]
        simp only [List.map_cons, List.map_nil, Rows.uptoBulkAll, sizeWL, List.map_append, List.sum_append, List.sum_cons, List.sum_nil] at h1 ⊢
        omega
    have hd1 : d = .slice ((List.range len0).map D) ((List.range (m - len0)).map fun j => D (len0 + j)) := congrArg Prod.fst hx0
    refine ⟨xs, some a, c0, by rw [hlen], fun i hi j hj => ?_, ?_⟩
    · obtain ⟨g1, _⟩ := hxs i hi
      obtain ⟨b, off, s⟩ := a
      have h00 := (hxs 0 (by omega)).1 0 (.int .i64 xs[0].area) rfl
      have hs := cell?_spot h00
      have hs' : s = none := by simpa [Addr.add] using hs
      subst hs'
      have hj' : j < (encWr xs[i]).length := hj
      refine ⟨(encWr xs[i])[j], List.getElem?_eq_getElem hj', b, off, rfl, ?_⟩
      have h2 := g1 j _ (List.getElem?_eq_getElem hj')
      rw [Deep.add_add] at h2
      have e1 : (⟨b, off, none⟩ : Addr).add (i * 2 + j) = ⟨b, off + (i * 2 + j), none⟩ := by
        unfold Addr.add
        split <;> simp_all
      rw [e1] at h2
      exact h2
    · have h3 := hsum xs.length (Nat.le_refl _)
      rw [List.take_length] at h3
      rw [hd1]
      have h4 := bulk_slice ((List.range len0).map D) ((List.range (m - len0)).map fun j => D (len0 + j))
      rw [hlen] at h3 ⊢
      omega
set_option maxRecDepth 100000 in
theorem open_disk {v : Value} {d : DataW H} {ps : List MemPlace} (hd : DataW.Trod enc Tryz.prog w 0 sp held 23 v d ps) {r : Go.Reach} {b0 : Nat} (hval : Value.okWide Tryz.prog w r b0 23 v) :
    ∃ x y : ByteArray, v = .agg #[.string x, .string y] ∧ x.size + y.size ≤ Rows.uptoBulk d := by
  obtain ⟨cs, rfl, _⟩ := okWide_struct Tryz.underlying23 hval
  obtain ⟨fuel, hf⟩ := hd
  obtain ⟨xs, n, _, hx, hl, hlen, hf⟩ := DataW.trod_struct Tryz.underlying23 hf
  have hd1 : d = .agg (xs.map fun x => x.1) := congrArg Prod.fst hx
  rw [cellsDisk] at hl
  have hcl : (Value.agg cs).cells.toList = cs.toList := by simp [Value.cells]
  rw [hcl] at hl hf
  have l2 : xs.length = 2 := hlen
  obtain ⟨cl⟩ := cs
  obtain ⟨a, b, rfl⟩ : ∃ a b, cl = [a, b] := by
    match cl, hl with
    | [a, b], _ => exact ⟨a, b, rfl⟩
  obtain ⟨x0, x1, rfl⟩ : ∃ x0 x1, xs = [x0, x1] := by
    match xs, l2 with
    | [x0, x1], _ => exact ⟨x0, x1, rfl⟩
  have e0 := hf 0 _ rfl
  have e1 := hf 1 _ rfl
  obtain ⟨s0, h0, hx0, _⟩ := DataW.trod_string Tryz.underlying9 (e0.trans rfl)
  obtain ⟨s1, h1, hx1, _⟩ := DataW.trod_string Tryz.underlying9 (e1.trans rfl)
  simp [cellsStr] at h0 h1
  subst h0 h1
  refine ⟨s0, s1, rfl, ?_⟩
  have q0 : x0.1 = .lit (.string s0.data.toList) := by rw [hx0]
  have q1 : x1.1 = .lit (.string s1.data.toList) := by rw [hx1]
  rw [hd1]
  simp only [List.map_cons, List.map_nil, q0, q1, Rows.uptoBulk, Rows.uptoBulkAll]
  have : s0.data.toList.length = s0.size := by simp
  have : s1.data.toList.length = s1.size := by simp
  omega
end
end Go.Proofs.YtnnnihjagjfkdaaGreatDoor
