/-
  Slices of slices; an append of a whole slice. General over the program. Own text.
-/
import Derived.Test.YtnnnihjagjfkdaaGreatDoorRead
import Derived.Laws.AppendOwnNone
import Derived.Lib.AppendZeros
namespace Go.Proofs.YtnnnihjagjfkdaaGreatDoor
open Go.RowKit

/-- A slice value that reads as xs. -/
def IsSlice {α : Type} (w : World) (k : Nat) (enc : α → List Value) (v : Value) (xs : List α) : Prop :=
  ∃ oa cap, v = .slice oa xs.length cap ∧ (oa = none → cap = 0) ∧ xs.length ≤ maxLen ∧ Flat w k enc oa xs

theorem IsSlice.below {α : Type} {w w' : World} {k : Nat} {enc : α → List Value} {v : Value} {xs : List α} (h : IsSlice w k enc v xs) (hb : Below w.heap.size w w') : IsSlice w' k enc v xs := by
  obtain ⟨oa, cap, e, h0, h1, h2⟩ := h
  exact ⟨oa, cap, e, h0, h1, h2.below hb⟩

theorem Own.isSlice {α : Type} {w : World} {base : Nat} {e : TypeId} {k : Nat} {enc : α → List Value} {v : Value} {xs : List α} (h : Own w base e k enc v xs) (hl : ∀ x, (enc x).length = k) : IsSlice w k enc v xs := by
  obtain ⟨oa, cap, e1, h1, h2⟩ := h.flat hl
  refine ⟨oa, cap, e1, ?_, h1, h2⟩
  intro e0
  rcases h.2 with ⟨ev, _⟩ | ⟨g, cap', cur, ev, _⟩
  · rw [ev] at e1; simp at e1; omega
  · rw [ev, e0] at e1; simp at e1

/-- The slice at 'oa' holds, one cell an element, slices that read as rows. -/
def Rows1 {α : Type} (w : World) (k : Nat) (enc : α → List Value) (oa : Option Addr) (rows : List (List α)) : Prop :=
  ∀ i (h : i < rows.length), ∃ b off v, oa = some ⟨b, off, none⟩ ∧ w.cell? ⟨b, off + i, none⟩ = some v ∧ IsSlice w k enc v rows[i]

theorem Rows1.below {α : Type} {w w' : World} {k : Nat} {enc : α → List Value} {oa : Option Addr} {rows : List (List α)} (h : Rows1 w k enc oa rows) (hb : Below w.heap.size w w') : Rows1 w' k enc oa rows := by
  intro i hi
  obtain ⟨b, off, v, e, hc, hs⟩ := h i hi
  refine ⟨b, off, v, e, ?_, hs.below hb⟩
  rw [hb.cell (p := ⟨b, off + i, none⟩) (cell?_lt (a := ⟨b, off + i, none⟩) hc)]
  exact hc

/-- A slice literal of slices: its new block. -/
theorem Rows1.lit2 {α : Type} {w : World} {k : Nat} {enc : α → List Value} {v1 v2 : Value} {r1 r2 : List α} (h1 : IsSlice w k enc v1 r1) (h2 : IsSlice w k enc v2 r2) (e : TypeId) :
    Rows1 (w.alloc (.cells #[v1, v2] e)) k enc (some ⟨w.heap.size, 0, none⟩) [r1, r2] := by
  have hb : Below w.heap.size w (w.alloc (.cells #[v1, v2] e)) := (Below.refl _ _).alloc (Nat.le_refl _) _
  intro i hi
  have hi2 : i < 2 := by simpa using hi
  rcases Nat.lt_or_ge i 1 with h | h
  · obtain rfl : i = 0 := by omega
    exact ⟨w.heap.size, 0, v1, rfl, by rw [cell_of_row _ w.heap.size _ _ e (0, 0) (heap_alloc_new w _)]; rfl, h1.below hb⟩
  · obtain rfl : i = 1 := by omega
    exact ⟨w.heap.size, 0, v2, rfl, by rw [cell_of_row _ w.heap.size _ _ e (0, 0) (heap_alloc_new w _)]; rfl, h2.below hb⟩

theorem add_none (b off n : Nat) : (⟨b, off, none⟩ : Addr).add n = ⟨b, off + n, none⟩ := by
  unfold Addr.add
  split <;> simp_all

theorem flatMap_length {α : Type} {k : Nat} {enc : α → List Value} (hl : ∀ x, (enc x).length = k) (xs : List α) : (xs.flatMap enc).length = xs.length * k := by
  induction xs with
  | nil => simp
  | cons x xs ih => rw [List.flatMap_cons, List.length_append, hl, ih, List.length_cons, Nat.add_mul]; omega

theorem Flat.news {α : Type} {w : World} {k : Nat} {enc : α → List Value} {ad : Addr} {xs : List α} (h : Flat w k enc (some ad) xs) (hl : ∀ x, (enc x).length = k) (hk : 0 < k) :
    ∀ j u, (xs.flatMap enc)[j]? = some u → w.cell? (ad.add j) = some u := by
  intro j u hu
  have hj := (List.getElem?_eq_some_iff.1 hu).1
  rw [flatMap_length hl] at hj
  have hi : j / k < xs.length := (Nat.div_lt_iff_lt_mul hk).2 hj
  have hm : j % k < k := Nat.mod_lt _ hk
  have e : j / k * k + j % k = j := by rw [Nat.mul_comm]; exact Nat.div_add_mod j k
  obtain ⟨v, hv, b, off, ea, hc⟩ := h (j / k) hi (j % k) hm
  have hg := flatMap_get hl xs (j / k) hi (j % k) hm
  rw [e] at hg
  rw [hu, hv] at hg
  simp only [Option.some.injEq] at ea hg
  subst ea
  rw [add_none, hg, ← hc, e]

section
variable {P : Program} {w : World} {ops : Array Oper} {rest : List Oper} {o : Oper} {a : Act} {Q : Exit → Act → World → Prop}
/-- 'append(s, y...)', s the call's own, y any slice. -/
theorem wpList_appRow {α : Type} (hgd : o.guard = none) (s x : Operand) (t : TypeId)
    (ho : o.op = .call { callee := .builtin .append, args := #[s, x], argTypes := #[t, t] })
    {e : TypeId} {z : Value} {size bytes : Nat} (hE : ElemType P e z size bytes) (ht : P.underlying t = some (.slice e))
    (base : Nat) (v : Value) (xs : List α) (enc : α → List Value) (hs : a.eval s = v) (hown : Own w base e size enc v xs) (ys : List α) (vy : Value)
    (hx : a.eval x = vy) (hy : IsSlice w size enc vy ys) (hl : ∀ x, (enc x).length = size) (h1 : ∀ y, ∀ u ∈ enc y, u.oneCell' = true)
    (hbytes : (xs.length + ys.length) * bytes ≤ 140737488355328) (h63 : xs.length + ys.length ≤ maxLen) (hbase : base ≤ w.heap.size)
    (h : ∀ v' w', Own w' base e size enc v' (xs ++ ys) → w.grownBy w' v.ownBlock → wpList P ops Q rest (a.put o.dst v') w') : wpList P ops Q (o :: rest) a w := by
  obtain ⟨i, hi, hz, hsz, hby, hzs, h0⟩ := hE
  obtain ⟨oa, cap, rfl, hc0, hm, hf⟩ := hy
  cases oa with
  | none =>
    have hys : ys = [] := by
      cases ys with
      | nil => rfl
      | cons y r =>
        obtain ⟨_, _, b, off, e0, _⟩ := hf 0 (by simp) 0 h0
        cases e0
    subst hys
    rw [hc0 rfl] at hx
    refine wpList_append_own_none hgd s x t ho base e i size ht hi v xs.length (xs.flatMap enc) hs hown hx ?_
    refine h v w ?_ ⟨rfl, rfl, rfl, Nat.le_refl _, fun _ _ _ => rfl⟩
    rw [List.append_nil]
    exact hown
  | some ad =>
    refine wpList_append_own w hgd s x t ho base e i z size bytes ht hi hz hsz hby hzs h0 v xs.length (xs.flatMap enc) hs hown ad ys.length cap (ys.flatMap enc) hx (by rw [flatMap_length hl]) (hf.news hl h0)
      (fun u hu => by obtain ⟨y, _, hy⟩ := List.mem_flatMap.1 hu; exact h1 y u hy) h63 hbytes hbase ?_
    intro v' w' hown' hg _
    refine h v' w' ?_ hg
    unfold Own
    rw [List.length_append, List.flatMap_append]
    exact hown'
end

/-- How many elements the rows have together. -/
def total {α : Type} (rows : List (List α)) : Nat := (rows.map List.length).sum
theorem total_take {α : Type} (rows : List (List α)) (k : Nat) (h : k < rows.length) : total (rows.take (k + 1)) = total (rows.take k) + rows[k].length := by
  unfold total
  rw [List.take_succ_eq_append_getElem h, List.map_append, List.sum_append]
  simp
theorem total_le {α : Type} (rows : List (List α)) (k : Nat) : total (rows.take k) ≤ total rows := by
  unfold total
  conv => rhs; rw [← List.take_append_drop k rows]
  rw [List.map_append, List.sum_append]
  omega
theorem total_flatten {α : Type} (rows : List (List α)) : rows.flatten.length = total rows := by
  unfold total
  rw [List.length_flatten]
theorem flatten_take {α : Type} (rows : List (List α)) (k : Nat) (h : k < rows.length) : (rows.take (k + 1)).flatten = (rows.take k).flatten ++ rows[k] := by
  rw [List.take_succ_eq_append_getElem h, List.flatten_append]
  simp
end Go.Proofs.YtnnnihjagjfkdaaGreatDoor
