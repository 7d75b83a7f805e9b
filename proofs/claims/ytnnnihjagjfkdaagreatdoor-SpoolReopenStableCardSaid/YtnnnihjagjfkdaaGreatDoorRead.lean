/-
  How slices of flat elements read in memory (own words), and what a larger world keeps of that. General over the program. Own text.
-/
import Derived.WalkKit
import Derived.ProofKit
import Derived.OpenShut
import Derived.Lib.Hide
import Derived.Deep.QuietTactic
import Derived.BigQuiet
namespace Go.Proofs.YtnnnihjagjfkdaaGreatDoor
open Go.ChangeShapes Go.WideShapes Go.ChangeAt Go.RowKit

/-- A callee that leaves the world alone, met in a region that draws its order. -/
theorem quiet_eq {P : Program} {f : FuncId} {args : Array Value} {w : World} {n : Nat} {v : Value}
    (h : Calls P f args (w.drewN n) fun e w' => e = .returned v ∧ w.drewN n = w') : Calls P f args (w.drewN n) fun e w'' => e = .returned v ∧ ∃ m, w'' = w.drewN m :=
  h.mono fun _ _ ⟨he, hm⟩ => ⟨he, n, hm.symm⟩
/-- Draws turn no block. -/
theorem bdrewN {B : Nat} {a w : World} (h : Below B a w) (n : Nat) : Below B a (w.drewN n) := ⟨h.os, h.tape, h.output, h.size, h.block⟩

/-- Two steps, each of which leaves what was there alone. -/
theorem bthen {w w1 w2 : World} (h1 : Below w.heap.size w w1) (h2 : Below w1.heap.size w1 w2) : Below w.heap.size w w2 := h1.trans (h2.mono h1.size)
theorem balloc {w w1 : World} (h1 : Below w.heap.size w w1) (o : Obj) : Below w.heap.size w (w1.alloc o) := h1.alloc h1.size o
theorem balloc_lt (w : World) (o : Obj) {w2 : World} (h : Below (w.alloc o).heap.size (w.alloc o) w2) : Below w.heap.size w w2 := bthen ((Below.refl _ _).alloc (Nat.le_refl _) o) h
theorem ret_int {k : IntKind} {a b : Int} (h : a = b) : Ending.returned (.int k a) = .returned (.int k b) := by rw [h]

/-- Cell j of element i of a slice at 'oa' with elements of k cells. -/
def elemCell (w : World) (k : Nat) (oa : Option Addr) (i j : Nat) (v : Value) : Prop :=
  ∃ b off, oa = some ⟨b, off, none⟩ ∧ w.cell? ⟨b, off + (i * k + j), none⟩ = some v

/-- The slice at 'oa' (elements of k cells) reads as xs: 'enc' writes an element's cells. -/
def Flat {α : Type} (w : World) (k : Nat) (enc : α → List Value) (oa : Option Addr) (xs : List α) : Prop :=
  ∀ i (h : i < xs.length) j, j < k → ∃ v, (enc xs[i])[j]? = some v ∧ elemCell w k oa i j v

theorem cell?_lt {w : World} {a : Addr} {v : Value} (h : w.cell? a = some v) : a.block < w.heap.size := by
  unfold World.cell? at h
  cases e : w.heap[a.block]? with
  | none => rw [e] at h; cases h
  | some o =>
    rw [Array.getElem?_eq_some_iff] at e
    exact e.1

theorem Flat.below {α : Type} {w w' : World} {k : Nat} {enc : α → List Value} {oa : Option Addr} {xs : List α} (h : Flat w k enc oa xs) (hb : Below w.heap.size w w') : Flat w' k enc oa xs := by
  intro i hi j hj
  obtain ⟨v, hv, b, off, e, hc⟩ := h i hi j hj
  refine ⟨v, hv, b, off, e, ?_⟩
  rw [hb.cell (p := ⟨b, off + (i * k + j), none⟩) (cell?_lt (a := ⟨b, off + (i * k + j), none⟩) hc)]
  exact hc

def encInt (x : Int) : List Value := [.int .i64 x]
def encInt2 (x : Int × Int) : List Value := [.int .i64 x.1, .int .i64 x.2]

/-- Element i of a slice of ints: its cell. -/
theorem Flat.int {w : World} {oa : Option Addr} {xs : List Int} (h : Flat w 1 encInt oa xs) {i : Nat} (hi : i < xs.length) :
    ∃ b off, oa = some ⟨b, off, none⟩ ∧ w.cell? ⟨b, off + i, none⟩ = some (.int .i64 xs[i]) := by
  obtain ⟨v, hv, b, off, e, hc⟩ := h i hi 0 (by omega)
  simp only [encInt, List.getElem?_cons_zero, Option.some.injEq] at hv
  refine ⟨b, off, e, ?_⟩
  rw [hv]
  simpa using hc

/-- Element i of a slice of structs of two ints: its cells. -/
theorem Flat.int2 {w : World} {oa : Option Addr} {xs : List (Int × Int)} (h : Flat w 2 encInt2 oa xs) {i : Nat} (hi : i < xs.length) :
    ∃ b off, oa = some ⟨b, off, none⟩ ∧ w.cell? ⟨b, off + i * 2, none⟩ = some (.int .i64 xs[i].1) ∧ w.cell? ⟨b, off + i * 2 + 1, none⟩ = some (.int .i64 xs[i].2) := by
  obtain ⟨v, hv, b, off, e, hc⟩ := h i hi 0 (by omega)
  obtain ⟨v', hv', b', off', e', hc'⟩ := h i hi 1 (by omega)
  obtain ⟨rfl, rfl⟩ : b = b' ∧ off = off' := by
    rw [e] at e'
    simpa using e'
  simp only [encInt2, List.getElem?_cons_zero, Option.some.injEq] at hv
  simp only [encInt2, List.getElem?_cons_succ, List.getElem?_cons_zero, Option.some.injEq] at hv'
  refine ⟨b, off, e, ?_, ?_⟩
  · rw [hv]; simpa using hc
  · rw [hv']; simpa [Nat.add_assoc] using hc'

/-! ### Slices that the call itself owns -/
/-- The slice value v owns, from block 'base' on, a row that reads as xs. -/
def Own {α : Type} (w : World) (base : Nat) (e : TypeId) (k : Nat) (enc : α → List Value) (v : Value) (xs : List α) : Prop :=
  w.ownsRow base e k v xs.length (xs.flatMap enc)

/-- What is asked of an element's type. -/
def ElemType (P : Program) (e : TypeId) (z : Value) (size bytes : Nat) : Prop :=
  ∃ i, P.info? e = some i ∧ i.zero = some z ∧ i.size = size ∧ i.bytes = bytes ∧ z.cells.size = size ∧ 0 < size

theorem ElemType.mk {P : Program} {e : TypeId} {z : Value} {size bytes : Nat} (h : (P.info? e).map (fun i => (i.zero, i.size, i.bytes)) = some (some z, size, bytes)) (hz : z.cells.size = size) (h0 : 0 < size) : ElemType P e z size bytes := by
  obtain ⟨i, a, b, c, d⟩ := info_parts h
  exact ⟨i, a, b, c, d, hz, h0⟩

theorem Own.nil {α : Type} (w : World) (base : Nat) (e : TypeId) (k : Nat) (enc : α → List Value) : Own w base e k enc (.slice none 0 0) [] := World.ownsRow_nil w base e k
theorem Own.alloc {α : Type} {w : World} {base : Nat} {e : TypeId} {k : Nat} {enc : α → List Value} {v : Value} {xs : List α} (h : Own w base e k enc v xs) (o : Obj) : Own (w.alloc o) base e k enc v xs := World.ownsRow.alloc h o
theorem Own.drewN {α : Type} {w : World} {base : Nat} {e : TypeId} {k : Nat} {enc : α → List Value} {v : Value} {xs : List α} (h : Own w base e k enc v xs) (n : Nat) : Own (w.drewN n) base e k enc v xs := h
theorem Own.drew {α : Type} {w : World} {base : Nat} {e : TypeId} {k : Nat} {enc : α → List Value} {v : Value} {xs : List α} (h : Own w base e k enc v xs) : Own w.drew base e k enc v xs := h
/-- An owned row stays what it is where below the heap's end nothing has turned. -/
theorem Own.below {α : Type} {w w' : World} {base : Nat} {e : TypeId} {k : Nat} {enc : α → List Value} {v : Value} {xs : List α} (h : Own w base e k enc v xs) (hb : Below w.heap.size w w') : Own w' base e k enc v xs := by
  refine ⟨h.1, ?_⟩
  rcases h.2 with hn | ⟨g, cap, cur, rfl, hbg, hg, rest⟩
  · exact .inl hn
  · refine .inr ⟨g, cap, cur, rfl, hbg, ?_, rest⟩
    rw [hb.block g (Array.getElem?_eq_some_iff.1 hg).1]
    exact hg
theorem Own.grown {α : Type} {w w0 w' : World} {base : Nat} {e : TypeId} {k : Nat} {enc : α → List Value} {v : Value} {xs : List α} (h : Own w base e k enc v xs) (hb : Below w0.heap.size w0 w) (hB : w0.heap.size ≤ base) (hg : w.grownBy w' v.ownBlock) : Below w0.heap.size w0 w' :=
  hb.grown hg hb.size fun j hj => by have := h.lt j hj; omega
theorem flatMap_get {α : Type} {k : Nat} {enc : α → List Value} (hl : ∀ x, (enc x).length = k) : ∀ (xs : List α) (i : Nat) (h : i < xs.length) (j : Nat), j < k → (xs.flatMap enc)[i * k + j]? = (enc xs[i])[j]?
  | x :: xs, 0, _, j, hj => by
    rw [List.flatMap_cons, List.getElem?_append_left (by rw [hl]; omega)]
    simp
  | x :: xs, i + 1, h, j, hj => by
    have e : (i + 1) * k + j = k + (i * k + j) := by rw [Nat.add_mul]; omega
    rw [List.flatMap_cons, e, List.getElem?_append_right (by rw [hl]; omega), hl, Nat.add_sub_cancel_left]
    have h' : i < xs.length := by simpa using h
    rw [flatMap_get hl xs i h' j hj]
    simp
/-- What is owned reads. -/
theorem Own.flat {α : Type} {w : World} {base : Nat} {e : TypeId} {k : Nat} {enc : α → List Value} {v : Value} {xs : List α} (h : Own w base e k enc v xs) (hl : ∀ x, (enc x).length = k) :
    ∃ oa cap, v = .slice oa xs.length cap ∧ xs.length ≤ maxLen ∧ Flat w k enc oa xs := by
  rcases h.2 with ⟨rfl, hn⟩ | ⟨g, cap, cur, rfl, hbg, hg, hn, hm, hs, ht⟩
  · have : xs = [] := List.eq_nil_of_length_eq_zero hn
    subst this
    exact ⟨none, 0, rfl, by simp, fun i hi => by simp at hi⟩
  · refine ⟨_, cap, rfl, by omega, fun i hi j hj => ?_⟩
    have hlt : i * k + j < xs.length * k := by
      have : (i + 1) * k ≤ xs.length * k := Nat.mul_le_mul_right k hi
      rw [Nat.add_mul] at this
      omega
    have h1 := flatMap_get hl xs i hi j hj
    rw [← ht, List.getElem?_take, if_pos hlt] at h1
    have hj' : j < (enc xs[i]).length := by rw [hl]; exact hj
    refine ⟨(enc xs[i])[j], List.getElem?_eq_getElem hj', g, 0, rfl, ?_⟩
    rw [Nat.zero_add, cell_of_row w g (i * k + j) cur e (0, 0) hg]
    rw [← List.getElem?_eq_getElem hj', ← h1]
    simp

section
variable {P : Program} {w : World} {ops : Array Oper} {rest : List Oper} {o : Oper} {a : Act} {Q : Exit → Act → World → Prop}
/-- 'append(s, y)', s the call's own: the walk's step at one element. -/
theorem wpList_app1 {α : Type} (hgd : o.guard = none) (s x : Operand) (t : TypeId)
    (ho : o.op = .call { callee := .builtin .append, args := #[s, x], argTypes := #[t, t] })
    {e : TypeId} {z : Value} {size bytes : Nat} (hE : ElemType P e z size bytes) (ht : P.underlying t = some (.slice e))
    (base : Nat) (v : Value) (xs : List α) (enc : α → List Value) (hs : a.eval s = v) (hown : Own w base e size enc v xs) (y : α)
    (ad : Addr) (c : Nat) (hx : a.eval x = .slice (some ad) 1 c) (hl : (enc y).length = size) (hnews : ∀ j u, (enc y)[j]? = some u → w.cell? (ad.add j) = some u) (h1 : ∀ u ∈ enc y, u.oneCell' = true)
    (hbytes : (xs.length + 1) * bytes ≤ 140737488355328) (h63 : xs.length + 1 ≤ maxLen) (hbase : base ≤ w.heap.size)
    (h : ∀ v' w', Own w' base e size enc v' (xs ++ [y]) → w.grownBy w' v.ownBlock → wpList P ops Q rest (a.put o.dst v') w') : wpList P ops Q (o :: rest) a w := by
  obtain ⟨i, hi, hz, hsz, hby, hzs, h0⟩ := hE
  refine wpList_append_own w hgd s x t ho base e i z size bytes ht hi hz hsz hby hzs h0 v xs.length (xs.flatMap enc) hs hown ad 1 c (enc y) hx (by rw [hl, Nat.one_mul]) hnews h1 h63 hbytes hbase ?_
  intro v' w' hown' hg _
  refine h v' w' ?_ hg
  unfold Own
  rw [List.length_append, List.flatMap_append]
  simpa using hown'
end
/-- A slice literal of one element: its new block reads. -/
theorem Flat.lit1 {α : Type} (w : World) (k : Nat) (enc : α → List Value) (x : α) (e : TypeId) (hl : (enc x).length = k) : Flat (w.alloc (.cells (enc x).toArray e)) k enc (some ⟨w.heap.size, 0, none⟩) [x] := by
  intro i hi j hj
  have h0 : i = 0 := by simp at hi; omega
  subst h0
  have hj' : j < (enc x).length := by rw [hl]; exact hj
  refine ⟨(enc x)[j], List.getElem?_eq_getElem hj', w.heap.size, 0, rfl, ?_⟩
  rw [Nat.zero_add, cell_of_row _ w.heap.size (0 * k + j) _ e (0, 0) (heap_alloc_new w _)]
  simp [hj']
end Go.Proofs.YtnnnihjagjfkdaaGreatDoor
