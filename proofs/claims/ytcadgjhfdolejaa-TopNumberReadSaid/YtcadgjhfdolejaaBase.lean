/-
  From a call that returns true and leaves what was there alone to the post of a law's row. Own text; general over the program. Plain facts on whole numbers: remainders, products. No program in sight. How slices of flat elements read in memory (own words), and what a larger world keeps of that. General over the program. From the form's reading of an argument to own readings. General over the program. Slices of slices; an append of a whole slice. General over the program. The step of an append in a region that draws its order. General over the program. More on readings: slice literals, cut slices. General over the program. Arrays of one-cell elements that the call itself made: make, read, write. General over the program. Tables of one-cell elements as functions of the index. General over the program. A made array as an equation of the run (for regions that draw their order). General over the program. Own text.
-/
import Derived.WalkKit
import Derived.ProofKit
import Derived.OpenShut
import Derived.Lib.Hide
import Derived.Deep.QuietTactic
import Derived.BigQuiet
import Derived.Deep.Slices
import Derived.Deep.Strs
import Derived.Laws.AppendOwnNone
import Derived.Lib.AppendZeros
import Derived.Deep.RegionHeld3
import Derived.Deep.AppendLies
import Derived.StillTactics
import Derived.OwnWalk
import Derived.Laws.Pointers
namespace Go.Proofs.Ytcadgjhfdolejaa
open Go.ChangeShapes Go.WideShapes Go.ChangeAt Go.RowKit

section
variable {H : Type} {enc : TypeId × Value → H} {P : Program}

/-- Arguments read behind the call as they read before, where below the old heap's size nothing has turned. -/
theorem trodAll_below (hl : laidOutB P = true) {W W' : World} (hb : Below W.heap.size W W') :
    ∀ {ts : List TypeId} {vs : List Value} {ds : List (DataW H)} {ps : List MemPlace}, (∀ t ∈ ts, P.readableRec t = true ∧ t < P.types.size) →
      DataW.TrodAll enc P W 0 (fun _ => true) true ts vs ds ps → (∀ x ∈ ps, x.block < W.heap.size) →
      DataW.TrodAll enc P W' 0 (fun b => decide (b < W.heap.size)) true ts vs ds ps
  | [], _, _, _, _, h, _ => by
    obtain ⟨rfl, rfl, rfl⟩ := trodAll_nil h
    rfl
  | t :: ts, _, _, _, ht, h, hlt => by
    obtain ⟨v, vs1, d, ds1, p, q, rfl, rfl, rfl, h1, h2⟩ := trodAll_cons h
    have h0 := ht t (by simp)
    exact ⟨p, q, Below.trod hl h0.1 h0.2 h1 hb (fun x hx => hlt x (by simp [hx])), trodAll_below hl hb (fun t' ht' => ht t' (by simp [ht'])) h2 (fun x hx => hlt x (by simp [hx])), rfl⟩

/-- The post of a law's row: it returned true, and what was there is as it was. -/
theorem post_law {f : Func} {s : ChangeSpec} {tb : TypeId} {apart : Bool} {W W' : World} {args : Array Value} {ds gs : List (DataW H)} {before : List MemPlace}
    (hl : laidOutB P = true) (hp : ∀ t ∈ f.params.toList, P.readableRec t = true ∧ t < P.types.size) (hr : f.resultTypes = #[tb]) (htb : P.underlying tb = some .bool)
    (hv : s.vars = []) (hW : DataW.Whole enc P f.params.toList s.vars apart W args.toList ds gs before)
    (hfn : (s.fn H (ds ++ gs)).results = [.lit (.bool true)]) (hfa : (s.fn H (ds ++ gs)).args = ds) (hfv : (s.fn H (ds ++ gs)).vars = [])
    (hb : Below W.heap.size W W') : s.post enc P f apart true false false W args (.bool true) W' := by
  have hlt : ∀ x ∈ before, x.block < W.heap.size := fun x hx => hW.lt x hx
  have hW0 := hW
  obtain ⟨p, q, hA, hV, rfl, _, _⟩ := hW
  rw [hv] at hV
  obtain ⟨rfl, rfl⟩ := trodVars_none hV
  refine ⟨ds, [], p ++ [], [], p, [], hW0, ?_, ?_, ?_, ?_, ?_⟩
  · rw [hr, hfn]
    exact trodAll_mk1 (shut_bool htb true)
  · rw [hfa]
    exact trodAll_below hl hb hp hA (fun x hx => hlt x (by simp [hx]))
  · rw [hfv, hv]
    rfl
  · exact hb.frame _
  · intro h; cases h
end
end Go.Proofs.Ytcadgjhfdolejaa
namespace Go.Proofs.Ytcadgjhfdolejaa
theorem tmod_bd (x n : Int) (hn : 0 < n) : -n < x.tmod n ∧ x.tmod n < n := by
  constructor
  · have := Int.tmod_eq_emod (a := x) (b := n)
    have h1 := Int.emod_nonneg x (b := n) (by omega)
    have h2 := Int.emod_lt_of_pos x hn
    rw [this]; split <;> omega
  · exact Int.tmod_lt_of_pos _ hn
def wi (x lo hi : Int) : Int := lo + x.tmod (hi - lo + 1) % (hi - lo + 1)
theorem wi_bd (x lo hi : Int) (h : lo ≤ hi) : lo ≤ wi x lo hi ∧ wi x lo hi ≤ hi := by
  unfold wi
  have h1 := Int.emod_nonneg (x.tmod (hi - lo + 1)) (b := (hi - lo + 1)) (by omega)
  have h2 := Int.emod_lt_of_pos (x.tmod (hi - lo + 1)) (b := (hi - lo + 1)) (by omega)
  omega
theorem mul_bd (a b A B : Int) (h0 : 0 ≤ a) (h1 : a ≤ A) (h2 : 0 ≤ b) (h3 : b ≤ B) : 0 ≤ a * b ∧ a * b ≤ A * B :=
  ⟨Int.mul_nonneg h0 h2, Int.mul_le_mul h1 h3 h2 (by omega)⟩
def inB (x lo hi : Int) : Bool := decide (lo ≤ x ∧ x ≤ hi)
theorem inB_yes {x lo hi : Int} (h : lo ≤ x) (h2 : x ≤ hi) : inB x lo hi = true := decide_eq_true ⟨h, h2⟩
theorem inB_no {x lo hi : Int} (h : ¬ (lo ≤ x ∧ x ≤ hi)) : inB x lo hi = false := decide_eq_false h
theorem inB_true {x lo hi : Int} (h : inB x lo hi = true) : lo ≤ x ∧ x ≤ hi := of_decide_eq_true h
theorem inB_false {x lo hi : Int} (h : inB x lo hi = false) : ¬ (lo ≤ x ∧ x ≤ hi) := of_decide_eq_false h
/-- The first k elements all pass. -/
def AllTo {α : Type} (p : α → Bool) (xs : List α) (k : Nat) : Prop := ∀ j (h : j < xs.length), j < k → p xs[j] = true
theorem AllTo.zero {α : Type} (p : α → Bool) (xs : List α) : AllTo p xs 0 := fun j _ hj => by omega
theorem AllTo.succ {α : Type} {p : α → Bool} {xs : List α} {k : Nat} (h : AllTo p xs k) (hk : k < xs.length) (hp : p xs[k] = true) : AllTo p xs (k + 1) := by
  intro j hj hj2
  by_cases e : j = k
  · subst e; exact hp
  · exact h j hj (by omega)
theorem AllTo.all {α : Type} {p : α → Bool} {xs : List α} {k : Nat} (h : AllTo p xs k) (hk : xs.length ≤ k) : xs.all p = true := by
  rw [List.all_eq_true]
  intro x hx
  obtain ⟨i, hi, rfl⟩ := List.mem_iff_getElem.1 hx
  exact h i hi (by omega)
theorem all_no {α : Type} {p : α → Bool} {xs : List α} {k : Nat} (hk : k < xs.length) (hp : p xs[k] = false) : xs.all p = false := by
  rw [List.all_eq_false]
  exact ⟨xs[k], List.getElem_mem hk, by simp [hp]⟩
/-- How many sheets are certainly good after a step. -/
def afterV (s p x : Int) : Int := if x ≤ s then 0 else (x - s) - ((x - s) * p + 1000 - 1) / 1000
theorem after_bd (s p x : Int) (h0 : 0 ≤ s) (h2 : 0 ≤ p) (h3 : p ≤ 999) (h4 : 0 ≤ x) : 0 ≤ afterV s p x ∧ afterV s p x ≤ x := by
  unfold afterV
  split
  · omega
  · have a1 : 0 ≤ (x - s) * p := Int.mul_nonneg (by omega) h2
    have a2 : (x - s) * p ≤ (x - s) * 999 := Int.mul_le_mul_of_nonneg_left h3 (by omega)
    generalize (x - s) * p = q at *
    omega
theorem foldl_take_succ {α β : Type} (f : β → α → β) (a : β) (xs : List α) (k : Nat) (h : k < xs.length) : (xs.take (k + 1)).foldl f a = f ((xs.take k).foldl f a) xs[k] := by
  rw [List.take_succ_eq_append_getElem h, List.foldl_append]
  rfl
def stepOk (x : Int × Int) : Bool := decide (0 ≤ x.1 ∧ x.1 ≤ 1073741824 ∧ 0 ≤ x.2 ∧ x.2 < 1000)
def chk (xs : List (Int × Int)) : Int := if 16 < xs.length then 2 else if xs.all stepOk then 0 else 3
theorem chk_zero {xs : List (Int × Int)} (h : chk xs = 0) : xs.length ≤ 16 ∧ ∀ x ∈ xs, 0 ≤ x.1 ∧ x.1 ≤ 1073741824 ∧ 0 ≤ x.2 ∧ x.2 ≤ 999 := by
  unfold chk at h
  split at h
  · omega
  · split at h
    · rename_i h1 h2
      refine ⟨by omega, fun x hx => ?_⟩
      have := of_decide_eq_true (List.all_eq_true.1 h2 x hx)
      omega
    · omega
theorem chk_range (xs : List (Int × Int)) : 0 ≤ chk xs ∧ chk xs ≤ 3 := by
  unfold chk
  split
  · omega
  · split <;> omega
/-- How many sheets are certainly good after all steps. -/
def yieldV (xs : List (Int × Int)) (n : Int) : Int := xs.foldl (fun n s => afterV s.1 s.2 n) n
theorem yield_bd {xs : List (Int × Int)} (hx : ∀ x ∈ xs, 0 ≤ x.1 ∧ x.1 ≤ 1073741824 ∧ 0 ≤ x.2 ∧ x.2 ≤ 999) {n : Int} (h : 0 ≤ n) : 0 ≤ yieldV xs n ∧ yieldV xs n ≤ n := by
  unfold yieldV
  induction xs generalizing n with
  | nil => exact ⟨h, Int.le_refl _⟩
  | cons x xs ih =>
    have h1 := hx x (by simp)
    have h2 := after_bd x.1 x.2 n h1.1 h1.2.2.1 h1.2.2.2 h
    have h3 := ih (fun y hy => hx y (by simp [hy])) h2.1
    rw [List.foldl_cons]
    omega
theorem yield_step {xs : List (Int × Int)} {k : Nat} (h : k < xs.length) (n : Int) : yieldV (xs.take (k + 1)) n = afterV xs[k].1 xs[k].2 (yieldV (xs.take k) n) := foldl_take_succ _ _ _ _ h
/-- How many sheets each step may waste. -/
def wasteV : List (Int × Int) → Int → List Int
  | [], _ => []
  | s :: r, n => (n - afterV s.1 s.2 n) :: wasteV r (afterV s.1 s.2 n)
theorem wasteV_append (xs ys : List (Int × Int)) (n : Int) : wasteV (xs ++ ys) n = wasteV xs n ++ wasteV ys (yieldV xs n) := by
  induction xs generalizing n with
  | nil => rfl
  | cons x xs ih => simp only [List.cons_append, wasteV, ih]; rfl
theorem wasteV_length (xs : List (Int × Int)) (n : Int) : (wasteV xs n).length = xs.length := by
  induction xs generalizing n with
  | nil => rfl
  | cons x xs ih => simp [wasteV, ih]
theorem waste_step {xs : List (Int × Int)} {k : Nat} (h : k < xs.length) (n : Int) :
    wasteV (xs.take (k + 1)) n = wasteV (xs.take k) n ++ [yieldV (xs.take k) n - afterV xs[k].1 xs[k].2 (yieldV (xs.take k) n)] := by
  rw [List.take_succ_eq_append_getElem h, wasteV_append]
  rfl
theorem ceil_div {a b : Int} (hb : 1 ≤ b) : (a + b - 1) / b = if a / b * b < a then a / b + 1 else a / b := by
  have h1 := Int.mul_ediv_add_emod a b
  have h2 := Int.emod_lt_of_pos a (show 0 < b by omega)
  have h3 := Int.emod_nonneg a (show b ≠ 0 by omega)
  rw [Int.mul_comm] at h1
  generalize hq : a / b = q at *
  generalize hr : a % b = r at *
  have ha : a = q * b + r := h1.symm
  split
  · rename_i h
    have e : a + b - 1 = (r - 1) + (q + 1) * b := by rw [ha, Int.add_mul]; omega
    rw [e, Int.add_mul_ediv_right _ _ (by omega), Int.ediv_eq_zero_of_lt (by omega) (by omega)]
    omega
  · rename_i h
    have e : a + b - 1 = (b - 1) + q * b := by omega
    rw [e, Int.add_mul_ediv_right _ _ (by omega), Int.ediv_eq_zero_of_lt (by omega) (by omega)]
    omega
theorem ceil_bd {a b : Int} (h0 : 0 ≤ a) (hb : 1 ≤ b) : 0 ≤ a / b ∧ a / b ≤ a ∧ 0 ≤ a / b * b ∧ a / b * b ≤ a := by
  have h1 := Int.mul_ediv_add_emod a b
  have h3 := Int.emod_nonneg a (show b ≠ 0 by omega)
  rw [Int.mul_comm] at h1
  have h4 : 0 ≤ a / b := Int.ediv_nonneg h0 (by omega)
  have h5 : a / b * 1 ≤ a / b * b := Int.mul_le_mul_of_nonneg_left hb h4
  have h6 : 0 ≤ a / b * b := Int.mul_nonneg h4 (by omega)
  omega
def sameB {α : Type} [DecidableEq α] (xs ys : List α) : Bool := decide (xs = ys)
theorem sameB_self {α : Type} [DecidableEq α] (xs : List α) : sameB xs xs = true := decide_eq_true rfl
theorem sameB_len {α : Type} [DecidableEq α] {xs ys : List α} (h : xs.length ≠ ys.length) : sameB xs ys = false := decide_eq_false (fun e => h (by rw [e]))
theorem sameB_at {α : Type} [DecidableEq α] {xs ys : List α} {k : Nat} (h1 : k < xs.length) (h2 : k < ys.length) (h : xs[k] ≠ ys[k]) : sameB xs ys = false := decide_eq_false (fun e => h (by subst e; rfl))
/-- The first k elements of two lists are the same. -/
def SameTo {α : Type} (xs ys : List α) (k : Nat) : Prop := ∀ j (h1 : j < xs.length) (h2 : j < ys.length), j < k → xs[j] = ys[j]
theorem SameTo.zero {α : Type} (xs ys : List α) : SameTo xs ys 0 := fun j _ _ hj => by omega
theorem SameTo.succ {α : Type} {xs ys : List α} {k : Nat} (h : SameTo xs ys k) (hk : k < xs.length) (hk2 : k < ys.length) (hp : xs[k] = ys[k]) : SameTo xs ys (k + 1) := by
  intro j h1 h2 hj
  by_cases e : j = k
  · subst e; exact hp
  · exact h j h1 h2 (by omega)
theorem SameTo.all {α : Type} [DecidableEq α] {xs ys : List α} {k : Nat} (h : SameTo xs ys k) (hl : xs.length = ys.length) (hk : xs.length ≤ k) : sameB xs ys = true :=
  decide_eq_true (List.ext_getElem hl fun j h1 h2 => h j h1 h2 (by omega))
end Go.Proofs.Ytcadgjhfdolejaa
namespace Go.Proofs.Ytcadgjhfdolejaa
open Go.ChangeShapes Go.WideShapes Go.ChangeAt Go.RowKit

/-- A callee that leaves the world alone, met in a region that draws its order. -/
theorem quiet_eq {P : Program} {f : FuncId} {args : Array Value} {w : World} {n : Nat} {v : Value}
    (h : Calls P f args (w.drewN n) fun e w' => e = .returned v ∧ w.drewN n = w') : Calls P f args (w.drewN n) fun e w'' => e = .returned v ∧ ∃ m, w'' = w.drewN m :=
  h.mono fun _ _ ⟨he, hm⟩ => ⟨he, n, hm.symm⟩
/-- Draws turn no block. -/
theorem bdrewN {B : Nat} {a w : World} (h : Below B a w) (n : Nat) : Below B a (w.drewN n) := ⟨h.os, h.tape, h.output, h.size, h.block⟩

/-- Two steps, each of which leaves what was there alone. -/
theorem bthen {w w1 w2 : World} (h1 : Below w.heap.size w w1) (h2 : Below w1.heap.size w1 w2) : Below w.heap.size w w2 := h1.trans (h2.mono h1.size)
theorem balloc {w w1 : World} (h1 : Below w.heap.size w w1) (o : Obj) : Below w.heap.size w (w1.alloc o) := h1.alloc h1.size o
theorem balloc_lt (w : World) (o : Obj) {w2 : World} (h : Below (w.alloc o).heap.size (w.alloc o) w2) : Below w.heap.size w w2 := bthen ((Below.refl _ _).alloc (Nat.le_refl _) o) h
theorem ret_int {k : IntKind} {a b : Int} (h : a = b) : Ending.returned (.int k a) = .returned (.int k b) := by rw [h]

/-- Cell j of element i of a slice at 'oa' with elements of k cells. -/
def elemCell (w : World) (k : Nat) (oa : Option Addr) (i j : Nat) (v : Value) : Prop :=
  ∃ b off, oa = some ⟨b, off, none⟩ ∧ w.cell? ⟨b, off + (i * k + j), none⟩ = some v

/-- The slice at 'oa' (elements of k cells) reads as xs: 'enc' writes an element's cells. -/
def Flat {α : Type} (w : World) (k : Nat) (enc : α → List Value) (oa : Option Addr) (xs : List α) : Prop :=
  ∀ i (h : i < xs.length) j, j < k → ∃ v, (enc xs[i])[j]? = some v ∧ elemCell w k oa i j v

theorem cell?_lt {w : World} {a : Addr} {v : Value} (h : w.cell? a = some v) : a.block < w.heap.size := by
  unfold World.cell? at h
  cases e : w.heap[a.block]? with
  | none => rw [e] at h; cases h
  | some o =>
    rw [Array.getElem?_eq_some_iff] at e
    exact e.1

theorem Flat.below {α : Type} {w w' : World} {k : Nat} {enc : α → List Value} {oa : Option Addr} {xs : List α} (h : Flat w k enc oa xs) (hb : Below w.heap.size w w') : Flat w' k enc oa xs := by
  intro i hi j hj
  obtain ⟨v, hv, b, off, e, hc⟩ := h i hi j hj
  refine ⟨v, hv, b, off, e, ?_⟩
  rw [hb.cell (p := ⟨b, off + (i * k + j), none⟩) (cell?_lt (a := ⟨b, off + (i * k + j), none⟩) hc)]
  exact hc

def encInt (x : Int) : List Value := [.int .i64 x]
def encInt2 (x : Int × Int) : List Value := [.int .i64 x.1, .int .i64 x.2]

/-- Element i of a slice of ints: its cell. -/
theorem Flat.int {w : World} {oa : Option Addr} {xs : List Int} (h : Flat w 1 encInt oa xs) {i : Nat} (hi : i < xs.length) :
    ∃ b off, oa = some ⟨b, off, none⟩ ∧ w.cell? ⟨b, off + i, none⟩ = some (.int .i64 xs[i]) := by
  obtain ⟨v, hv, b, off, e, hc⟩ := h i hi 0 (by omega)
  simp only [encInt, List.getElem?_cons_zero, Option.some.injEq] at hv
  refine ⟨b, off, e, ?_⟩
  rw [hv]
  simpa using hc

/-- Element i of a slice of structs of two ints: its cells. -/
theorem Flat.int2 {w : World} {oa : Option Addr} {xs : List (Int × Int)} (h : Flat w 2 encInt2 oa xs) {i : Nat} (hi : i < xs.length) :
    ∃ b off, oa = some ⟨b, off, none⟩ ∧ w.cell? ⟨b, off + i * 2, none⟩ = some (.int .i64 xs[i].1) ∧ w.cell? ⟨b, off + i * 2 + 1, none⟩ = some (.int .i64 xs[i].2) := by
  obtain ⟨v, hv, b, off, e, hc⟩ := h i hi 0 (by omega)
  obtain ⟨v', hv', b', off', e', hc'⟩ := h i hi 1 (by omega)
  obtain ⟨rfl, rfl⟩ : b = b' ∧ off = off' := by
    rw [e] at e'
    simpa using e'
  simp only [encInt2, List.getElem?_cons_zero, Option.some.injEq] at hv
  simp only [encInt2, List.getElem?_cons_succ, List.getElem?_cons_zero, Option.some.injEq] at hv'
  refine ⟨b, off, e, ?_, ?_⟩
  · rw [hv]; simpa using hc
  · rw [hv']; simpa [Nat.add_assoc] using hc'

/-! ### Slices that the call itself owns -/
/-- The slice value v owns, from block 'base' on, a row that reads as xs. -/
def Own {α : Type} (w : World) (base : Nat) (e : TypeId) (k : Nat) (enc : α → List Value) (v : Value) (xs : List α) : Prop :=
  w.ownsRow base e k v xs.length (xs.flatMap enc)

/-- What is asked of an element's type. -/
def ElemType (P : Program) (e : TypeId) (z : Value) (size bytes : Nat) : Prop :=
  ∃ i, P.info? e = some i ∧ i.zero = some z ∧ i.size = size ∧ i.bytes = bytes ∧ z.cells.size = size ∧ 0 < size

theorem ElemType.mk {P : Program} {e : TypeId} {z : Value} {size bytes : Nat} (h : (P.info? e).map (fun i => (i.zero, i.size, i.bytes)) = some (some z, size, bytes)) (hz : z.cells.size = size) (h0 : 0 < size) : ElemType P e z size bytes := by
  obtain ⟨i, a, b, c, d⟩ := info_parts h
  exact ⟨i, a, b, c, d, hz, h0⟩

theorem Own.nil {α : Type} (w : World) (base : Nat) (e : TypeId) (k : Nat) (enc : α → List Value) : Own w base e k enc (.slice none 0 0) [] := World.ownsRow_nil w base e k
theorem Own.alloc {α : Type} {w : World} {base : Nat} {e : TypeId} {k : Nat} {enc : α → List Value} {v : Value} {xs : List α} (h : Own w base e k enc v xs) (o : Obj) : Own (w.alloc o) base e k enc v xs := World.ownsRow.alloc h o
theorem Own.drewN {α : Type} {w : World} {base : Nat} {e : TypeId} {k : Nat} {enc : α → List Value} {v : Value} {xs : List α} (h : Own w base e k enc v xs) (n : Nat) : Own (w.drewN n) base e k enc v xs := h
theorem Own.drew {α : Type} {w : World} {base : Nat} {e : TypeId} {k : Nat} {enc : α → List Value} {v : Value} {xs : List α} (h : Own w base e k enc v xs) : Own w.drew base e k enc v xs := h
/-- An owned row stays what it is where below the heap's end nothing has turned. -/
theorem Own.below {α : Type} {w w' : World} {base : Nat} {e : TypeId} {k : Nat} {enc : α → List Value} {v : Value} {xs : List α} (h : Own w base e k enc v xs) (hb : Below w.heap.size w w') : Own w' base e k enc v xs := by
  refine ⟨h.1, ?_⟩
  rcases h.2 with hn | ⟨g, cap, cur, rfl, hbg, hg, rest⟩
  · exact .inl hn
  · refine .inr ⟨g, cap, cur, rfl, hbg, ?_, rest⟩
    rw [hb.block g (Array.getElem?_eq_some_iff.1 hg).1]
    exact hg
theorem Own.grown {α : Type} {w w0 w' : World} {base : Nat} {e : TypeId} {k : Nat} {enc : α → List Value} {v : Value} {xs : List α} (h : Own w base e k enc v xs) (hb : Below w0.heap.size w0 w) (hB : w0.heap.size ≤ base) (hg : w.grownBy w' v.ownBlock) : Below w0.heap.size w0 w' :=
  hb.grown hg hb.size fun j hj => by have := h.lt j hj; omega
theorem flatMap_get {α : Type} {k : Nat} {enc : α → List Value} (hl : ∀ x, (enc x).length = k) : ∀ (xs : List α) (i : Nat) (h : i < xs.length) (j : Nat), j < k → (xs.flatMap enc)[i * k + j]? = (enc xs[i])[j]?
  | x :: xs, 0, _, j, hj => by
    rw [List.flatMap_cons, List.getElem?_append_left (by rw [hl]; omega)]
    simp
  | x :: xs, i + 1, h, j, hj => by
    have e : (i + 1) * k + j = k + (i * k + j) := by rw [Nat.add_mul]; omega
    rw [List.flatMap_cons, e, List.getElem?_append_right (by rw [hl]; omega), hl, Nat.add_sub_cancel_left]
    have h' : i < xs.length := by simpa using h
    rw [flatMap_get hl xs i h' j hj]
    simp
/-- What is owned reads. -/
theorem Own.flat {α : Type} {w : World} {base : Nat} {e : TypeId} {k : Nat} {enc : α → List Value} {v : Value} {xs : List α} (h : Own w base e k enc v xs) (hl : ∀ x, (enc x).length = k) :
    ∃ oa cap, v = .slice oa xs.length cap ∧ xs.length ≤ maxLen ∧ Flat w k enc oa xs := by
  rcases h.2 with ⟨rfl, hn⟩ | ⟨g, cap, cur, rfl, hbg, hg, hn, hm, hs, ht⟩
  · have : xs = [] := List.eq_nil_of_length_eq_zero hn
    subst this
    exact ⟨none, 0, rfl, by simp, fun i hi => by simp at hi⟩
  · refine ⟨_, cap, rfl, by omega, fun i hi j hj => ?_⟩
    have hlt : i * k + j < xs.length * k := by
      have : (i + 1) * k ≤ xs.length * k := Nat.mul_le_mul_right k hi
      rw [Nat.add_mul] at this
      omega
    have h1 := flatMap_get hl xs i hi j hj
    rw [← ht, List.getElem?_take, if_pos hlt] at h1
    have hj' : j < (enc xs[i]).length := by rw [hl]; exact hj
    refine ⟨(enc xs[i])[j], List.getElem?_eq_getElem hj', g, 0, rfl, ?_⟩
    rw [Nat.zero_add, cell_of_row w g (i * k + j) cur e (0, 0) hg]
    rw [← List.getElem?_eq_getElem hj', ← h1]
    simp

section
variable {P : Program} {w : World} {ops : Array Oper} {rest : List Oper} {o : Oper} {a : Act} {Q : Exit → Act → World → Prop}
/-- 'append(s, y)', s the call's own: the walk's step at one element. -/
theorem wpList_app1 {α : Type} (hgd : o.guard = none) (s x : Operand) (t : TypeId)
    (ho : o.op = .call { callee := .builtin .append, args := #[s, x], argTypes := #[t, t] })
    {e : TypeId} {z : Value} {size bytes : Nat} (hE : ElemType P e z size bytes) (ht : P.underlying t = some (.slice e))
    (base : Nat) (v : Value) (xs : List α) (enc : α → List Value) (hs : a.eval s = v) (hown : Own w base e size enc v xs) (y : α)
    (ad : Addr) (c : Nat) (hx : a.eval x = .slice (some ad) 1 c) (hl : (enc y).length = size) (hnews : ∀ j u, (enc y)[j]? = some u → w.cell? (ad.add j) = some u) (h1 : ∀ u ∈ enc y, u.oneCell' = true)
    (hbytes : (xs.length + 1) * bytes ≤ 140737488355328) (h63 : xs.length + 1 ≤ maxLen) (hbase : base ≤ w.heap.size)
    (h : ∀ v' w', Own w' base e size enc v' (xs ++ [y]) → w.grownBy w' v.ownBlock → wpList P ops Q rest (a.put o.dst v') w') : wpList P ops Q (o :: rest) a w := by
  obtain ⟨i, hi, hz, hsz, hby, hzs, h0⟩ := hE
  refine wpList_append_own w hgd s x t ho base e i z size bytes ht hi hz hsz hby hzs h0 v xs.length (xs.flatMap enc) hs hown ad 1 c (enc y) hx (by rw [hl, Nat.one_mul]) hnews h1 h63 hbytes hbase ?_
  intro v' w' hown' hg _
  refine h v' w' ?_ hg
  unfold Own
  rw [List.length_append, List.flatMap_append]
  simpa using hown'
end
/-- A slice literal of one element: its new block reads. -/
theorem Flat.lit1 {α : Type} (w : World) (k : Nat) (enc : α → List Value) (x : α) (e : TypeId) (hl : (enc x).length = k) : Flat (w.alloc (.cells (enc x).toArray e)) k enc (some ⟨w.heap.size, 0, none⟩) [x] := by
  intro i hi j hj
  have h0 : i = 0 := by simp at hi; omega
  subst h0
  have hj' : j < (enc x).length := by rw [hl]; exact hj
  refine ⟨(enc x)[j], List.getElem?_eq_getElem hj', w.heap.size, 0, rfl, ?_⟩
  rw [Nat.zero_add, cell_of_row _ w.heap.size (0 * k + j) _ e (0, 0) (heap_alloc_new w _)]
  simp [hj']
end Go.Proofs.Ytcadgjhfdolejaa
namespace Go.Proofs.Ytcadgjhfdolejaa
open Go.ChangeShapes Go.WideShapes Go.ChangeAt Go.RowKit

/-- Whatever reads at type t has cells that R tells of. -/
def Opens {α : Type} (P : Program) (w : World) (t : TypeId) (R : List Value → α → Prop) : Prop :=
  ∀ (H : Type) (enc : TypeId × Value → H) (sp : Nat → Bool) (held : Bool) (fuel : Nat) (cs : List Value) (x : DataW H × List MemPlace), DataW.trod enc P w 0 sp held fuel t cs = some x → ∃ y, R cs y

def i64ok (n : Int) : Prop := -9223372036854775808 ≤ n ∧ n ≤ 9223372036854775807

theorem opens_int {P : Program} {w : World} {t : TypeId} (ht : P.underlying t = some (.int .i64)) : Opens P w t (fun cs n => cs = [.int .i64 n] ∧ i64ok n) := by
  intro H enc sp held fuel cs x h
  obtain ⟨n, rfl, _, hw⟩ := DataW.trod_int ht h
  exact ⟨n, rfl, bounds_i64 hw⟩
theorem opens_bool {P : Program} {w : World} {t : TypeId} (ht : P.underlying t = some .bool) : Opens P w t (fun cs b => cs = [.bool b]) := by
  intro H enc sp held fuel cs x h
  obtain ⟨n, rfl, _⟩ := DataW.trod_bool ht h
  exact ⟨n, rfl⟩

/-- The slice at 'oa' (elements of k cells) reads as xs, each element by R. -/
def SliceR {α : Type} (w : World) (k : Nat) (R : List Value → α → Prop) (oa : Option Addr) (xs : List α) : Prop :=
  ∀ i (h : i < xs.length), ∃ b off cs, oa = some ⟨b, off, none⟩ ∧ cs.length = k ∧ (∀ j v, cs[j]? = some v → w.cell? ⟨b, off + (i * k + j), none⟩ = some v) ∧ R cs xs[i]

theorem SliceR.flat {α : Type} {w : World} {k : Nat} {R : List Value → α → Prop} {enc : α → List Value} {oa : Option Addr} {xs : List α} (h : SliceR w k R oa xs) (he : ∀ cs x, R cs x → cs = enc x) : Flat w k enc oa xs := by
  intro i hi j hj
  obtain ⟨b, off, cs, e, hl, hc, hr⟩ := h i hi
  have := he _ _ hr
  subst this
  have hj' : j < (enc xs[i]).length := by omega
  exact ⟨(enc xs[i])[j], List.getElem?_eq_getElem hj', b, off, e, hc j _ (List.getElem?_eq_getElem hj')⟩

theorem SliceR.mem {α : Type} {w : World} {k : Nat} {R : List Value → α → Prop} {oa : Option Addr} {xs : List α} (h : SliceR w k R oa xs) : ∀ x ∈ xs, ∃ cs, R cs x := by
  intro x hx
  obtain ⟨i, hi, rfl⟩ := List.mem_iff_getElem.1 hx
  obtain ⟨b, off, cs, _, _, _, hr⟩ := h i hi
  exact ⟨cs, hr⟩

theorem choose_list {α : Type} {p : Nat → α → Prop} : ∀ (n : Nat), (∀ i, i < n → ∃ x, p i x) → ∃ xs : List α, xs.length = n ∧ ∀ i (h : i < xs.length), p i xs[i]
  | 0, _ => ⟨[], rfl, fun i h => by simp at h⟩
  | n + 1, h => by
    obtain ⟨xs, hl, hx⟩ := choose_list n (fun i hi => h i (by omega))
    obtain ⟨x, hp⟩ := h n (by omega)
    refine ⟨xs ++ [x], by simp [hl], fun i hi => ?_⟩
    by_cases e : i < xs.length
    · rw [List.getElem_append_left e]
      exact hx i e
    · have : i = xs.length := by simp at hi; omega
      subst this
      rw [List.getElem_append_right (by omega)]
      simpa [hl] using hp

theorem cell?_spot {w : World} {a : Addr} {v : Value} (h : w.cell? a = some v) : a.spot = none := by
  unfold World.cell? at h
  cases e : w.heap[a.block]? with
  | none => rw [e] at h; cases h
  | some o =>
    rw [e] at h
    cases o <;> simp at h
    cases hs : a.spot with
    | none => rfl
    | some s => rw [hs] at h; simp at h

theorem opens_slice {α : Type} {P : Program} {w : World} {t e : TypeId} {R : List Value → α → Prop} (ht : P.underlying t = some (.slice e)) (hk : 0 < P.cellsOf e) (he : Opens P w e R) :
    Opens P w t (fun cs (xs : List α) => ∃ oa cap, cs = [.slice oa xs.length cap] ∧ xs.length ≤ cap ∧ cap ≤ maxLen ∧ SliceR w (P.cellsOf e) R oa xs) := by
  intro H enc sp held fuel cs x h
  rcases Deep.open_slice ht h with ⟨rfl, _⟩ | ⟨a, len, cap, m, n, D, Pl, rfl, _, hl, hm, hmm, _, hx⟩
  · exact ⟨[], none, 0, rfl, by simp, by simp, fun i hi => by simp at hi⟩
  · have hlm : len ≤ m := by rw [hmm]; split <;> omega
    obtain ⟨xs, hlen, hxs⟩ := choose_list (p := fun i y => ∃ cs, cs.length = P.cellsOf e ∧ (∀ j v, cs[j]? = some v → w.cell? ((a.add (i * P.cellsOf e)).add j) = some v) ∧ R cs y) len (fun i hi => by
      obtain ⟨cs', h1, h2⟩ := hx i (by omega)
      obtain ⟨y, hy⟩ := he _ _ _ _ _ _ _ h2
      obtain ⟨_, hlen, hc⟩ := World.cells?_some h1
      refine ⟨y, cs', hlen, fun j v hv => ?_, hy⟩
      rw [hc j (by have := (List.getElem?_eq_some_iff.1 hv).1; omega)]
      exact hv)
    refine ⟨xs, some a, cap, by rw [hlen], by omega, hm, fun i hi => ?_⟩
    obtain ⟨cs', h1, h2, h3⟩ := hxs i hi
    obtain ⟨cs0, g1, g2, _⟩ := hxs 0 (by omega)
    have h0 := g2 0 cs0[0] (List.getElem?_eq_getElem (by omega))
    have hs := cell?_spot h0
    obtain ⟨b, off, s⟩ := a
    have hs' : s = none := by simpa [Addr.add] using hs
    subst hs'
    refine ⟨b, off, cs', rfl, h1, fun j v hv => ?_, h3⟩
    have := h2 j v hv
    rw [Deep.add_add] at this
    have e1 : (⟨b, off, none⟩ : Addr).add (i * P.cellsOf e + j) = ⟨b, off + (i * P.cellsOf e + j), none⟩ := by
      unfold Addr.add
      split <;> simp_all
    rw [e1] at this
    exact this

/-- An argument of slice type, opened. -/
theorem open_sliceR {α H : Type} {enc : TypeId × Value → H} {P : Program} {w : World} {t e : TypeId} {R : List Value → α → Prop} {sp : Nat → Bool} {held : Bool} {r : Reach} {b0 : Nat} {v : Value} {d : DataW H} {ps : List MemPlace}
    (ht : P.underlying t = some (.slice e)) (hk : 0 < P.cellsOf e) (he : Opens P w e R) (hval : Value.okWide P w r b0 t v) (hd : DataW.Trod enc P w 0 sp held t v d ps) :
    ∃ (xs : List α) (oa : Option Addr) (cap : Nat), v = .slice oa xs.length cap ∧ xs.length ≤ cap ∧ cap ≤ maxLen ∧ SliceR w (P.cellsOf e) R oa xs := by
  obtain ⟨a0, len, c, rfl⟩ := okWide_slice ht hval
  obtain ⟨fuel, hf⟩ := hd
  obtain ⟨xs, oa, cap, hcs, h1, h2, h3⟩ := opens_slice ht hk he _ _ _ _ _ _ _ hf
  simp [Value.cells] at hcs
  obtain ⟨rfl, rfl, rfl⟩ := hcs
  exact ⟨xs, a0, c, rfl, h1, h2, h3⟩

/-- A struct of two ints. -/
theorem opens_int2 {P : Program} {w : World} {t : TypeId} {f0 f1 : Field} (ht : P.underlying t = some (.struct #[f0, f1])) (hc : P.cellsOf t = 2)
    (h0 : P.underlying f0.type = some (.int .i64)) (h1 : P.underlying f1.type = some (.int .i64)) (o0 : f0.offset = 0) (o1 : f1.offset = 1) (c0 : P.cellsOf f0.type = 1) (c1 : P.cellsOf f1.type = 1) :
    Opens P w t (fun cs (x : Int × Int) => cs = encInt2 x ∧ i64ok x.1 ∧ i64ok x.2) := by
  intro H enc sp held fuel cs x h
  obtain ⟨y0, y1, n, _, hl, e0, e1⟩ := trod_struct2 ht h
  rw [hc] at hl
  match cs, hl with
  | [a, b], _ =>
    rw [o0, c0] at e0
    rw [o1, c1] at e1
    obtain ⟨p, hp, _, wp⟩ := DataW.trod_int h0 e0
    obtain ⟨q, hq, _, wq⟩ := DataW.trod_int h1 e1
    simp at hp hq
    subst hp hq
    exact ⟨(p, q), rfl, bounds_i64 wp, bounds_i64 wq⟩
end Go.Proofs.Ytcadgjhfdolejaa
namespace Go.Proofs.Ytcadgjhfdolejaa
open Go.RowKit

/-- A slice value that reads as xs. -/
def IsSlice {α : Type} (w : World) (k : Nat) (enc : α → List Value) (v : Value) (xs : List α) : Prop :=
  ∃ oa cap, v = .slice oa xs.length cap ∧ (oa = none → cap = 0) ∧ xs.length ≤ maxLen ∧ Flat w k enc oa xs

theorem IsSlice.below {α : Type} {w w' : World} {k : Nat} {enc : α → List Value} {v : Value} {xs : List α} (h : IsSlice w k enc v xs) (hb : Below w.heap.size w w') : IsSlice w' k enc v xs := by
  obtain ⟨oa, cap, e, h0, h1, h2⟩ := h
  exact ⟨oa, cap, e, h0, h1, h2.below hb⟩

theorem Own.isSlice {α : Type} {w : World} {base : Nat} {e : TypeId} {k : Nat} {enc : α → List Value} {v : Value} {xs : List α} (h : Own w base e k enc v xs) (hl : ∀ x, (enc x).length = k) : IsSlice w k enc v xs := by
  obtain ⟨oa, cap, e1, h1, h2⟩ := h.flat hl
  refine ⟨oa, cap, e1, ?_, h1, h2⟩
  intro e0
  rcases h.2 with ⟨ev, _⟩ | ⟨g, cap', cur, ev, _⟩
  · rw [ev] at e1; simp at e1; omega
  · rw [ev, e0] at e1; simp at e1

/-- The slice at 'oa' holds, one cell an element, slices that read as rows. -/
def Rows1 {α : Type} (w : World) (k : Nat) (enc : α → List Value) (oa : Option Addr) (rows : List (List α)) : Prop :=
  ∀ i (h : i < rows.length), ∃ b off v, oa = some ⟨b, off, none⟩ ∧ w.cell? ⟨b, off + i, none⟩ = some v ∧ IsSlice w k enc v rows[i]

theorem Rows1.below {α : Type} {w w' : World} {k : Nat} {enc : α → List Value} {oa : Option Addr} {rows : List (List α)} (h : Rows1 w k enc oa rows) (hb : Below w.heap.size w w') : Rows1 w' k enc oa rows := by
  intro i hi
  obtain ⟨b, off, v, e, hc, hs⟩ := h i hi
  refine ⟨b, off, v, e, ?_, hs.below hb⟩
  rw [hb.cell (p := ⟨b, off + i, none⟩) (cell?_lt (a := ⟨b, off + i, none⟩) hc)]
  exact hc

/-- A slice literal of slices: its new block. -/
theorem Rows1.lit2 {α : Type} {w : World} {k : Nat} {enc : α → List Value} {v1 v2 : Value} {r1 r2 : List α} (h1 : IsSlice w k enc v1 r1) (h2 : IsSlice w k enc v2 r2) (e : TypeId) :
    Rows1 (w.alloc (.cells #[v1, v2] e)) k enc (some ⟨w.heap.size, 0, none⟩) [r1, r2] := by
  have hb : Below w.heap.size w (w.alloc (.cells #[v1, v2] e)) := (Below.refl _ _).alloc (Nat.le_refl _) _
  intro i hi
  have hi2 : i < 2 := by simpa using hi
  rcases Nat.lt_or_ge i 1 with h | h
  · obtain rfl : i = 0 := by omega
    exact ⟨w.heap.size, 0, v1, rfl, by rw [cell_of_row _ w.heap.size _ _ e (0, 0) (heap_alloc_new w _)]; rfl, h1.below hb⟩
  · obtain rfl : i = 1 := by omega
    exact ⟨w.heap.size, 0, v2, rfl, by rw [cell_of_row _ w.heap.size _ _ e (0, 0) (heap_alloc_new w _)]; rfl, h2.below hb⟩

theorem add_none (b off n : Nat) : (⟨b, off, none⟩ : Addr).add n = ⟨b, off + n, none⟩ := by
  unfold Addr.add
  split <;> simp_all

theorem flatMap_length {α : Type} {k : Nat} {enc : α → List Value} (hl : ∀ x, (enc x).length = k) (xs : List α) : (xs.flatMap enc).length = xs.length * k := by
  induction xs with
  | nil => simp
  | cons x xs ih => rw [List.flatMap_cons, List.length_append, hl, ih, List.length_cons, Nat.add_mul]; omega

theorem Flat.news {α : Type} {w : World} {k : Nat} {enc : α → List Value} {ad : Addr} {xs : List α} (h : Flat w k enc (some ad) xs) (hl : ∀ x, (enc x).length = k) (hk : 0 < k) :
    ∀ j u, (xs.flatMap enc)[j]? = some u → w.cell? (ad.add j) = some u := by
  intro j u hu
  have hj := (List.getElem?_eq_some_iff.1 hu).1
  rw [flatMap_length hl] at hj
  have hi : j / k < xs.length := (Nat.div_lt_iff_lt_mul hk).2 hj
  have hm : j % k < k := Nat.mod_lt _ hk
  have e : j / k * k + j % k = j := by rw [Nat.mul_comm]; exact Nat.div_add_mod j k
  obtain ⟨v, hv, b, off, ea, hc⟩ := h (j / k) hi (j % k) hm
  have hg := flatMap_get hl xs (j / k) hi (j % k) hm
  rw [e] at hg
  rw [hu, hv] at hg
  simp only [Option.some.injEq] at ea hg
  subst ea
  rw [add_none, hg, ← hc, e]

section
variable {P : Program} {w : World} {ops : Array Oper} {rest : List Oper} {o : Oper} {a : Act} {Q : Exit → Act → World → Prop}
/-- 'append(s, y...)', s the call's own, y any slice. -/
theorem wpList_appRow {α : Type} (hgd : o.guard = none) (s x : Operand) (t : TypeId)
    (ho : o.op = .call { callee := .builtin .append, args := #[s, x], argTypes := #[t, t] })
    {e : TypeId} {z : Value} {size bytes : Nat} (hE : ElemType P e z size bytes) (ht : P.underlying t = some (.slice e))
    (base : Nat) (v : Value) (xs : List α) (enc : α → List Value) (hs : a.eval s = v) (hown : Own w base e size enc v xs) (ys : List α) (vy : Value)
    (hx : a.eval x = vy) (hy : IsSlice w size enc vy ys) (hl : ∀ x, (enc x).length = size) (h1 : ∀ y, ∀ u ∈ enc y, u.oneCell' = true)
    (hbytes : (xs.length + ys.length) * bytes ≤ 140737488355328) (h63 : xs.length + ys.length ≤ maxLen) (hbase : base ≤ w.heap.size)
    (h : ∀ v' w', Own w' base e size enc v' (xs ++ ys) → w.grownBy w' v.ownBlock → wpList P ops Q rest (a.put o.dst v') w') : wpList P ops Q (o :: rest) a w := by
  obtain ⟨i, hi, hz, hsz, hby, hzs, h0⟩ := hE
  obtain ⟨oa, cap, rfl, hc0, hm, hf⟩ := hy
  cases oa with
  | none =>
    have hys : ys = [] := by
      cases ys with
      | nil => rfl
      | cons y r =>
        obtain ⟨_, _, b, off, e0, _⟩ := hf 0 (by simp) 0 h0
        cases e0
    subst hys
    rw [hc0 rfl] at hx
    refine wpList_append_own_none hgd s x t ho base e i size ht hi v xs.length (xs.flatMap enc) hs hown hx ?_
    refine h v w ?_ ⟨rfl, rfl, rfl, Nat.le_refl _, fun _ _ _ => rfl⟩
    rw [List.append_nil]
    exact hown
  | some ad =>
    refine wpList_append_own w hgd s x t ho base e i z size bytes ht hi hz hsz hby hzs h0 v xs.length (xs.flatMap enc) hs hown ad ys.length cap (ys.flatMap enc) hx (by rw [flatMap_length hl]) (hf.news hl h0)
      (fun u hu => by obtain ⟨y, _, hy⟩ := List.mem_flatMap.1 hu; exact h1 y u hy) h63 hbytes hbase ?_
    intro v' w' hown' hg _
    refine h v' w' ?_ hg
    unfold Own
    rw [List.length_append, List.flatMap_append]
    exact hown'
end

/-- How many elements the rows have together. -/
def total {α : Type} (rows : List (List α)) : Nat := (rows.map List.length).sum
theorem total_take {α : Type} (rows : List (List α)) (k : Nat) (h : k < rows.length) : total (rows.take (k + 1)) = total (rows.take k) + rows[k].length := by
  unfold total
  rw [List.take_succ_eq_append_getElem h, List.map_append, List.sum_append]
  simp
theorem total_le {α : Type} (rows : List (List α)) (k : Nat) : total (rows.take k) ≤ total rows := by
  unfold total
  conv => rhs; rw [← List.take_append_drop k rows]
  rw [List.map_append, List.sum_append]
  omega
theorem total_flatten {α : Type} (rows : List (List α)) : rows.flatten.length = total rows := by
  unfold total
  rw [List.length_flatten]
theorem flatten_take {α : Type} (rows : List (List α)) (k : Nat) (h : k < rows.length) : (rows.take (k + 1)).flatten = (rows.take k).flatten ++ rows[k] := by
  rw [List.take_succ_eq_append_getElem h, List.flatten_append]
  simp
end Go.Proofs.Ytcadgjhfdolejaa
namespace Go.Proofs.Ytcadgjhfdolejaa
open Go.RowKit
section
variable {P : Program} {w : World} {ops : Array Oper} {o : Oper} {a : Act} {K : Act → World → Prop} {Q : Exit → Act → World → Prop} {E : Prop}
theorem step_app1 {α : Type} (hgd : o.guard = none) (s x : Operand) (t : TypeId)
    (ho : o.op = .call { callee := .builtin .append, args := #[s, x], argTypes := #[t, t] })
    {e : TypeId} {z : Value} {size bytes : Nat} (hE : ElemType P e z size bytes) (ht : P.underlying t = some (.slice e))
    (base : Nat) (v : Value) (xs : List α) (enc : α → List Value) (hs : a.eval s = v) (hown : Own w base e size enc v xs) (y : α)
    (ad : Addr) (c : Nat) (hx : a.eval x = .slice (some ad) 1 c) (hl : (enc y).length = size) (hnews : ∀ j u, (enc y)[j]? = some u → w.cell? (ad.add j) = some u) (h1 : ∀ u ∈ enc y, u.oneCell' = true)
    (hbytes : (xs.length + 1) * bytes ≤ 140737488355328) (h63 : xs.length + 1 ≤ maxLen) (hbase : base ≤ w.heap.size)
    (h : ∀ v' w', Own w' base e size enc v' (xs ++ [y]) → w.grownBy w' v.ownBlock → K (a.put o.dst v') w') : if Region.wanted o (yielded ops a.tmps) = true then Oper.wp P o a w K Q else E := by
  obtain ⟨i, hi, hz, hsz, hby, hzs, h0⟩ := hE
  have hw : Region.wanted o (yielded ops a.tmps) = true := by simp [Region.wanted, hgd]
  rw [if_pos hw]
  refine wp_append_own w s x t ho base e i z size bytes ht hi hz hsz hby hzs h0 v xs.length (xs.flatMap enc) hs hown ad 1 c (enc y) hx (by rw [hl, Nat.one_mul]) hnews h1 h63 hbytes hbase ?_
  intro v' w' hown' hg _
  refine h v' w' ?_ hg
  unfold Own
  rw [List.length_append, List.flatMap_append]
  simpa using hown'
end
end Go.Proofs.Ytcadgjhfdolejaa
namespace Go.Proofs.Ytcadgjhfdolejaa
open Go.RowKit
/-- A slice literal: its new block reads. -/
theorem Flat.litN {α : Type} (w : World) (k : Nat) (enc : α → List Value) (xs : List α) (e : TypeId) (hl : ∀ x, (enc x).length = k) : Flat (w.alloc (.cells (xs.flatMap enc).toArray e)) k enc (some ⟨w.heap.size, 0, none⟩) xs := by
  intro i hi j hj
  have hj' : j < (enc xs[i]).length := by rw [hl]; exact hj
  refine ⟨(enc xs[i])[j], List.getElem?_eq_getElem hj', w.heap.size, 0, rfl, ?_⟩
  rw [Nat.zero_add, cell_of_row _ w.heap.size (i * k + j) _ e (0, 0) (heap_alloc_new w _)]
  rw [← List.getElem?_eq_getElem hj', ← flatMap_get hl xs i hi j hj]
  simp
theorem IsSlice.litN {α : Type} (w : World) (k : Nat) (enc : α → List Value) (xs : List α) (e : TypeId) (hl : ∀ x, (enc x).length = k) (hm : xs.length ≤ maxLen) (c : Nat) : IsSlice (w.alloc (.cells (xs.flatMap enc).toArray e)) k enc (.slice (some ⟨w.heap.size, 0, none⟩) xs.length c) xs :=
  ⟨_, c, rfl, (fun h => by cases h), hm, Flat.litN w k enc xs e hl⟩
/-- A slice literal: the call owns it. -/
theorem Own.lit {α : Type} (w : World) (base : Nat) (k : Nat) (enc : α → List Value) (xs : List α) (e : TypeId) (hl : ∀ x, (enc x).length = k) (hm : xs.length ≤ maxLen) (hb : base ≤ w.heap.size) :
    Own (w.alloc (.cells (xs.flatMap enc).toArray e)) base e k enc (.slice (some ⟨w.heap.size, 0, none⟩) xs.length xs.length) xs := by
  have hlen := flatMap_length hl xs
  refine ⟨hlen, .inr ⟨w.heap.size, xs.length, _, rfl, hb, heap_alloc_new w _, Nat.le_refl _, hm, ?_, ?_⟩⟩
  · rw [List.size_toArray]
    exact hlen
  · rw [← hlen, List.take_length]
/-- A part of a slice: from element i on, n elements. -/
theorem Flat.cut {α : Type} {w : World} {k : Nat} {enc : α → List Value} {b off : Nat} {xs : List α} (h : Flat w k enc (some ⟨b, off, none⟩) xs) (i n : Nat) : Flat w k enc (some ⟨b, off + i * k, none⟩) ((xs.drop i).take n) := by
  intro m hm j hj
  have hm2 : m < n ∧ i + m < xs.length := by
    simp only [List.length_take, List.length_drop] at hm
    omega
  obtain ⟨v, hv, b', off', e, hc⟩ := h (i + m) hm2.2 j hj
  simp only [Option.some.injEq, Addr.mk.injEq] at e
  obtain ⟨rfl, rfl, _⟩ := e
  refine ⟨v, ?_, b, off + i * k, rfl, ?_⟩
  · rw [← hv]
    congr 2
    simp
  · rw [← hc]
    congr 2
    rw [Nat.add_mul]
    omega
end Go.Proofs.Ytcadgjhfdolejaa
namespace Go.Proofs.Ytcadgjhfdolejaa
open Go.RowKit
section
variable {α : Type} {w : World} {base : Nat} {e : TypeId} {f : α → Value} {g cap : Nat} {xs : List α}
/-- One cell an element. -/
def enc1 (f : α → Value) (x : α) : List Value := [f x]
theorem flatMap_enc1 (f : α → Value) (xs : List α) : xs.flatMap (enc1 f) = xs.map f := by
  induction xs with
  | nil => rfl
  | cons x xs ih => rw [List.flatMap_cons, ih]; rfl
/-- The array at block g holds xs (one cell an element), and the call owns it. -/
def Arr (w : World) (base : Nat) (e : TypeId) (f : α → Value) (g cap : Nat) (xs : List α) : Prop := Own w base e 1 (enc1 f) (.slice (some ⟨g, 0, none⟩) xs.length cap) xs
theorem Arr.cell (h : Arr w base e f g cap xs) {i : Nat} (hi : i < xs.length) : w.cell? ⟨g, i, none⟩ = some (f xs[i]) := by
  rw [World.ownsRow.cellAt h i (by omega), flatMap_enc1]
  simp [hi]
theorem Arr.frozen (h : Arr w base e f g cap xs) (i : Nat) : w.frozen? ⟨g, i, none⟩ = false := World.ownsRow.frozenAt h i
theorem Arr.set (h : Arr w base e f g cap xs) (i : Nat) (y : α) : Arr (w.setCell ⟨g, i, none⟩ (f y)) base e f g cap (xs.set i y) := by
  have h1 := (World.ownsRow.stored h i (f y)).1
  unfold Arr Own
  rw [flatMap_enc1] at *
  rw [List.length_set, List.map_set]
  exact h1
theorem Arr.lt (h : Arr w base e f g cap xs) : base ≤ g ∧ g < w.heap.size := World.ownsRow.lt h g rfl
theorem Arr.setBelow (h : Arr w base e f g cap xs) {w0 : World} {B : Nat} (hb : Below B w0 w) (hB : B ≤ base) (i : Nat) (v : Value) : Below B w0 (w.setCell ⟨g, i, none⟩ v) :=
  hb.setCell (p := ⟨g, i, none⟩) (Nat.le_trans hB h.lt.1) v
theorem Arr.below {w' : World} (h : Arr w base e f g cap xs) (hb : Below w.heap.size w w') : Arr w' base e f g cap xs := Own.below h hb
theorem Arr.alloc (h : Arr w base e f g cap xs) (o : Obj) : Arr (w.alloc o) base e f g cap xs := Own.alloc h o
theorem Arr.drewN (h : Arr w base e f g cap xs) (n : Nat) : Arr (w.drewN n) base e f g cap xs := h
theorem Arr.drew (h : Arr w base e f g cap xs) : Arr w.drew base e f g cap xs := h
/-- Another block of the call's own is written: the array stays. -/
theorem Arr.other (h : Arr w base e f g cap xs) {a : Addr} (ha : a.block ≠ g) (v : Value) : Arr (w.setCell a v) base e f g cap xs := by
  refine ⟨h.1, ?_⟩
  rcases h.2 with ⟨h1, _⟩ | ⟨g', cap', cur, h1, h2, h3, r⟩
  · cases h1
  · simp only [Value.slice.injEq, Option.some.injEq, Addr.mk.injEq, and_true, true_and] at h1
    obtain ⟨rfl, rfl⟩ := h1
    refine .inr ⟨g, cap, cur, rfl, h2, ?_, r⟩
    rw [Below.heap_setCell _ _ _ _ (fun e => ha e.symm)]
    exact h3
theorem Arr.isSlice (h : Arr w base e f g cap xs) : IsSlice w 1 (enc1 f) (.slice (some ⟨g, 0, none⟩) xs.length cap) xs := Own.isSlice h (fun _ => rfl)
theorem Arr.flat (h : Arr w base e f g cap xs) : Flat w 1 (enc1 f) (some ⟨g, 0, none⟩) xs := by
  obtain ⟨oa, c, e1, _, _, h2⟩ := h.isSlice
  simp only [Value.slice.injEq] at e1
  obtain ⟨rfl, _, _⟩ := e1
  exact h2
end
theorem flat_int {w : World} {oa : Option Addr} {xs : List Int} : Flat w 1 (enc1 (Value.int .i64)) oa xs ↔ Flat w 1 encInt oa xs := Iff.rfl
section
variable {α : Type} {P : Program} {w : World} {ops : Array Oper} {rest : List Oper} {o : Oper} {a : Act} {Q : Exit → Act → World → Prop}
/-- 'make([]T, n)': the walk's step. -/
theorem wpList_makeArr (hgd : o.guard = none) (l c : Operand) (t : TypeId) (hop : o.op = Op.makeSlice t l c)
    {e : TypeId} {z : Value} {bytes : Nat} (hE : ElemType P e z 1 bytes) (ht : P.underlying t = some (.slice e)) (base : Nat) (f : α → Value) (z0 : α) (hz0 : z.cells = #[f z0])
    (L C : Int) (n : Nat) (hl : a.eval l = .int .i64 L) (hc : a.eval c = .int .i64 C) (hL : L = (n : Int)) (hC : C = (n : Int)) (hb : bytes * n ≤ 281474976710656) (h63 : n ≤ maxLen) (hbase : base ≤ w.heap.size)
    (h : ∀ w', Arr w' base e f w.heap.size n (List.replicate n z0) → Below w.heap.size w w' → wpList P ops Q rest (a.put o.dst (.slice (some ⟨w.heap.size, 0, none⟩) n n)) w') : wpList P ops Q (o :: rest) a w := by
  obtain ⟨i, hi, hz, hsz, hby, hzs, h0⟩ := hE
  refine wpList_make_full w hgd l c t hop base e i z 1 ht hi hz hsz .i64 .i64 L C n hl hc hL hC (by rw [hby]; exact hb) h63 hbase ?_
  intro w' hown hg
  refine h w' ?_ ((Below.refl _ _).grown hg (Nat.le_refl _) (fun k hk => by cases hk))
  unfold Arr Own
  rw [flatMap_enc1, List.map_replicate, List.length_replicate]
  rw [hz0, Nat.mul_one, toList_madeCells_one] at hown
  exact hown
end
end Go.Proofs.Ytcadgjhfdolejaa
namespace Go.Proofs.Ytcadgjhfdolejaa
open Go.RowKit
set_option linter.unusedVariables false
theorem keepCell {w w' : World} (hb : Below w.heap.size w w') {a : Addr} {v : Value} (h : w.cell? a = some v) : w'.cell? a = some v := by rw [hb.cell (cell?_lt h)]; exact h
section
variable {α : Type} {f : α → Value} {w : World} {g n : Nat} {t : Nat → α}
/-- The block g holds t 0, .., t (n - 1). -/
structure FTab (f : α → Value) (w : World) (g n : Nat) (t : Nat → α) : Prop where
  at' : ∀ i, i < n → w.cell? ⟨g, i, none⟩ = some (f (t i))
  fz : ∀ o, w.frozen? ⟨g, o, none⟩ = false
theorem FTab.below {w' : World} {B : Nat} (h : FTab f w g n t) (hb : Below B w w') (hl : g < B) : FTab f w' g n t :=
  ⟨fun i hi => by rw [hb.cell (p := ⟨g, i, none⟩) hl]; exact h.at' i hi, fun o => by rw [hb.frozen (p := ⟨g, o, none⟩) hl]; exact h.fz o⟩
theorem fcell_ne {w : World} {g o o' : Nat} {v : Value} (h : o ≠ o') : (w.setCell ⟨g, o', none⟩ v).cell? ⟨g, o, none⟩ = w.cell? ⟨g, o, none⟩ := by
  go_simp
theorem FTab.set (h : FTab f w g n t) {i : Nat} (hi : i < n) (y : α) : FTab f (w.setCell ⟨g, i, none⟩ (f y)) g n (fun j => if j = i then y else t j) := by
  have a1 := h.at' i hi
  have f0 := h.fz i
  refine ⟨fun j hj => ?_, fun o => ?_⟩
  · by_cases e : j = i
    · subst e
      simp only [if_pos]
      go_simp
    · simp only [if_neg e]
      rw [fcell_ne e]
      exact h.at' j hj
  · have := h.fz o
    go_simp
theorem FTab.other (h : FTab f w g n t) {b o : Nat} (hb : b ≠ g) (v : Value) : FTab f (w.setCell ⟨b, o, none⟩ v) g n t := by
  have hb' : g ≠ b := fun e => hb e.symm
  refine ⟨fun i hi => ?_, fun i => ?_⟩
  · have := h.at' i hi
    go_simp
  · have := h.fz i
    go_simp
theorem FTab.congr {t' : Nat → α} (h : FTab f w g n t) (he : ∀ i, i < n → t i = t' i) : FTab f w g n t' := ⟨fun i hi => by rw [← he i hi]; exact h.at' i hi, h.fz⟩
theorem FTab.drewN (h : FTab f w g n t) (q : Nat) : FTab f (w.drewN q) g n t := ⟨h.at', h.fz⟩
theorem FTab.drew (h : FTab f w g n t) : FTab f w.drew g n t := ⟨h.at', h.fz⟩
theorem FTab.lt (h : FTab f w g n t) (hn : 0 < n) : g < w.heap.size := cell?_lt (h.at' 0 hn)
theorem FTab.alloc (h : FTab f w g n t) (hl : g < w.heap.size) (o : Obj) : FTab f (w.alloc o) g n t := h.below (balloc (Below.refl _ w) o) hl
theorem FTab.ofArr {base : Nat} {e : TypeId} {z0 : α} (h : Arr w base e f g n (List.replicate n z0)) : FTab f w g n (fun _ => z0) :=
  ⟨fun i hi => by
    have h1 := h.cell (i := i) (by rw [List.length_replicate]; exact hi)
    rw [List.getElem_replicate] at h1
    exact h1, fun o => h.frozen o⟩
end
end Go.Proofs.Ytcadgjhfdolejaa
namespace Go.Proofs.Ytcadgjhfdolejaa
open Go.RowKit
set_option linter.unusedVariables false
/-- The cells of a new array. -/
def madeArr (z : Value) (n : Nat) : Array Value := madeCells #[z] (n * 1)
theorem run_makeArr {P : Program} {t e : TypeId} {z : Value} {bytes : Nat} (hE : ElemType P e z 1 bytes) (ht : P.underlying t = some (.slice e)) (zc : Value) (hz : z.cells = #[zc]) (n : Nat) (hb : bytes * n ≤ 281474976710656) (h63 : n ≤ 9223372036854775807) :
    ∀ w : World, (Instr.makeSlice t (.int .i64 (n : Int)) (.int .i64 (n : Int))).run P w = .ok (.slice (some ⟨w.heap.size, 0, none⟩) n n) (w.alloc (.cells (madeArr zc n) e)) := by
  intro w
  obtain ⟨i, hi, hz', hsz, hby, hzs, h0⟩ := hE
  have hb2 : (i.bytes : Int) * (n : Int) ≤ 281474976710656 := by
    subst hby
    have h : ((i.bytes * n : Nat) : Int) ≤ 281474976710656 := by omega
    rwa [Int.natCast_mul] at h
  have hr := run_make (P := P) w t e i z ht hi hz' .i64 .i64 n n (by omega) (by omega) hb2 (by omega)
  rw [hr, hz, hsz]
  rfl
theorem madeArr_get (z : Value) {n i : Nat} (h : i < n) : (madeArr z n)[i]? = some z := by
  simp [madeArr, madeCells, h, Nat.mod_one]
theorem FTab.made {α : Type} (f : α → Value) (w : World) (n : Nat) (z0 : α) (e : TypeId) : FTab f (w.alloc (.cells (madeArr (f z0) n) e)) w.heap.size n (fun _ => z0) := by
  refine ⟨fun i hi => ?_, fun o => ?_⟩
  · rw [cell_of_row _ w.heap.size i _ e (0, 0) (heap_alloc_new w _)]
    exact madeArr_get _ hi
  · unfold World.frozen?
    rw [heap_alloc_new]
    simp
end Go.Proofs.Ytcadgjhfdolejaa
