/-
  Rows whose elements lead to memory of their own: built by appends, and read. General over the program. Folds, plain: the piles of a sheet, and what a fold keeps. No program in sight. The pages of a folded sheet and their places on a plate, plain. No program in sight. The walks of fold's across, extent, pile. Own text.
-/
import Derived.IntWalk
import Derived.WalkSpells
import Derived.WalkLawsBesides
import Derived.Deep.CutBlock
import Derived.Handy
import Derived.RegionTactic
import Derived.BigRegion
import Derived.Test.YtdblibjmgamjeaaRows
import Derived.Test.YtdblibjmgamjeaaBase
namespace Go.Proofs.Ytdblibjmgamjeaa
open Go.RowKit
set_option linter.unusedVariables false
theorem Flat.heap {α : Type} {w w' : World} {k : Nat} {enc : α → List Value} {oa : Option Addr} {xs : List α} (h : Flat w k enc oa xs) (hb : ∀ a, oa = some a → w'.heap[a.block]? = w.heap[a.block]?) : Flat w' k enc oa xs := fun i hi j hj => by
  obtain ⟨u, hu, b, off, e, hc⟩ := h i hi j hj
  exact ⟨u, hu, b, off, e, by rw [World.cell?_of_block (w := w) (a := ⟨b, off + (i * k + j), none⟩) (hb ⟨b, off, none⟩ e)]; exact hc⟩
theorem FTab.heap {α : Type} {f : α → Value} {w w' : World} {g n : Nat} {t : Nat → α} (h : FTab f w g n t) (hb : w'.heap[g]? = w.heap[g]?) : FTab f w' g n t :=
  ⟨fun i hi => by rw [World.cell?_of_block (w := w) (a := ⟨g, i, none⟩) hb]; exact h.at' i hi, fun o => by rw [World.frozen?_of_block (w := w) (a := ⟨g, o, none⟩) hb]; exact h.fz o⟩
theorem Own.heap {α : Type} {w w' : World} {base : Nat} {e : TypeId} {k : Nat} {enc : α → List Value} {v : Value} {xs : List α} (h : Own w base e k enc v xs) (hb : ∀ g, v.ownBlock = some g → w'.heap[g]? = w.heap[g]?) : Own w' base e k enc v xs := by
  refine ⟨h.1, ?_⟩
  rcases h.2 with hv | ⟨g, cap, cur, rfl, hbg, hg, rest⟩
  · exact .inl hv
  · exact .inr ⟨g, cap, cur, rfl, hbg, by rw [hb g rfl]; exact hg, rest⟩
theorem Own.blk {α : Type} {w : World} {base : Nat} {e : TypeId} {k : Nat} {enc : α → List Value} {v : Value} {xs : List α} (h : Own w base e k enc v xs) {g : Nat} (hg : v.ownBlock = some g) : base ≤ g ∧ g < w.heap.size := World.ownsRow.lt h g hg
theorem Own.isSlc {α : Type} {w : World} {base : Nat} {e : TypeId} {k : Nat} {enc : α → List Value} {v : Value} {xs : List α} (h : Own w base e k enc v xs) : ∃ oa cap, v = .slice oa xs.length cap ∧ (oa = none → xs = []) := by
  rcases h.2 with ⟨rfl, hn⟩ | ⟨g, cap, cur, rfl, _⟩
  · exact ⟨none, 0, by rw [hn], fun _ => List.eq_nil_of_length_eq_zero hn⟩
  · exact ⟨_, cap, rfl, fun h => by cases h⟩
section
variable {P : Program} {w : World} {ops : Array Oper} {rest : List Oper} {o : Oper} {a : Act} {Q : Exit → Act → World → Prop}
/-- 'append(s, y)', s the call's own: the walk's step, with where the new slice lies. -/
theorem wpList_app1L {α : Type} (hgd : o.guard = none) (s x : Operand) (t : TypeId)
    (ho : o.op = .call { callee := .builtin .append, args := #[s, x], argTypes := #[t, t] })
    {e : TypeId} {z : Value} {size bytes : Nat} (hE : ElemType P e z size bytes) (ht : P.underlying t = some (.slice e))
    (base : Nat) (v : Value) (xs : List α) (enc : α → List Value) (hs : a.eval s = v) (hown : Own w base e size enc v xs) (y : α)
    (ad : Addr) (c : Nat) (hx : a.eval x = .slice (some ad) 1 c) (hl : (enc y).length = size) (hnews : ∀ j u, (enc y)[j]? = some u → w.cell? (ad.add j) = some u) (h1 : ∀ u ∈ enc y, u.oneCell' = true)
    (hbytes : (xs.length + 1) * bytes ≤ 140737488355328) (h63 : xs.length + 1 ≤ maxLen) (hbase : base ≤ w.heap.size)
    (h : ∀ g cap w', Own w' base e size enc (.slice (some ⟨g, 0, none⟩) (xs.length + 1) cap) (xs ++ [y]) → w.grownBy w' v.ownBlock → (v.ownBlock = some g ∨ g = w.heap.size) → wpList P ops Q rest (a.put o.dst (.slice (some ⟨g, 0, none⟩) (xs.length + 1) cap)) w') : wpList P ops Q (o :: rest) a w := by
  obtain ⟨i, hi, hz, hsz, hby, hzs, h0⟩ := hE
  refine wpList_append_lies w hgd s x t ho base e i z size bytes ht hi hz hsz hby hzs h0 v xs.length (xs.flatMap enc) hs hown ad 1 c (enc y) hx (by rw [hl, Nat.one_mul]) hnews h1 (by omega) h63 hbytes hbase w.heap.size rfl ?_
  intro g cap w' hown' hg hat _
  refine h g cap w' ?_ hg hat
  unfold Own
  rw [List.length_append, List.flatMap_append]
  simpa using hown'
/-- The same in a region that draws its order. -/
theorem step_app1L {α : Type} {K : Act → World → Prop} {E : Prop} (hgd : o.guard = none) (s x : Operand) (t : TypeId)
    (ho : o.op = .call { callee := .builtin .append, args := #[s, x], argTypes := #[t, t] })
    {e : TypeId} {z : Value} {size bytes : Nat} (hE : ElemType P e z size bytes) (ht : P.underlying t = some (.slice e))
    (base : Nat) (v : Value) (xs : List α) (enc : α → List Value) (hs : a.eval s = v) (hown : Own w base e size enc v xs) (y : α)
    (ad : Addr) (c : Nat) (hx : a.eval x = .slice (some ad) 1 c) (hl : (enc y).length = size) (hnews : ∀ j u, (enc y)[j]? = some u → w.cell? (ad.add j) = some u) (h1 : ∀ u ∈ enc y, u.oneCell' = true)
    (hbytes : (xs.length + 1) * bytes ≤ 140737488355328) (h63 : xs.length + 1 ≤ maxLen) (hbase : base ≤ w.heap.size)
    (h : ∀ g cap w', Own w' base e size enc (.slice (some ⟨g, 0, none⟩) (xs.length + 1) cap) (xs ++ [y]) → w.grownBy w' v.ownBlock → (v.ownBlock = some g ∨ g = w.heap.size) → K (a.put o.dst (.slice (some ⟨g, 0, none⟩) (xs.length + 1) cap)) w') : if Region.wanted o (yielded ops a.tmps) = true then Oper.wp P o a w K Q else E := by
  obtain ⟨i, hi, hz, hsz, hby, hzs, h0⟩ := hE
  refine step_append_lies w hgd s x t ho base e i z size bytes ht hi hz hsz hby hzs h0 v xs.length (xs.flatMap enc) hs hown ad 1 c (enc y) hx (by rw [hl, Nat.one_mul]) hnews h1 (by omega) h63 hbytes hbase w.heap.size rfl ?_
  intro g cap w' hown' hg hat _
  refine h g cap w' ?_ hg hat
  unfold Own
  rw [List.length_append, List.flatMap_append]
  simpa using hown'
end
/-! ### Elements that lead to memory -/
/-- R speaks of an element's cells and of what lies in the blocks that it leads to. -/
structure Stab {α β : Type} (R : World → β → α → Prop) (blks : β → Nat → Prop) : Prop where
  keep : ∀ {w w' : World} {u : β} {x : α}, R w u x → (∀ g, blks u g → w'.heap[g]? = w.heap[g]?) → R w' u x
/-- A row under way: the call owns it; its elements lie elsewhere, from block B on. -/
structure RowsU {α β : Type} (enc : β → List Value) (blks : β → Nat → Prop) (R : World → β → α → Prop) (e : TypeId) (k : Nat) (w : World) (B : Nat) (v : Value) (us : List β) (xs : List α) : Prop where
  op : Own w B e k enc v us
  len : us.length = xs.length
  row : ∀ i (h : i < us.length) (h' : i < xs.length), R w us[i] xs[i]
  lo : ∀ u ∈ us, ∀ g, blks u g → g < w.heap.size ∧ v.ownBlock ≠ some g
section
variable {α β : Type} {enc : β → List Value} {blks : β → Nat → Prop} {R : World → β → α → Prop} {e : TypeId} {k : Nat} {w w' : World} {B : Nat} {v v' : Value} {us : List β} {xs : List α}
theorem RowsU.nil (w : World) (B : Nat) : RowsU enc blks R e k w B (.slice none 0 0) ([] : List β) ([] : List α) :=
  ⟨Own.nil _ _ _ _ _, rfl, fun i h => by simp at h, fun u h => by cases h⟩
theorem RowsU.heap (hs : Stab R blks) (h : RowsU enc blks R e k w B v us xs) (hz : w.heap.size ≤ w'.heap.size) (hb : ∀ g, (v.ownBlock = some g ∨ ∃ u ∈ us, blks u g) → w'.heap[g]? = w.heap[g]?) : RowsU enc blks R e k w' B v us xs :=
  ⟨h.op.heap fun g hg => hb g (.inl hg), h.len, fun i h1 h2 => hs.keep (h.row i h1 h2) fun g hg => hb g (.inr ⟨_, List.getElem_mem h1, hg⟩), fun u hu g hg => ⟨Nat.lt_of_lt_of_le (h.lo u hu g hg).1 hz, (h.lo u hu g hg).2⟩⟩
theorem RowsU.below (hs : Stab R blks) (h : RowsU enc blks R e k w B v us xs) (hb : Below w.heap.size w w') : RowsU enc blks R e k w' B v us xs :=
  h.heap hs hb.size fun g hg => by
    rcases hg with hg | ⟨u, hu, hg⟩
    · exact hb.block g (h.op.blk hg).2
    · exact hb.block g (h.lo u hu g hg).1
/-- A cell of another block is written. -/
theorem RowsU.other (hs : Stab R blks) (h : RowsU enc blks R e k w B v us xs) {a : Addr} (h1 : v.ownBlock ≠ some a.block) (h2 : ∀ u ∈ us, ¬ blks u a.block) (x : Value) : RowsU enc blks R e k (w.setCell a x) B v us xs :=
  h.heap hs (by simp) fun g hg => Below.heap_setCell w a x g fun e => by
    subst e
    rcases hg with hg | ⟨u, hu, hg⟩
    · exact h1 hg
    · exact h2 u hu hg
/-- An element comes in. -/
theorem RowsU.add (hs : Stab R blks) (h : RowsU enc blks R e k w B v us xs) {u : β} {x : α} (hu : R w u x) (hg : ∀ g, blks u g → g < w.heap.size ∧ v.ownBlock ≠ some g) (hown : Own w' B e k enc v' (us ++ [u])) (hgr : w.grownBy w' v.ownBlock) (hat : v'.ownBlock = v.ownBlock ∨ v'.ownBlock = some w.heap.size) : RowsU enc blks R e k w' B v' (us ++ [u]) (xs ++ [x]) := by
  have hlen := h.len
  have hrow : ∀ i (h1 : i < (us ++ [u]).length) (h2 : i < (xs ++ [x]).length), R w (us ++ [u])[i] (xs ++ [x])[i] ∧ ∀ g, blks (us ++ [u])[i] g → g < w.heap.size ∧ v.ownBlock ≠ some g := by
    intro i h1 h2
    by_cases e : i < us.length
    · rw [List.getElem_append_left e, List.getElem_append_left (by omega)]
      exact ⟨h.row i e (by omega), h.lo _ (List.getElem_mem e)⟩
    · obtain rfl : i = us.length := by simp at h1; omega
      rw [List.getElem_append_right (Nat.le_refl _), List.getElem_append_right (by omega)]
      simp only [Nat.sub_self, List.getElem_cons_zero, hlen]
      exact ⟨hu, hg⟩
  have hz := hgr.size
  refine ⟨hown, by simp [hlen], fun i h1 h2 => hs.keep (hrow i h1 h2).1 fun g hgg => hgr.block g ((hrow i h1 h2).2 g hgg).1 fun e => ((hrow i h1 h2).2 g hgg).2 e.symm, fun y hy g hgg => ?_⟩
  obtain ⟨i, hi, rfl⟩ := List.mem_iff_getElem.1 hy
  have h2 : i < (xs ++ [x]).length := by simp at hi ⊢; omega
  obtain ⟨h3, h4⟩ := (hrow i hi h2).2 g hgg
  refine ⟨by omega, fun e => ?_⟩
  rcases hat with e2 | e2
  · exact h4 (e2 ▸ e)
  · rw [e2] at e; cases e; omega
end
/-- A row that is read. -/
structure RowsV {α β : Type} (enc : β → List Value) (blks : β → Nat → Prop) (R : World → β → α → Prop) (k : Nat) (w : World) (oa : Option Addr) (us : List β) (xs : List α) : Prop where
  flat : Flat w k enc oa us
  len : us.length = xs.length
  row : ∀ i (h : i < us.length) (h' : i < xs.length), R w us[i] xs[i]
  lt : ∀ u ∈ us, ∀ g, blks u g → g < w.heap.size
section
variable {α β : Type} {enc : β → List Value} {blks : β → Nat → Prop} {R : World → β → α → Prop} {e : TypeId} {k : Nat} {w w' : World} {B : Nat} {v v' : Value} {oa : Option Addr} {us : List β} {xs : List α}
theorem RowsV.below (hs : Stab R blks) (h : RowsV enc blks R k w oa us xs) (hb : Below w.heap.size w w') : RowsV enc blks R k w' oa us xs :=
  ⟨h.flat.below hb, h.len, fun i h1 h2 => hs.keep (h.row i h1 h2) fun g hg => hb.block g (h.lt _ (List.getElem_mem h1) g hg), fun u hu g hg => Nat.lt_of_lt_of_le (h.lt u hu g hg) hb.size⟩
theorem RowsV.heap (hs : Stab R blks) (h : RowsV enc blks R k w oa us xs) (hz : w.heap.size ≤ w'.heap.size) (hb : ∀ g, ((∃ a, oa = some a ∧ a.block = g) ∨ ∃ u ∈ us, blks u g) → w'.heap[g]? = w.heap[g]?) : RowsV enc blks R k w' oa us xs :=
  ⟨h.flat.heap fun a e => hb _ (.inl ⟨a, e, rfl⟩), h.len, fun i h1 h2 => hs.keep (h.row i h1 h2) fun g hg => hb g (.inr ⟨_, List.getElem_mem h1, hg⟩), fun u hu g hg => Nat.lt_of_lt_of_le (h.lt u hu g hg) hz⟩
theorem RowsU.view (h : RowsU enc blks R e k w B v us xs) (hk : ∀ x, (enc x).length = k) : ∃ oa cap, v = .slice oa xs.length cap ∧ (oa = none → cap = 0) ∧ xs.length ≤ maxLen ∧ RowsV enc blks R k w oa us xs := by
  obtain ⟨oa, cap, e1, hz, hm, hf⟩ := h.op.isSlice hk
  rw [h.len] at e1 hm
  exact ⟨oa, cap, e1, hz, hm, hf, h.len, h.row, fun u hu g hg => (h.lo u hu g hg).1⟩
end
/-! ### Elements that are slices -/
def encV (v : Value) : List Value := [v]
def blkV (v : Value) (g : Nat) : Prop := v.ownBlock = some g
theorem stab_slice {α : Type} (k : Nat) (enc : α → List Value) : Stab (fun w v (xs : List α) => IsSlice w k enc v xs) blkV :=
  ⟨fun h hb => by
    obtain ⟨oa, cap, rfl, h0, hm, hf⟩ := h
    exact ⟨oa, cap, rfl, h0, hm, hf.heap fun a e => hb _ (by rw [e]; rfl)⟩⟩
theorem RowsV.rows1 {α : Type} {k : Nat} {enc : α → List Value} {w : World} {oa : Option Addr} {us : List Value} {xs : List (List α)} (h : RowsV encV blkV (fun w v (xs : List α) => IsSlice w k enc v xs) 1 w oa us xs) : Rows1 w k enc oa xs := by
  intro i hi
  have hi' : i < us.length := by rw [h.len]; exact hi
  obtain ⟨u, hu, b, off, e, hc⟩ := h.flat i hi' 0 (by omega)
  simp only [encV, List.getElem?_cons_zero, Option.some.injEq] at hu
  refine ⟨b, off, u, e, by simpa using hc, ?_⟩
  rw [← hu]
  exact h.row i hi' hi
theorem World.news1 (w : World) (u : Value) (t : TypeId) : ∀ (j : Nat) (x : Value), (encV u)[j]? = some x → (w.alloc (.cells #[u] t)).cell? ((⟨w.heap.size, 0, none⟩ : Addr).add j) = some x :=
  World.news_of_block (cs := #[u]) (t := t) (fr := (0, 0)) (heap_alloc_new w _)
end Go.Proofs.Ytdblibjmgamjeaa
namespace Go.Proofs.Ytdblibjmgamjeaa
set_option linter.unusedVariables false
/-! ### Finite sums -/
def sumTo : Nat → (Nat → Nat) → Nat
  | 0, _ => 0
  | n + 1, g => sumTo n g + g n
theorem sumTo_congr {n : Nat} {g h : Nat → Nat} (e : ∀ i, i < n → g i = h i) : sumTo n g = sumTo n h := by
  induction n with
  | zero => rfl
  | succ n ih => simp only [sumTo]; rw [ih fun i hi => e i (by omega), e n (by omega)]
theorem sumTo_plus (n : Nat) (g h : Nat → Nat) : sumTo n (fun i => g i + h i) = sumTo n g + sumTo n h := by
  induction n with
  | zero => rfl
  | succ n ih => simp only [sumTo]; rw [ih]; omega
theorem sumTo_add (a b : Nat) (g : Nat → Nat) : sumTo (a + b) g = sumTo a g + sumTo b (fun i => g (a + i)) := by
  induction b with
  | zero => rfl
  | succ b ih => rw [← Nat.add_assoc]; simp only [sumTo]; rw [ih]; omega
theorem sumTo_zero {n : Nat} {g : Nat → Nat} (e : ∀ i, i < n → g i = 0) : sumTo n g = 0 := by
  induction n with
  | zero => rfl
  | succ n ih => simp only [sumTo]; rw [ih fun i hi => e i (by omega), e n (by omega)]
theorem sumTo_tail {n m : Nat} {g : Nat → Nat} (h : n ≤ m) (e : ∀ i, n ≤ i → i < m → g i = 0) : sumTo m g = sumTo n g := by
  obtain ⟨d, rfl⟩ : ∃ d, m = n + d := ⟨m - n, by omega⟩
  rw [sumTo_add, sumTo_zero (n := d) fun i hi => e _ (by omega) (by omega)]
  rfl
theorem sumTo_front (n : Nat) (g : Nat → Nat) : sumTo (n + 1) g = g 0 + sumTo n (fun i => g (i + 1)) := by
  induction n with
  | zero => simp [sumTo]
  | succ n ih => rw [sumTo, ih]; simp only [sumTo]; omega
theorem sumTo_rev (n : Nat) (g : Nat → Nat) : sumTo n (fun i => g (n - 1 - i)) = sumTo n g := by
  induction n with
  | zero => rfl
  | succ n ih =>
    rw [sumTo_front]
    simp only [sumTo]
    rw [← ih]
    have e : sumTo n (fun i => g (n + 1 - 1 - (i + 1))) = sumTo n (fun i => g (n - 1 - i)) := sumTo_congr fun i hi => by congr 1; omega
    rw [e]
    simp
    omega
theorem sumTo_comm (n m : Nat) (g : Nat → Nat → Nat) : sumTo n (fun i => sumTo m (fun j => g i j)) = sumTo m (fun j => sumTo n (fun i => g i j)) := by
  induction n with
  | zero => simp only [sumTo]; exact (sumTo_zero fun i _ => rfl).symm
  | succ n ih => simp only [sumTo]; rw [ih, ← sumTo_plus]
theorem sumTo_grid (R C : Nat) (g : Nat → Nat) : sumTo (R * C) g = sumTo R (fun r => sumTo C (fun c => g (r * C + c))) := by
  induction R with
  | zero => simp [sumTo]
  | succ R ih => rw [Nat.succ_mul, sumTo_add, ih]; rfl
theorem sumTo_one {n i : Nat} (hi : i < n) {g : Nat → Nat} (h1 : g i = 1) (h0 : ∀ j, j < n → j ≠ i → g j = 0) : sumTo n g = 1 := by
  obtain ⟨d, rfl⟩ : ∃ d, n = i + (1 + d) := ⟨n - i - 1, by omega⟩
  rw [sumTo_add, sumTo_add, sumTo_zero (n := i) fun j hj => h0 j (by omega) (by omega), sumTo_zero (n := d) fun j hj => h0 _ (by omega) (by omega)]
  simp [sumTo, h1]
/-- Two halves of a row of n, laid on each other at line L. -/
theorem sumTo_halves (L n S : Nat) (h0 : L ≤ n) (hS : S = max L (n - L)) (G : Int → Nat) (hneg : ∀ x, x < 0 → G x = 0) (hbig : ∀ x, (n : Int) ≤ x → G x = 0) :
    sumTo S (fun i => G ((L : Int) - 1 - i) + G ((L : Int) + i)) = sumTo n (fun j => G j) := by
  rw [sumTo_plus]
  have a1 : sumTo S (fun i => G ((L : Int) - 1 - i)) = sumTo L (fun j => G j) := by
    rw [sumTo_tail (n := L) (by omega) fun i hi _ => hneg _ (by omega), ← sumTo_rev L]
    exact sumTo_congr fun i hi => by congr 1; omega
  have a2 : sumTo S (fun i => G ((L : Int) + i)) = sumTo (n - L) (fun i => G ((L + i : Nat) : Int)) := by
    rw [sumTo_tail (n := n - L) (by omega) fun i hi _ => hbig _ (by omega)]
    exact sumTo_congr fun i hi => by congr 1
  rw [a1, a2]
  have a3 : n = L + (n - L) := by omega
  conv => rhs; rw [a3]
  rw [sumTo_add]
/-! ### Sheets that are folded in part -/
structure Leaf where
  col : Int
  row : Int
  fx : Bool
  fy : Bool
structure Stp where
  side : Int
  line : Int
  over : Bool
structure Sht where
  cols : Nat
  rows : Nat
  piles : List (List Leaf)
structure Sch where
  cols : Int
  rows : Int
  steps : List Stp
def acrossV (f : Stp) : Bool := f.side == 0 || f.side == 1
def firstV (f : Stp) : Bool := f.side == 0 || f.side == 2
def extV (s : Sht) (f : Stp) : Nat := if acrossV f = true then s.cols else s.rows
/-- A pile, empty outside the grid. -/
def pileV (s : Sht) (c r : Int) : List Leaf := if c < 0 ∨ r < 0 ∨ (s.cols : Int) ≤ c ∨ (s.rows : Int) ≤ r then [] else s.piles.getD (r * s.cols + c).toNat []
def flip1 (side : Bool) (x : Leaf) : Leaf := if side = true then ⟨x.col, x.row, !x.fx, x.fy⟩ else ⟨x.col, x.row, x.fx, !x.fy⟩
/-- A pile that is turned over. -/
def flipV (side : Bool) (l : List Leaf) : List Leaf := l.reverse.map (flip1 side)
def sizeV (s : Sht) (f : Stp) : Int := max f.line (extV s f - f.line)
def posV (s : Sht) (f : Stp) (c r : Int) : Int :=
  if firstV f = true then (if acrossV f = true then c else r) else sizeV s f - 1 - (if acrossV f = true then c else r)
def movV (s : Sht) (f : Stp) (c r : Int) : Int := if firstV f = true then f.line - 1 - posV s f c r else f.line + posV s f c r
def fixV (s : Sht) (f : Stp) (c r : Int) : Int := if firstV f = true then f.line + posV s f c r else f.line - 1 - posV s f c r
def movP (s : Sht) (f : Stp) (c r : Int) : List Leaf := if acrossV f = true then pileV s (movV s f c r) r else pileV s c (movV s f c r)
def fixP (s : Sht) (f : Stp) (c r : Int) : List Leaf := if acrossV f = true then pileV s (fixV s f c r) r else pileV s c (fixV s f c r)
def foldP (s : Sht) (f : Stp) (c r : Int) : List Leaf :=
  if f.over = true then flipV (acrossV f) (movP s f c r) ++ fixP s f c r else fixP s f c r ++ flipV (acrossV f) (movP s f c r)
def colsV (s : Sht) (f : Stp) : Nat := if acrossV f = true then (sizeV s f).toNat else s.cols
def rowsV (s : Sht) (f : Stp) : Nat := if acrossV f = true then s.rows else (sizeV s f).toNat
/-- A grid of piles, row by row. -/
def gridV (R C : Nat) (F : Int → Int → List Leaf) : List (List Leaf) := (List.range (R * C)).map fun k => F ((k % C : Nat) : Int) ((k / C : Nat) : Int)
def foldV (s : Sht) (f : Stp) : Sht := ⟨colsV s f, rowsV s f, gridV (rowsV s f) (colsV s f) (foldP s f)⟩
def flatV (s : Sch) : Sht := ⟨s.cols.toNat, s.rows.toNat, gridV s.rows.toNat s.cols.toNat (fun c r => [⟨c, r, false, false⟩])⟩
theorem grid_len (R C : Nat) (F : Int → Int → List Leaf) : (gridV R C F).length = R * C := by simp [gridV]
theorem grid_at {R C : Nat} (F : Int → Int → List Leaf) {r c : Nat} (hr : r < R) (hc : c < C) : (gridV R C F).getD (r * C + c) [] = F c r := by
  have hk : r * C + c < R * C := by
    have : (r + 1) * C ≤ R * C := Nat.mul_le_mul_right C hr
    rw [Nat.add_mul] at this
    omega
  have e1 : (r * C + c) % C = c := by rw [Nat.add_comm, Nat.add_mul_mod_self_right, Nat.mod_eq_of_lt hc]
  have e2 : (r * C + c) / C = r := by rw [Nat.add_comm, Nat.add_mul_div_right _ _ (by omega), Nat.div_eq_of_lt hc]; omega
  unfold gridV
  rw [List.getD_eq_getElem?_getD, List.getElem?_map, List.getElem?_range hk]
  simp only [Option.map_some, Option.getD_some, e1, e2]
theorem grid_snoc {R C : Nat} (F : Int → Int → List Leaf) {r c : Nat} (hc : c < C) : (List.range (r * C + c + 1)).map (fun k => F ((k % C : Nat) : Int) ((k / C : Nat) : Int)) = (List.range (r * C + c)).map (fun k => F ((k % C : Nat) : Int) ((k / C : Nat) : Int)) ++ [F c r] := by
  have e1 : (r * C + c) % C = c := by rw [Nat.add_comm, Nat.add_mul_mod_self_right, Nat.mod_eq_of_lt hc]
  have e2 : (r * C + c) / C = r := by rw [Nat.add_comm, Nat.add_mul_div_right _ _ (by omega), Nat.div_eq_of_lt hc]; omega
  rw [List.range_succ, List.map_append]
  simp only [List.map_cons, List.map_nil, e1, e2]
/-! ### What a fold keeps -/
/-- A measure of piles that adds up and does not mind turning over. -/
structure Meas (φ : List Leaf → Nat) : Prop where
  nil : φ [] = 0
  app : ∀ a b, φ (a ++ b) = φ a + φ b
  flip : ∀ s l, φ (flipV s l) = φ l
theorem meas_length : Meas List.length := ⟨rfl, fun a b => List.length_append, fun s l => by simp [flipV]⟩
def atB (c r : Int) (x : Leaf) : Bool := decide (x.col = c ∧ x.row = r)
theorem atB_flip (c r : Int) (s : Bool) (x : Leaf) : atB c r (flip1 s x) = atB c r x := by
  unfold flip1 atB
  split <;> rfl
theorem meas_count (c r : Int) : Meas (fun l => l.countP (atB c r)) := by
  refine ⟨rfl, fun a b => List.countP_append, fun s l => ?_⟩
  unfold flipV
  rw [List.countP_map, List.countP_reverse]
  congr 1
  funext x
  exact atB_flip c r s x
/-- The grid holds as many piles as it has places. -/
def WfS (s : Sht) : Prop := s.piles.length = s.rows * s.cols ∧ 0 < s.cols ∧ 0 < s.rows
def totV (φ : List Leaf → Nat) (s : Sht) : Nat := sumTo s.rows (fun r => sumTo s.cols (fun c => φ (pileV s c r)))
theorem pile_at {s : Sht} {c r : Nat} (hc : c < s.cols) (hr : r < s.rows) : pileV s c r = s.piles.getD (r * s.cols + c) [] := by
  unfold pileV
  rw [if_neg (by omega)]
  congr 1
theorem pile_fold {s : Sht} {f : Stp} {c r : Nat} (hc : c < colsV s f) (hr : r < rowsV s f) : pileV (foldV s f) c r = foldP s f c r := by
  rw [pile_at (s := foldV s f) hc hr]
  exact grid_at _ hr hc
theorem foldP_meas {φ : List Leaf → Nat} (hm : Meas φ) (s : Sht) (f : Stp) (c r : Int) : φ (foldP s f c r) = φ (movP s f c r) + φ (fixP s f c r) := by
  unfold foldP
  split <;> rw [hm.app, hm.flip]
  omega
/-- A fold that is allowed. -/
def StepOk (s : Sht) (f : Stp) : Prop := 0 ≤ f.side ∧ f.side ≤ 3 ∧ 1 ≤ f.line ∧ f.line < extV s f
instance (s : Sht) (f : Stp) : Decidable (StepOk s f) := by unfold StepOk; infer_instance
/-- The sum along the folded direction. -/
theorem halves_row {φ : List Leaf → Nat} (S L n : Nat) (hL : L ≤ n) (hS : S = max L (n - L)) (first : Bool) (G : Int → Nat) (hneg : ∀ x, x < 0 → G x = 0) (hbig : ∀ x, (n : Int) ≤ x → G x = 0) (A B : Int → Nat)
    (hA : ∀ c : Nat, c < S → A c = if first = true then G ((L : Int) - 1 - c) else G ((L : Int) + ((S : Int) - 1 - c)))
    (hB : ∀ c : Nat, c < S → B c = if first = true then G ((L : Int) + c) else G ((L : Int) - 1 - ((S : Int) - 1 - c))) :
    sumTo S (fun c => A c + B c) = sumTo n (fun j => G j) := by
  rw [← sumTo_halves L n S hL hS G hneg hbig]
  cases first with
  | true => exact sumTo_congr fun c hc => by rw [hA c hc, hB c hc]; rfl
  | false =>
    rw [← sumTo_rev S (fun i => G ((L : Int) - 1 - i) + G ((L : Int) + i))]
    refine sumTo_congr fun c hc => ?_
    rw [hA c hc, hB c hc]
    have e : (((S - 1 - c : Nat) : Int)) = (S : Int) - 1 - c := by omega
    simp only [Bool.false_eq_true, if_false, e]
    omega
theorem size_nat {s : Sht} {f : Stp} (h : StepOk s f) : ∃ L : Nat, f.line = L ∧ 1 ≤ L ∧ L < extV s f ∧ sizeV s f = (max L (extV s f - L) : Nat) := by
  obtain ⟨_, _, h1, h2⟩ := h
  refine ⟨f.line.toNat, by omega, by omega, by omega, ?_⟩
  unfold sizeV
  omega
theorem tot_fold {φ : List Leaf → Nat} (hm : Meas φ) {s : Sht} {f : Stp} (h : StepOk s f) : totV φ (foldV s f) = totV φ s := by
  obtain ⟨L, hL, hL1, hL2, hS⟩ := size_nat h
  have e0 : totV φ (foldV s f) = sumTo (rowsV s f) (fun r => sumTo (colsV s f) (fun c => φ (movP s f c r) + φ (fixP s f c r))) := by
    unfold totV
    refine sumTo_congr fun r hr => sumTo_congr fun c hc => ?_
    rw [pile_fold hc hr, foldP_meas hm]
  rw [e0]
  cases ha : acrossV f with
  | true =>
    have hx : extV s f = s.cols := by unfold extV; rw [if_pos ha]
    have hc : colsV s f = max L (s.cols - L) := by unfold colsV; rw [if_pos ha, hS, hx]; rfl
    have hr : rowsV s f = s.rows := by unfold rowsV; rw [if_pos ha]
    rw [hc, hr]
    unfold totV
    refine sumTo_congr fun r hrr => ?_
    refine halves_row (φ := φ) _ L s.cols (by omega) rfl (firstV f) (fun x => φ (pileV s x r)) ?_ ?_ (fun c => φ (movP s f c r)) (fun c => φ (fixP s f c r)) ?_ ?_
    · intro x hx; unfold pileV; rw [if_pos (.inl hx)]; exact hm.nil
    · intro x hx; unfold pileV; rw [if_pos (.inr (.inr (.inl hx)))]; exact hm.nil
    · intro c hc
      unfold movP movV posV
      rw [if_pos ha, if_pos ha, hS, hL, hx]
      split <;> rfl
    · intro c hc
      unfold fixP fixV posV
      rw [if_pos ha, if_pos ha, hS, hL, hx]
      split <;> rfl
  | false =>
    have ha' : ¬ acrossV f = true := by rw [ha]; decide
    have hx : extV s f = s.rows := by unfold extV; rw [if_neg ha']
    have hc : colsV s f = s.cols := by unfold colsV; rw [if_neg ha']
    have hr : rowsV s f = max L (s.rows - L) := by unfold rowsV; rw [if_neg ha', hS, hx]; rfl
    rw [hc, hr, sumTo_comm]
    unfold totV
    rw [sumTo_comm s.rows]
    refine sumTo_congr fun c hcc => ?_
    refine halves_row (φ := φ) _ L s.rows (by omega) rfl (firstV f) (fun x => φ (pileV s c x)) ?_ ?_ (fun r => φ (movP s f c r)) (fun r => φ (fixP s f c r)) ?_ ?_
    · intro x hx; unfold pileV; rw [if_pos (.inr (.inl hx))]; exact hm.nil
    · intro x hx; unfold pileV; rw [if_pos (.inr (.inr (.inr hx)))]; exact hm.nil
    · intro r hr
      unfold movP movV posV
      rw [if_neg ha', if_neg ha', hS, hL, hx]
      split <;> rfl
    · intro r hr
      unfold fixP fixV posV
      rw [if_neg ha', if_neg ha', hS, hL, hx]
      split <;> rfl
theorem wf_fold {s : Sht} {f : Stp} (hw : WfS s) (h : StepOk s f) : WfS (foldV s f) := by
  obtain ⟨L, hL, hL1, hL2, hS⟩ := size_nat h
  obtain ⟨_, h1, h2⟩ := hw
  refine ⟨grid_len _ _ _, ?_, ?_⟩
  · show 0 < colsV s f
    unfold colsV
    split
    · rw [hS]; omega
    · exact h1
  · show 0 < rowsV s f
    unfold rowsV
    split
    · exact h2
    · rw [hS]; omega
theorem wf_flat {s : Sch} (hc : 1 ≤ s.cols) (hr : 1 ≤ s.rows) : WfS (flatV s) := ⟨grid_len s.rows.toNat s.cols.toNat (fun c r => [⟨c, r, false, false⟩]), by show 0 < s.cols.toNat; omega, by show 0 < s.rows.toNat; omega⟩
/-- All leaves are on the sheet. -/
def InS (C R : Int) (l : List Leaf) : Prop := ∀ x ∈ l, 0 ≤ x.col ∧ x.col < C ∧ 0 ≤ x.row ∧ x.row < R
def AllIn (C R : Int) (s : Sht) : Prop := ∀ c r : Int, InS C R (pileV s c r)
theorem in_flip {C R : Int} {l : List Leaf} (h : InS C R l) (b : Bool) : InS C R (flipV b l) := by
  intro x hx
  unfold flipV at hx
  obtain ⟨y, hy, rfl⟩ := List.mem_map.1 hx
  have := h y (List.mem_reverse.1 hy)
  unfold flip1
  split <;> exact this
theorem in_app {C R : Int} {a b : List Leaf} (ha : InS C R a) (hb : InS C R b) : InS C R (a ++ b) := by
  intro x hx
  rcases List.mem_append.1 hx with h | h
  · exact ha x h
  · exact hb x h
theorem pile_cases (s : Sht) (c r : Int) : pileV s c r = [] ∨ ∃ c' r' : Nat, c = c' ∧ r = r' ∧ c' < s.cols ∧ r' < s.rows := by
  unfold pileV
  split
  · exact .inl rfl
  · exact .inr ⟨c.toNat, r.toNat, by omega, by omega, by omega, by omega⟩
theorem in_fold {C R : Int} {s : Sht} {f : Stp} (h : AllIn C R s) : AllIn C R (foldV s f) := by
  intro c r
  rcases pile_cases (foldV s f) c r with e | ⟨c', r', rfl, rfl, hc, hr⟩
  · rw [e]; intro x hx; cases hx
  · rw [pile_fold hc hr]
    have h1 : InS C R (movP s f c' r') := by unfold movP; split <;> exact h _ _
    have h2 : InS C R (fixP s f c' r') := by unfold fixP; split <;> exact h _ _
    unfold foldP
    split
    · exact in_app (in_flip h1 _) h2
    · exact in_app h2 (in_flip h1 _)
theorem flat_pile {s : Sch} {c r : Nat} (hc : c < s.cols.toNat) (hr : r < s.rows.toNat) : pileV (flatV s) c r = [⟨c, r, false, false⟩] := by
  rw [pile_at (s := flatV s) hc hr]
  exact grid_at (fun c r => [⟨c, r, false, false⟩]) hr hc
theorem in_flat (s : Sch) : AllIn s.cols s.rows (flatV s) := by
  intro c r
  rcases pile_cases (flatV s) c r with e | ⟨c', r', rfl, rfl, hc, hr⟩
  · rw [e]; intro x hx; cases hx
  · have hc' : c' < s.cols.toNat := hc
    have hr' : r' < s.rows.toNat := hr
    rw [flat_pile hc' hr']
    intro x hx
    obtain rfl := List.mem_singleton.1 hx
    exact ⟨by show (0 : Int) ≤ c'; omega, by show (c' : Int) < s.cols; omega, by show (0 : Int) ≤ r'; omega, by show (r' : Int) < s.rows; omega⟩
/-- The folds, one after the other; none where one is refused. -/
def runF : Sht → List Stp → Option Sht
  | s, [] => some s
  | s, f :: r => if StepOk s f then runF (foldV s f) r else none
theorem runF_append (s : Sht) (a b : List Stp) : runF s (a ++ b) = (runF s a).bind fun x => runF x b := by
  induction a generalizing s with
  | nil => rfl
  | cons f r ih =>
    simp only [List.cons_append, runF]
    split
    · exact ih _
    · rfl
theorem runF_snoc (s : Sht) (a : List Stp) (f : Stp) {x : Sht} (h : runF s a = some x) : runF s (a ++ [f]) = if StepOk x f then some (foldV x f) else none := by
  rw [runF_append, h]
  rfl
/-- What all folds together keep. -/
structure Kept (sc : Sch) (x : Sht) : Prop where
  wf : WfS x
  ins : AllIn sc.cols sc.rows x
  tot : ∀ φ, Meas φ → totV φ x = totV φ (flatV sc)
theorem kept_flat {sc : Sch} (hc : 1 ≤ sc.cols) (hr : 1 ≤ sc.rows) : Kept sc (flatV sc) := ⟨wf_flat hc hr, in_flat sc, fun _ _ => rfl⟩
theorem kept_fold {sc : Sch} {x : Sht} {f : Stp} (h : Kept sc x) (hs : StepOk x f) : Kept sc (foldV x f) :=
  ⟨wf_fold h.wf hs, in_fold h.ins, fun φ hm => by rw [tot_fold hm hs]; exact h.tot φ hm⟩
theorem kept_run {sc : Sch} : ∀ (l : List Stp) (x y : Sht), Kept sc x → runF x l = some y → Kept sc y
  | [], x, y, h, e => by cases e; exact h
  | f :: r, x, y, h, e => by
    simp only [runF] at e
    split at e
    · rename_i hs
      exact kept_run r _ _ (kept_fold h hs) e
    · cases e
theorem tot_flat_len (sc : Sch) : totV List.length (flatV sc) = sc.rows.toNat * sc.cols.toNat := by
  have e : totV List.length (flatV sc) = sumTo (sc.rows.toNat * sc.cols.toNat) (fun _ => 1) := by
    rw [sumTo_grid]
    unfold totV
    exact sumTo_congr fun r hr => sumTo_congr fun c hc => by rw [flat_pile hc hr]; rfl
  rw [e]
  generalize sc.rows.toNat * sc.cols.toNat = n
  induction n with
  | zero => rfl
  | succ n ih => simp only [sumTo]; rw [ih]
theorem tot_flat_count {sc : Sch} {c r : Int} (h : 0 ≤ c ∧ c < sc.cols ∧ 0 ≤ r ∧ r < sc.rows) : totV (fun l => l.countP (atB c r)) (flatV sc) = 1 := by
  have hr : r.toNat < sc.rows.toNat := by omega
  have hc : c.toNat < sc.cols.toNat := by omega
  unfold totV
  refine sumTo_one (i := r.toNat) hr ?_ ?_
  · refine sumTo_one (i := c.toNat) hc ?_ ?_
    · rw [flat_pile hc hr]
      have h1 : atB c r ⟨c.toNat, r.toNat, false, false⟩ = true := by unfold atB; simp; omega
      dsimp only; rw [List.countP_cons, if_pos h1]; rfl
    · intro j hj hne
      rw [flat_pile hj hr]
      have h1 : atB c r ⟨j, r.toNat, false, false⟩ = false := by unfold atB; simp; omega
      dsimp only; rw [List.countP_cons, if_neg (by rw [h1]; decide)]; rfl
  · intro j hj hne
    refine sumTo_zero fun i hi => ?_
    rw [flat_pile hi hj]
    have h1 : atB c r ⟨i, j, false, false⟩ = false := by unfold atB; simp; omega
    dsimp only; rw [List.countP_cons, if_neg (by rw [h1]; decide)]; rfl
/-- No pile is higher than there are leaves. -/
theorem sumTo_le {n i : Nat} (hi : i < n) (g : Nat → Nat) : g i ≤ sumTo n g := by
  induction n with
  | zero => omega
  | succ n ih =>
    simp only [sumTo]
    by_cases e : i = n
    · subst e; omega
    · have := ih (by omega); omega
theorem kept_pile {sc : Sch} {x : Sht} (h : Kept sc x) (c r : Int) : (pileV x c r).length ≤ sc.rows.toNat * sc.cols.toNat := by
  rw [← tot_flat_len, ← h.tot _ meas_length]
  rcases pile_cases x c r with e | ⟨c', r', rfl, rfl, hc, hr⟩
  · rw [e]; simp
  · unfold totV
    exact Nat.le_trans (sumTo_le (g := fun c => (pileV x c r').length) hc) (sumTo_le (g := fun r => sumTo x.cols fun c => (pileV x c r).length) hr)
/-- The one pile of a sheet that is folded up. -/
def lastP (x : Sht) : List Leaf := pileV x 0 0
theorem last_tot {φ : List Leaf → Nat} {x : Sht} (hc : x.cols = 1) (hr : x.rows = 1) : totV φ x = φ (lastP x) := by
  unfold totV lastP
  rw [hc, hr]
  simp [sumTo]
theorem last_len {sc : Sch} {x : Sht} (h : Kept sc x) (hc : x.cols = 1) (hr : x.rows = 1) : (lastP x).length = sc.rows.toNat * sc.cols.toNat := by
  rw [← last_tot (φ := List.length) hc hr, h.tot _ meas_length, tot_flat_len]
theorem last_one {sc : Sch} {x : Sht} (h : Kept sc x) (hc : x.cols = 1) (hr : x.rows = 1) {i j : Nat} (hi : i < (lastP x).length) (hj : j < (lastP x).length) (hne : i ≠ j) :
    (lastP x)[i].col ≠ (lastP x)[j].col ∨ (lastP x)[i].row ≠ (lastP x)[j].row := by
  rcases Classical.em ((lastP x)[i].col = (lastP x)[j].col) with e1 | e1
  · rcases Classical.em ((lastP x)[i].row = (lastP x)[j].row) with e2 | e2
    · exfalso
      have hin := h.ins 0 0 _ (List.getElem_mem hi)
      have h1 := last_tot (φ := fun l => l.countP (atB (lastP x)[i].col (lastP x)[i].row)) hc hr
      rw [h.tot _ (meas_count _ _), tot_flat_count hin] at h1
      have key : ∀ (l : List Leaf) (p : Leaf → Bool) (i j : Nat) (hi : i < l.length) (hj : j < l.length), i < j → p l[i] = true → p l[j] = true → 2 ≤ l.countP p := by
        intro l p i j hi hj hij h1 h2
        have e : l = l.take j ++ l.drop j := (List.take_append_drop j l).symm
        rw [e, List.countP_append]
        have a1 : 0 < (l.take j).countP p := List.countP_pos_iff.2 ⟨l[i], by rw [List.mem_iff_getElem]; exact ⟨i, by rw [List.length_take]; omega, by simp⟩, h1⟩
        have a2 : 0 < (l.drop j).countP p := List.countP_pos_iff.2 ⟨l[j], by rw [List.mem_iff_getElem]; exact ⟨0, by rw [List.length_drop]; omega, by simp⟩, h2⟩
        omega
      have p1 : atB (lastP x)[i].col (lastP x)[i].row (lastP x)[i] = true := by unfold atB; simp
      have p2 : atB (lastP x)[i].col (lastP x)[i].row (lastP x)[j] = true := by unfold atB; rw [decide_eq_true_iff]; exact ⟨e1.symm, e2.symm⟩
      rcases Nat.lt_or_gt_of_ne hne with hlt | hlt
      · have := key _ _ i j hi hj hlt p1 p2; omega
      · have := key _ _ j i hj hi hlt p2 p1; omega
    · exact .inr e2
  · exact .inl e1
end Go.Proofs.Ytdblibjmgamjeaa
namespace Go.Proofs.Ytdblibjmgamjeaa
set_option linter.unusedVariables false
structure Pg where
  back : Bool
  col : Int
  row : Int
  turn : Int
def turnV (side : Int) : Int := if side = 0 then 0 else if side = 1 then 2 else if side = 2 then 1 else 3
def sideV (sc : Sch) : Int := match sc.steps.getLast? with | none => 0 | some f => f.side
def pg1 (C t : Int) (x : Leaf) (back half : Bool) : Pg := ⟨back, if back = true then C - 1 - x.col else x.col, x.row, if half = true then (t + 2) % 4 else t⟩
def pgA (C t : Int) (x : Leaf) : Pg := pg1 C t x (x.fx != x.fy) x.fy
def pgB (C t : Int) (x : Leaf) : Pg := pg1 C t x (!(x.fx != x.fy)) (x.fy != (t % 2 == 1))
def pagesOf (C t : Int) (l : List Leaf) : List Pg := l.flatMap fun x => [pgA C t x, pgB C t x]
def SchIn (sc : Sch) : Prop := 1 ≤ sc.cols ∧ sc.cols ≤ 8 ∧ 1 ≤ sc.rows ∧ sc.rows ≤ 8 ∧ sc.cols * sc.rows ≤ 32 ∧ sc.steps.length ≤ 8
instance (sc : Sch) : Decidable (SchIn sc) := by unfold SchIn; infer_instance
/-- The sheet behind all folds; none where the layout is refused. -/
def endV (sc : Sch) : Option Sht := if SchIn sc then runF (flatV sc) sc.steps else none
/-- The layout is good, and folded up behind its folds. -/
structure Folded (sc : Sch) (x : Sht) : Prop where
  inn : SchIn sc
  run : runF (flatV sc) sc.steps = some x
  c1 : x.cols = 1
  r1 : x.rows = 1
theorem Folded.kept {sc : Sch} {x : Sht} (h : Folded sc x) : Kept sc x := kept_run _ _ _ (kept_flat h.inn.1 h.inn.2.2.1) h.run
def pagesV (sc : Sch) (x : Sht) : List Pg := pagesOf sc.cols (turnV (sideV sc)) (lastP x)
/-- How many leaves a sheet has. -/
def leavesV (sc : Sch) : Nat := sc.rows.toNat * sc.cols.toNat
theorem turnV_bd (s : Int) : 0 ≤ turnV s ∧ turnV s < 4 := by unfold turnV; split <;> (try split) <;> (try split) <;> omega
theorem pagesOf_len (C t : Int) (l : List Leaf) : (pagesOf C t l).length = 2 * l.length := by
  unfold pagesOf
  induction l with
  | nil => rfl
  | cons x l ih => rw [List.flatMap_cons, List.length_append, ih]; simp; omega
theorem pagesOf_at (C t : Int) : ∀ (l : List Leaf) (i : Nat) (h : i < l.length), (pagesOf C t l)[2 * i]? = some (pgA C t l[i]) ∧ (pagesOf C t l)[2 * i + 1]? = some (pgB C t l[i])
  | x :: l, 0, _ => ⟨rfl, rfl⟩
  | x :: l, i + 1, h => by
    have ih := pagesOf_at C t l i (by simpa using h)
    have e : pagesOf C t (x :: l) = pgA C t x :: pgB C t x :: pagesOf C t l := rfl
    rw [e, show 2 * (i + 1) = 2 * i + 1 + 1 by omega]
    simpa using ih
theorem pages_snoc (C t : Int) (l : List Leaf) (k : Nat) (h : k < l.length) : pagesOf C t (l.take (k + 1)) = pagesOf C t (l.take k) ++ [pgA C t l[k]] ++ [pgB C t l[k]] := by
  unfold pagesOf
  rw [List.take_succ_eq_append_getElem h, List.flatMap_append]
  simp
section
variable {sc : Sch} {x : Sht}
theorem Folded.len (h : Folded sc x) : (lastP x).length = leavesV sc := last_len h.kept h.c1 h.r1
theorem Folded.plen (h : Folded sc x) : (pagesV sc x).length = 2 * leavesV sc := by unfold pagesV; rw [pagesOf_len, h.len]
theorem leaves_bd (h : SchIn sc) : 1 ≤ leavesV sc ∧ leavesV sc ≤ 32 ∧ (leavesV sc : Int) = sc.cols * sc.rows := by
  obtain ⟨c1, c8, r1, r8, hm, -⟩ := h
  obtain ⟨c, hc⟩ : ∃ c : Nat, sc.cols = c := ⟨sc.cols.toNat, by omega⟩
  obtain ⟨r, hr⟩ : ∃ r : Nat, sc.rows = r := ⟨sc.rows.toNat, by omega⟩
  unfold leavesV
  rw [hc] at c1 c8 hm
  rw [hr] at r1 r8 hm
  rw [hc, hr]
  have e : ((r : Int).toNat * (c : Int).toNat) = r * c := by simp
  rw [e]
  have e2 : ((r * c : Nat) : Int) = (c : Int) * r := by rw [Int.natCast_mul, Int.mul_comm]
  have : 0 < r * c := Nat.mul_pos (by omega) (by omega)
  omega
/-- Page i of the list (counted from 0). -/
theorem Folded.page (h : Folded sc x) {i : Nat} (hi : i < (pagesV sc x).length) : ∃ (hl : i / 2 < (lastP x).length), (pagesV sc x)[i] = if i % 2 = 0 then pgA sc.cols (turnV (sideV sc)) (lastP x)[i / 2] else pgB sc.cols (turnV (sideV sc)) (lastP x)[i / 2] := by
  have hn := h.plen
  have hl := h.len
  refine ⟨by omega, ?_⟩
  have ha := pagesOf_at sc.cols (turnV (sideV sc)) (lastP x) (i / 2) (by omega)
  rcases Nat.mod_two_eq_zero_or_one i with e | e
  · rw [if_pos e]
    have e1 : 2 * (i / 2) = i := by omega
    have := ha.1
    rw [e1] at this
    exact (List.getElem?_eq_some_iff.1 this).2
  · rw [if_neg (by omega)]
    have e1 : 2 * (i / 2) + 1 = i := by omega
    have := ha.2
    rw [e1] at this
    exact (List.getElem?_eq_some_iff.1 this).2
/-- The direction of a page: upright or lying, as all pages of the sheet. -/
structure PgIn (C R t0 : Int) (p : Pg) : Prop where
  c : 0 ≤ p.col ∧ p.col < C
  r : 0 ≤ p.row ∧ p.row < R
  t : 0 ≤ p.turn ∧ p.turn < 4
  par : p.turn % 2 = t0 % 2
theorem pg1_in {C R t : Int} (ht : 0 ≤ t ∧ t < 4) {y : Leaf} (hy : 0 ≤ y.col ∧ y.col < C ∧ 0 ≤ y.row ∧ y.row < R) (back half : Bool) : PgIn C R t (pg1 C t y back half) := by
  refine ⟨?_, ⟨hy.2.2.1, hy.2.2.2⟩, ?_, ?_⟩
  · show 0 ≤ (if back = true then C - 1 - y.col else y.col) ∧ (if back = true then C - 1 - y.col else y.col) < C
    split <;> omega
  · show 0 ≤ (if half = true then (t + 2) % 4 else t) ∧ (if half = true then (t + 2) % 4 else t) < 4
    split <;> omega
  · show (if half = true then (t + 2) % 4 else t) % 2 = t % 2
    split <;> omega
theorem Folded.pgin (h : Folded sc x) {i : Nat} (hi : i < (pagesV sc x).length) : PgIn sc.cols sc.rows (turnV (sideV sc)) (pagesV sc x)[i] := by
  obtain ⟨hl, e⟩ := h.page hi
  rw [e]
  have hin := h.kept.ins 0 0 _ (List.getElem_mem hl)
  split <;> exact pg1_in (turnV_bd _) hin _ _
theorem Folded.first (h : Folded sc x) : ∃ (h0 : 0 < (pagesV sc x).length), (pagesV sc x)[0].turn % 2 = turnV (sideV sc) % 2 := by
  have h1 := h.plen
  have h2 := leaves_bd h.inn
  exact ⟨by omega, (h.pgin (by omega)).par⟩
/-- Two pages of one side of the sheet lie in different places. -/
theorem Folded.apart (h : Folded sc x) {i j : Nat} (hi : i < (pagesV sc x).length) (hj : j < (pagesV sc x).length) (hne : i ≠ j) (hb : (pagesV sc x)[i].back = (pagesV sc x)[j].back) :
    (pagesV sc x)[i].col ≠ (pagesV sc x)[j].col ∨ (pagesV sc x)[i].row ≠ (pagesV sc x)[j].row := by
  obtain ⟨hli, ei⟩ := h.page hi
  obtain ⟨hlj, ej⟩ := h.page hj
  rw [ei, ej] at hb
  rw [ei, ej]
  clear ei ej
  by_cases e : i / 2 = j / 2
  · exfalso
    have hij : i % 2 ≠ j % 2 := by omega
    have : (lastP x)[i / 2] = (lastP x)[j / 2] := by congr 1
    rw [this] at hb
    rcases Nat.mod_two_eq_zero_or_one i with e1 | e1 <;> rcases Nat.mod_two_eq_zero_or_one j with e2 | e2
    · omega
    · rw [if_pos e1, if_neg (by omega)] at hb
      simp [pgA, pgB, pg1] at hb
    · rw [if_neg (by omega), if_pos e2] at hb
      simp [pgA, pgB, pg1] at hb
    · omega
  · have hd := last_one h.kept h.c1 h.r1 hli hlj e
    generalize (lastP x)[i / 2] = a at *
    generalize (lastP x)[j / 2] = b at *
    have key : ∀ (ba ha bb hb' : Bool), ba = bb → (pg1 sc.cols (turnV (sideV sc)) a ba ha).col ≠ (pg1 sc.cols (turnV (sideV sc)) b bb hb').col ∨ (pg1 sc.cols (turnV (sideV sc)) a ba ha).row ≠ (pg1 sc.cols (turnV (sideV sc)) b bb hb').row := by
      rintro ba ha _ hb' rfl
      unfold pg1
      simp only
      cases ba <;> simp <;> omega
    have hb1 : ∀ t : Int, ∀ y : Leaf, (pgA sc.cols t y).back = (y.fx != y.fy) ∧ (pgB sc.cols t y).back = !(y.fx != y.fy) := fun t y => ⟨rfl, rfl⟩
    split at hb <;> split at hb <;> (rename_i e1 e2; simp only [e1, e2, if_true, if_false, (hb1 _ _).1, (hb1 _ _).2] at hb ⊢; exact key _ _ _ _ hb)
end
/-! ### Boxes -/
structure Bx where
  fw : Int
  fh : Int
  x : Int
  y : Int
  w : Int
  h : Int
def turn1 (b : Bx) : Bx := ⟨b.fh, b.fw, b.fh - b.y - b.h, b.x, b.h, b.w⟩
def turnB (b : Bx) : Nat → Bx
  | 0 => b
  | k + 1 => turnB (turn1 b) k
structure InF (b : Bx) : Prop where
  x0 : 0 ≤ b.x
  x1 : b.x + b.w ≤ b.fw
  y0 : 0 ≤ b.y
  y1 : b.y + b.h ≤ b.fh
theorem InF.turn1 {b : Bx} (h : InF b) : InF (turn1 b) := by
  obtain ⟨a, b', c, d⟩ := h
  exact ⟨by show 0 ≤ b.fh - b.y - b.h; omega, by show b.fh - b.y - b.h + b.h ≤ b.fh; omega, a, b'⟩
theorem InF.turnB {b : Bx} (h : InF b) (k : Nat) : InF (turnB b k) := by
  induction k generalizing b with
  | zero => exact h
  | succ k ih => exact ih h.turn1
/-! ### Layouts -/
structure Lay where
  sc : Sch
  w : Int
  h : Int
  head : Int
  fore : Int
  spine : Int
  margin : Int
  creep : Int
  style : Int
/-- Whether the leaves lie on the sheet. -/
def lies (l : Lay) : Bool := turnV (sideV l.sc) % 2 == 1
def leafW (l : Lay) : Int := if lies l = true then l.h + 2 * l.head else l.w + l.fore + l.spine
def leafH (l : Lay) : Int := if lies l = true then l.w + l.fore + l.spine else l.h + 2 * l.head
def oneW (l : Lay) : Int := 2 * l.margin + l.sc.cols * leafW l
def oneH (l : Lay) : Int := 2 * l.margin + l.sc.rows * leafH l
def fullW (l : Lay) : Int := if l.style = 1 then oneW l * 2 else oneW l
def fullH (l : Lay) : Int := if l.style = 2 then oneH l * 2 else oneH l
structure Good (l : Lay) (x : Sht) : Prop where
  f : Folded l.sc x
  w : 1 ≤ l.w ∧ l.w ≤ 256
  h : 1 ≤ l.h ∧ l.h ≤ 256
  head : 0 ≤ l.head ∧ l.head ≤ 64
  fore : 0 ≤ l.fore ∧ l.fore ≤ 64
  spine : 0 ≤ l.spine ∧ l.spine ≤ 64
  margin : 0 ≤ l.margin ∧ l.margin ≤ 64
  creep : 0 ≤ l.creep ∧ l.creep ≤ 8
  style : 0 ≤ l.style ∧ l.style ≤ 2
  fit : (l.sc.cols * l.sc.rows - 1) / 2 * l.creep ≤ l.spine
  large : fullW l ≤ 1024 ∧ fullH l ≤ 1024
/-- The inner space of a page (counted from 1). -/
def depthV (leaf n : Int) : Int := min leaf (n - 1 - leaf)
def innerV (l : Lay) (page : Int) : Int := l.spine - l.creep * depthV ((page - 1) / 2) (l.sc.cols * l.sc.rows)
def box0 (l : Lay) (page : Int) : Bx := ⟨l.w + l.fore + l.spine, l.h + 2 * l.head, if page % 2 = 0 then l.w + l.fore + l.spine - innerV l page - l.w else innerV l page, l.head, l.w, l.h⟩
def placeV (l : Lay) (page : Int) (p : Pg) : Bx :=
  let b := turnB (box0 l page) p.turn.toNat
  ⟨oneW l, oneH l, l.margin + p.col * leafW l + b.x, l.margin + p.row * leafH l + b.y, b.w, b.h⟩
theorem inner_bd {l : Lay} {x : Sht} (h : Good l x) {page : Int} (h1 : 1 ≤ page) (h2 : (page - 1) / 2 < l.sc.cols * l.sc.rows) : 0 ≤ innerV l page ∧ innerV l page ≤ l.spine := by
  have hd : 0 ≤ depthV ((page - 1) / 2) (l.sc.cols * l.sc.rows) ∧ depthV ((page - 1) / 2) (l.sc.cols * l.sc.rows) ≤ (l.sc.cols * l.sc.rows - 1) / 2 := by
    unfold depthV
    omega
  have hm := Int.mul_le_mul_of_nonneg_left hd.2 h.creep.1
  have hm0 := Int.mul_nonneg h.creep.1 hd.1
  have hf := h.fit
  rw [Int.mul_comm] at hf
  unfold innerV
  omega
theorem box0_in {l : Lay} {x : Sht} (h : Good l x) {page : Int} (h1 : 1 ≤ page) (h2 : (page - 1) / 2 < l.sc.cols * l.sc.rows) : InF (box0 l page) := by
  have hi := inner_bd h h1 h2
  have a1 := h.w; have a2 := h.h; have a3 := h.head; have a4 := h.fore; have a5 := h.spine
  unfold box0
  refine ⟨?_, ?_, ?_, ?_⟩ <;> dsimp only <;> (try split) <;> omega
theorem turnB_frame (b : Bx) : ∀ k : Nat, (turnB b k).fw = (if k % 2 = 1 then b.fh else b.fw) ∧ (turnB b k).fh = (if k % 2 = 1 then b.fw else b.fh) ∧ (turnB b k).w = (if k % 2 = 1 then b.h else b.w) ∧ (turnB b k).h = (if k % 2 = 1 then b.w else b.h) := by
  intro k
  induction k generalizing b with
  | zero => exact ⟨rfl, rfl, rfl, rfl⟩
  | succ k ih =>
    have := ih (turn1 b)
    show (turnB (turn1 b) k).fw = _ ∧ (turnB (turn1 b) k).fh = _ ∧ (turnB (turn1 b) k).w = _ ∧ (turnB (turn1 b) k).h = _
    rw [this.1, this.2.1, this.2.2.1, this.2.2.2]
    rcases Nat.mod_two_eq_zero_or_one k with e | e
    · have e2 : (k + 1) % 2 = 1 := by omega
      simp only [e, e2]
      exact ⟨rfl, rfl, rfl, rfl⟩
    · have e2 : (k + 1) % 2 = 0 := by omega
      simp only [e, e2]
      exact ⟨rfl, rfl, rfl, rfl⟩
/-- A page lies in its leaf, and its leaf on the sheet. -/
structure InLeaf (l : Lay) (p : Pg) (b : Bx) : Prop where
  x0 : l.margin + p.col * leafW l ≤ b.x
  x1 : b.x + b.w ≤ l.margin + (p.col + 1) * leafW l
  y0 : l.margin + p.row * leafH l ≤ b.y
  y1 : b.y + b.h ≤ l.margin + (p.row + 1) * leafH l
theorem place_leaf {l : Lay} {x : Sht} (h : Good l x) {page : Int} (h1 : 1 ≤ page) (h2 : (page - 1) / 2 < l.sc.cols * l.sc.rows) {p : Pg} (hp : PgIn l.sc.cols l.sc.rows (turnV (sideV l.sc)) p) : InLeaf l p (placeV l page p) := by
  have hin := (box0_in h h1 h2).turnB p.turn.toNat
  have hfr := turnB_frame (box0 l page) p.turn.toNat
  have ht := hp.t
  have hpar : (p.turn.toNat % 2 = 1) ↔ lies l = true := by
    unfold lies
    rw [beq_iff_eq, ← hp.par]
    omega
  have e1 : (turnB (box0 l page) p.turn.toNat).fw = leafW l := by
    rw [hfr.1]
    unfold leafW
    by_cases e : p.turn.toNat % 2 = 1
    · rw [if_pos e, if_pos (hpar.1 e)]; rfl
    · rw [if_neg e, if_neg fun e2 => e (hpar.2 e2)]; rfl
  have e2 : (turnB (box0 l page) p.turn.toNat).fh = leafH l := by
    rw [hfr.2.1]
    unfold leafH
    by_cases e : p.turn.toNat % 2 = 1
    · rw [if_pos e, if_pos (hpar.1 e)]; rfl
    · rw [if_neg e, if_neg fun e2 => e (hpar.2 e2)]; rfl
  obtain ⟨x0, x1, y0, y1⟩ := hin
  rw [e1] at x1
  rw [e2] at y1
  unfold placeV
  refine ⟨?_, ?_, ?_, ?_⟩ <;> dsimp only
  · omega
  · rw [Int.add_mul]; omega
  · omega
  · rw [Int.add_mul]; omega
theorem leaf_pos {l : Lay} {x : Sht} (h : Good l x) : 1 ≤ leafW l ∧ 1 ≤ leafH l := by
  have a1 := h.w; have a2 := h.h; have a3 := h.head; have a4 := h.fore; have a5 := h.spine
  unfold leafW leafH
  split <;> omega
/-- A page lies on the sheet with one copy. -/
structure InOne (l : Lay) (b : Bx) : Prop where
  x0 : 0 ≤ b.x
  x1 : b.x + b.w ≤ oneW l
  y0 : 0 ≤ b.y
  y1 : b.y + b.h ≤ oneH l
theorem place_one {l : Lay} {x : Sht} (h : Good l x) {page : Int} (h1 : 1 ≤ page) (h2 : (page - 1) / 2 < l.sc.cols * l.sc.rows) {p : Pg} (hp : PgIn l.sc.cols l.sc.rows (turnV (sideV l.sc)) p) : InOne l (placeV l page p) := by
  obtain ⟨x0, x1, y0, y1⟩ := place_leaf h h1 h2 hp
  obtain ⟨pw, ph⟩ := leaf_pos h
  have hm := h.margin
  have c0 := Int.mul_nonneg hp.c.1 (show 0 ≤ leafW l by omega)
  have c1 := Int.mul_le_mul_of_nonneg_right (show p.col + 1 ≤ l.sc.cols by have := hp.c.2; omega) (show 0 ≤ leafW l by omega)
  have r0 := Int.mul_nonneg hp.r.1 (show 0 ≤ leafH l by omega)
  have r1 := Int.mul_le_mul_of_nonneg_right (show p.row + 1 ≤ l.sc.rows by have := hp.r.2; omega) (show 0 ≤ leafH l by omega)
  exact ⟨by omega, by unfold oneW; omega, by omega, by unfold oneH; omega⟩
theorem place_size (l : Lay) (page : Int) {p : Pg} : (placeV l page p).w = (if p.turn.toNat % 2 = 1 then l.h else l.w) ∧ (placeV l page p).h = (if p.turn.toNat % 2 = 1 then l.w else l.h) := by
  have hfr := turnB_frame (box0 l page) p.turn.toNat
  exact ⟨hfr.2.2.1, hfr.2.2.2⟩
end Go.Proofs.Ytdblibjmgamjeaa
namespace Go.Proofs.Ytdblibjmgamjeaa
open Go.RowKit
set_option linter.unusedVariables false
def encLeaf (x : Leaf) : List Value := [.int .i64 x.col, .int .i64 x.row, .bool x.fx, .bool x.fy]
def encStp (f : Stp) : List Value := [.int .i64 f.side, .int .i64 f.line, .bool f.over]
def stpV (f : Stp) : Value := .agg #[.int .i64 f.side, .int .i64 f.line, .bool f.over]
def shtV (s : Sht) (v : Value) : Value := .agg #[.int .i64 s.cols, .int .i64 s.rows, v]
/-- A slice of piles. -/
def PilesAt (w : World) (v : Value) (ps : List (List Leaf)) : Prop := ∃ oa cap, v = .slice oa ps.length cap ∧ ps.length ≤ 100000 ∧ Rows1 w 4 encLeaf oa ps
theorem PilesAt.below {w w' : World} {v : Value} {ps : List (List Leaf)} (h : PilesAt w v ps) (hb : Below w.heap.size w w') : PilesAt w' v ps := by
  obtain ⟨oa, cap, e, h1, h2⟩ := h
  exact ⟨oa, cap, e, h1, h2.below hb⟩
def RetB (b : Bool) (w : World) (e : Ending) (w' : World) : Prop := e = .returned (.bool b) ∧ Below w.heap.size w w'
set_option maxHeartbeats 2000000 in
theorem across_any (f : Stp) (w : World) : Calls Try.prog 55 #[.agg #[.int .i64 f.side, .int .i64 f.line, .bool f.over]] w fun e w' => e = .returned (.bool (acrossV f)) ∧ Below w.heap.size w w' := by
  obtain ⟨side, line, over⟩ := f
  have hb : Hid (Below w.heap.size w (w.alloc (.cells #[.int .i64 side, .int .i64 line, .bool over] 108))) := balloc (Below.refl _ w) _
  by_cases h0 : side = 0
  · have t0 : (side == 0) = true := by simpa using h0
    have HE : Hid (acrossV ⟨side, line, over⟩ = true) := by show (side == 0 || side == 1) = true; rw [t0]; rfl
    clear h0
    rw [HE.out]
    go_enter Try.func55, Try.ntmps55
    go_wp2
    go_ret
    exact ⟨rfl, hb.out⟩
  · have t0 : (side == 0) = false := by simpa using h0
    have HE : Hid (acrossV ⟨side, line, over⟩ = (side == 1)) := by show (side == 0 || side == 1) = _; rw [t0]; rfl
    clear h0
    rw [HE.out]
    go_enter Try.func55, Try.ntmps55
    go_wp2
    go_ret
    exact ⟨rfl, hb.out⟩
set_option maxHeartbeats 2000000 in
theorem extent_any (s : Sht) (f : Stp) (pv : Value) (hp : ∃ oa n c, pv = .slice oa n c) (w : World) : Calls Try.prog 37 #[.agg #[.int .i64 s.cols, .int .i64 s.rows, pv], .agg #[.int .i64 f.side, .int .i64 f.line, .bool f.over]] w fun e w' => e = .returned (.int .i64 (extV s f)) ∧ Below w.heap.size w w' := by
  obtain ⟨oa, n, c, rfl⟩ := hp
  obtain ⟨C, R, ps⟩ := s
  have HA := fun W => across_any f W
  have HX : Hid (extV ⟨C, R, ps⟩ f = if acrossV f = true then C else R) := rfl
  obtain ⟨side, line, over⟩ := f
  obtain ⟨W1, hW1⟩ : ∃ W1, W1 = (w.alloc (.cells #[.int .i64 C, .int .i64 R, .slice oa n c] 105)).alloc (.cells #[.int .i64 side, .int .i64 line, .bool over] 108) := ⟨_, rfl⟩
  have hb : Below w.heap.size w W1 := by rw [hW1]; exact ((Below.refl _ w).alloc (Nat.le_refl _) _).alloc (by simp) _
  have c0 : W1.cell? ⟨w.heap.size, 0, none⟩ = some (.int .i64 C) := by rw [hW1]; go_simp
  have c1 : W1.cell? ⟨w.heap.size, 1, none⟩ = some (.int .i64 R) := by rw [hW1]; go_simp
  have d0 : W1.cell? ⟨w.heap.size + 1, 0, none⟩ = some (.int .i64 side) := by rw [hW1]; go_simp
  have d1 : W1.cell? ⟨w.heap.size + 1, 1, none⟩ = some (.int .i64 line) := by rw [hW1]; go_simp
  have d2 : W1.cell? ⟨w.heap.size + 1, 2, none⟩ = some (.bool over) := by rw [hW1]; go_simp
  have HA := Lib.hid (HA W1)
  have HB := Lib.hid hb
  clear hb
  go_enter Try.func37, Try.ntmps37
  go_upto_region 1 with fail
  rw [← hW1]
  clear hW1
  go_wp2_with fail
  refine HA.out.mono ?_
  rintro e w2 ⟨rfl, hb2⟩
  have HB2 := Lib.hid (bthen HB.out hb2)
  have c0 := keepCell hb2 c0
  have c1 := keepCell hb2 c1
  clear hb2 HA d0 d1 d2
  cases hac : acrossV ⟨side, line, over⟩ with
  | true =>
    rw [hac] at HX
    go_wp2_with fail
    go_ret
    exact ⟨by rw [HX.out]; rfl, HB2.out⟩
  | false =>
    rw [hac] at HX
    go_wp2_with fail
    go_ret
    exact ⟨by rw [HX.out]; rfl, HB2.out⟩
/-- What pile answers: a slice that reads as the pile. -/
def RetPile (l : List Leaf) (w : World) (e : Ending) (w' : World) : Prop := ∃ oa cap, e = .returned (.slice oa l.length cap) ∧ (oa = none → cap = 0) ∧ Flat w 4 encLeaf oa l ∧ Below w.heap.size w w'
set_option maxHeartbeats 4000000 in
theorem pile_any (s : Sht) (hw : WfS s) (hc : s.cols ≤ 1000) (hr : s.rows ≤ 1000) (c r : Int) (h1 : -1000000 ≤ c ∧ c ≤ 1000000) (h2 : -1000000 ≤ r ∧ r ≤ 1000000) (oa : Option Addr) (cap : Nat) (w : World) (hp : Rows1 w 4 encLeaf oa s.piles) :
    Calls Try.prog 56 #[.agg #[.int .i64 s.cols, .int .i64 s.rows, .slice oa s.piles.length cap], .int .i64 c, .int .i64 r] w (RetPile (pileV s c r) w) := by
  obtain ⟨hlen, hc0, hr0⟩ := hw
  obtain ⟨N, hN⟩ : ∃ N, N = s.piles.length := ⟨_, rfl⟩
  obtain ⟨W1, hW1⟩ : ∃ W1, W1 = w.alloc (.cells #[.int .i64 s.cols, .int .i64 s.rows, .slice oa s.piles.length cap] 105) := ⟨_, rfl⟩
  have hb : Below w.heap.size w W1 := by rw [hW1]; exact (Below.refl _ w).alloc (Nat.le_refl _) _
  have c0 : W1.cell? ⟨w.heap.size, 0, none⟩ = some (.int .i64 s.cols) := by rw [hW1]; go_simp
  have c1 : W1.cell? ⟨w.heap.size, 1, none⟩ = some (.int .i64 s.rows) := by rw [hW1]; go_simp
  have c2 : W1.cell? ⟨w.heap.size, 2, none⟩ = some (.slice oa N cap) := by rw [hW1, hN]; go_simp
  have HB := Lib.hid hb
  have NO : ∀ (h : c < 0 ∨ r < 0 ∨ (s.cols : Int) ≤ c ∨ (s.rows : Int) ≤ r), RetPile (pileV s c r) w (.returned (.slice none 0 0)) W1 := fun h => by
    have e : pileV s c r = [] := by unfold pileV; rw [if_pos h]
    rw [e]
    exact ⟨none, 0, rfl, fun _ => rfl, fun i hi => by simp at hi, HB.out⟩
  have NOH := Lib.hid NO
  rw [← hN] at hW1 ⊢
  have HNN := Lib.hid hN
  clear hb NO hN
  by_cases k1 : c < 0
  · have HF := Lib.hid (NOH.out (.inl k1))
    go_enter Try.func56, Try.ntmps56
    go_upto_region 1 with fail
    rw [← hW1]
    clear hW1
    go_wp2_with fail
    go_ret
    exact HF.out
  by_cases k2 : r < 0
  · have HF := Lib.hid (NOH.out (.inr (.inl k2)))
    go_enter Try.func56, Try.ntmps56
    go_upto_region 1 with fail
    rw [← hW1]
    clear hW1
    go_wp2_with fail
    go_ret
    exact HF.out
  by_cases k3 : (s.cols : Int) ≤ c
  · have HF := Lib.hid (NOH.out (.inr (.inr (.inl k3))))
    go_enter Try.func56, Try.ntmps56
    go_upto_region 1 with fail
    rw [← hW1]
    clear hW1
    go_wp2_with fail
    go_ret
    exact HF.out
  by_cases k4 : (s.rows : Int) ≤ r
  · have HF := Lib.hid (NOH.out (.inr (.inr (.inr k4))))
    go_enter Try.func56, Try.ntmps56
    go_upto_region 1 with fail
    rw [← hW1]
    clear hW1
    go_wp2_with fail
    go_ret
    exact HF.out
  obtain ⟨c', rfl⟩ : ∃ c' : Nat, c = c' := ⟨c.toNat, by omega⟩
  obtain ⟨r', rfl⟩ : ∃ r' : Nat, r = r' := ⟨r.toNat, by omega⟩
  have hk : r' * s.cols + c' < s.piles.length := by
    rw [hlen]
    have : (r' + 1) * s.cols ≤ s.rows * s.cols := Nat.mul_le_mul_right s.cols (by omega)
    rw [Nat.add_mul] at this
    omega
  obtain ⟨b, off, v, rfl, hcell, oa', cap', rfl, hz, -, hfl⟩ := hp _ hk
  have hpv : pileV s c' r' = s.piles[r' * s.cols + c'] := by
    rw [pile_at (by omega) (by omega), List.getD_eq_getElem?_getD, List.getElem?_eq_getElem hk]
    rfl
  have e1 := keepCell HB.out hcell
  have HF : Hid (RetPile (pileV s c' r') w (.returned (.slice oa' s.piles[r' * s.cols + c'].length cap')) W1) := by
    show RetPile _ _ _ _
    rw [hpv]
    exact ⟨oa', cap', rfl, hz, hfl, HB.out⟩
  obtain ⟨L, hL⟩ : ∃ L, L = s.piles[r' * s.cols + c'].length := ⟨_, rfl⟩
  rw [← hL] at HF e1
  have hm0 : r' * s.cols ≤ 1000 * 1000 := Nat.mul_le_mul (by omega) hc
  have g1 : IntKind.i64.wrap ((r' : Int) * (s.cols : Int)) = ((r' * s.cols : Nat) : Int) := by rw [← Int.natCast_mul]; exact IntWalk.i64_in _ (by omega)
  have hk' : r' * s.cols + c' < N := by rw [HNN.out]; exact hk
  obtain ⟨M, hM⟩ : ∃ M, M = r' * s.cols := ⟨_, rfl⟩
  rw [← hM] at hk' g1 e1 hm0
  have g2 : IntKind.i64.wrap ((M : Int) + (c' : Int)) = ((M + c' : Nat) : Int) := by rw [← Int.natCast_add]; exact IntWalk.i64_in _ (by omega)
  obtain ⟨Cs, hCs⟩ : ∃ Cs, Cs = s.cols := ⟨_, rfl⟩
  rw [← hCs] at c0 g1 k3 hW1 ⊢
  have HCS := Lib.hid hCs
  clear hlen hk hpv hfl hM NOH hCs hL hz hcell
  go_enter Try.func56, Try.ntmps56
  go_upto_region 1 with fail
  rw [← hW1]
  clear hW1
  go_wp2_with fail
  go_ret
  exact HF.out
end Go.Proofs.Ytdblibjmgamjeaa
