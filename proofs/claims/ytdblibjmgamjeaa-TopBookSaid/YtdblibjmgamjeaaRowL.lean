/-
  Rows of several elements appended, with where the new row lies. General over the program. Own text.
-/
import Derived.Test.YtdblibjmgamjeaaFoldA
import Derived.Deep.AppendLies
namespace Go.Proofs.Ytdblibjmgamjeaa
open Go.RowKit
set_option linter.unusedVariables false
section
variable {P : Program} {w : World} {ops : Array Oper} {rest : List Oper} {o : Oper} {a : Act} {Q : Exit → Act → World → Prop}
theorem wpList_appRowL {α : Type} (hgd : o.guard = none) (s x : Operand) (t : TypeId)
    (ho : o.op = .call { callee := .builtin .append, args := #[s, x], argTypes := #[t, t] })
    {e : TypeId} {z : Value} {size bytes : Nat} (hE : ElemType P e z size bytes) (ht : P.underlying t = some (.slice e))
    (base : Nat) (v : Value) (xs : List α) (enc : α → List Value) (hs : a.eval s = v) (hown : Own w base e size enc v xs) (ys : List α) (ad : Addr) (m c : Nat)
    (hx : a.eval x = .slice (some ad) m c) (hm : ys.length = m) (h0m : 0 < m) (hf : Flat w size enc (some ad) ys) (hl : ∀ x, (enc x).length = size) (h1 : ∀ y, ∀ u ∈ enc y, u.oneCell' = true)
    (hbytes : (xs.length + m) * bytes ≤ 140737488355328) (h63 : xs.length + m ≤ maxLen) (hbase : base ≤ w.heap.size)
    (h : ∀ g cap w', Own w' base e size enc (.slice (some ⟨g, 0, none⟩) (xs.length + m) cap) (xs ++ ys) → w.grownBy w' v.ownBlock → (v.ownBlock = some g ∨ g = w.heap.size) → wpList P ops Q rest (a.put o.dst (.slice (some ⟨g, 0, none⟩) (xs.length + m) cap)) w') : wpList P ops Q (o :: rest) a w := by
  obtain ⟨i, hi, hz, hsz, hby, hzs, h0⟩ := hE
  refine wpList_append_lies w hgd s x t ho base e i z size bytes ht hi hz hsz hby hzs h0 v xs.length (xs.flatMap enc) hs hown ad m c (ys.flatMap enc) hx (by rw [flatMap_length hl, hm]) (hf.news hl h0)
    (fun u hu => by obtain ⟨y, _, hy⟩ := List.mem_flatMap.1 hu; exact h1 y u hy) h0m h63 hbytes hbase w.heap.size rfl ?_
  intro g cap w' hown' hg hat _
  refine h g cap w' ?_ hg hat
  unfold Own
  rw [List.length_append, List.flatMap_append, hm]
  exact hown'
/-- The same in a region that draws its order. -/
theorem step_appRowL {α : Type} {K : Act → World → Prop} {E : Prop} (hgd : o.guard = none) (s x : Operand) (t : TypeId)
    (ho : o.op = .call { callee := .builtin .append, args := #[s, x], argTypes := #[t, t] })
    {e : TypeId} {z : Value} {size bytes : Nat} (hE : ElemType P e z size bytes) (ht : P.underlying t = some (.slice e))
    (base : Nat) (v : Value) (xs : List α) (enc : α → List Value) (hs : a.eval s = v) (hown : Own w base e size enc v xs) (ys : List α) (ad : Addr) (m c : Nat)
    (hx : a.eval x = .slice (some ad) m c) (hm : ys.length = m) (h0m : 0 < m) (hf : Flat w size enc (some ad) ys) (hl : ∀ x, (enc x).length = size) (h1 : ∀ y, ∀ u ∈ enc y, u.oneCell' = true)
    (hbytes : (xs.length + m) * bytes ≤ 140737488355328) (h63 : xs.length + m ≤ maxLen) (hbase : base ≤ w.heap.size)
    (h : ∀ g cap w', Own w' base e size enc (.slice (some ⟨g, 0, none⟩) (xs.length + m) cap) (xs ++ ys) → w.grownBy w' v.ownBlock → (v.ownBlock = some g ∨ g = w.heap.size) → K (a.put o.dst (.slice (some ⟨g, 0, none⟩) (xs.length + m) cap)) w') : if Region.wanted o (yielded ops a.tmps) = true then Oper.wp P o a w K Q else E := by
  obtain ⟨i, hi, hz, hsz, hby, hzs, h0⟩ := hE
  refine step_append_lies w hgd s x t ho base e i z size bytes ht hi hz hsz hby hzs h0 v xs.length (xs.flatMap enc) hs hown ad m c (ys.flatMap enc) hx (by rw [flatMap_length hl, hm]) (hf.news hl h0)
    (fun u hu => by obtain ⟨y, _, hy⟩ := List.mem_flatMap.1 hu; exact h1 y u hy) h0m h63 hbytes hbase w.heap.size rfl ?_
  intro g cap w' hown' hg hat _
  refine h g cap w' ?_ hg hat
  unfold Own
  rw [List.length_append, List.flatMap_append, hm]
  exact hown'
end
section
variable {α β : Type} {enc : β → List Value} {blks : β → Nat → Prop} {R : World → β → α → Prop} {e : TypeId} {k : Nat} {w w' : World} {B : Nat} {v v' : Value} {us vs : List β} {xs ys : List α}
/-- Elements come in. -/
theorem RowsU.addN (hs : Stab R blks) (h : RowsU enc blks R e k w B v us xs) (hl : vs.length = ys.length) (hr : ∀ i (h1 : i < vs.length) (h2 : i < ys.length), R w vs[i] ys[i]) (hg : ∀ u ∈ vs, ∀ g, blks u g → g < w.heap.size ∧ v.ownBlock ≠ some g) (hown : Own w' B e k enc v' (us ++ vs)) (hgr : w.grownBy w' v.ownBlock) (hat : v'.ownBlock = v.ownBlock ∨ v'.ownBlock = some w.heap.size) : RowsU enc blks R e k w' B v' (us ++ vs) (xs ++ ys) := by
  have hlen := h.len
  have hall : ∀ u ∈ us ++ vs, ∀ g, blks u g → g < w.heap.size ∧ v.ownBlock ≠ some g := fun u hu g hgg => by
    rcases List.mem_append.1 hu with h1 | h1
    · exact h.lo u h1 g hgg
    · exact hg u h1 g hgg
  have hrow : ∀ i (h1 : i < (us ++ vs).length) (h2 : i < (xs ++ ys).length), R w (us ++ vs)[i] (xs ++ ys)[i] := by
    intro i h1 h2
    by_cases e : i < us.length
    · rw [List.getElem_append_left e, List.getElem_append_left (by omega)]
      exact h.row i e (by omega)
    · rw [List.getElem_append_right (by omega), List.getElem_append_right (by omega)]
      simp only [hlen]
      exact hr _ (by rw [List.length_append] at h1; omega) (by rw [List.length_append] at h2; omega)
  have hz := hgr.size
  refine ⟨hown, by rw [List.length_append, List.length_append, hlen, hl], fun i h1 h2 => hs.keep (hrow i h1 h2) fun g hgg => hgr.block g (hall _ (List.getElem_mem h1) g hgg).1 fun e => (hall _ (List.getElem_mem h1) g hgg).2 e.symm, fun u hu g hgg => ?_⟩
  obtain ⟨h3, h4⟩ := hall u hu g hgg
  refine ⟨by omega, fun e => ?_⟩
  rcases hat with e2 | e2
  · exact h4 (e2 ▸ e)
  · rw [e2] at e; cases e; omega
end
end Go.Proofs.Ytdblibjmgamjeaa
