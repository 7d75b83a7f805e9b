/-
  A list of lists of jobs in memory, beside a queue. Own text.
-/
import Derived.Test.YtnnnihjagjfkdaaGreatDoorHist
import Derived.Test.YtnnnihjagjfkdaaGreatDoorReo
namespace Go.Proofs.YtnnnihjagjfkdaaGreatDoor
open Go.RowKit
set_option linter.unusedVariables false
theorem Own.base {α : Type} {w : World} {base base' k : Nat} {e : TypeId} {enc : α → List Value} {v : Value} {xs : List α} (h : Own w base e k enc v xs) (hb : base' ≤ base) : Own w base' e k enc v xs := by
  refine ⟨h.1, ?_⟩
  rcases h.2 with hn | ⟨g', cap, cur, rfl, hbg, rest⟩
  · exact .inl hn
  · exact .inr ⟨g', cap, cur, rfl, by omega, rest⟩
def encV (v : Value) : List Value := [v]
theorem elemRowS : ElemType Tryz.prog 29 (.slice none 0 0) 1 24 := ElemType.mk (by kernel_rfl) rfl (by decide)
/-- Lists of jobs, made behind world base, with blocks of their own. -/
structure Sts (w : World) (base b : Nat) (vj vw u : Value) (xs : List Value) (l : List (List Sj)) : Prop where
  own : Own w base 29 1 encV u xs
  len : xs.length = l.length
  row : ∀ k (h : k < xs.length) (h2 : k < l.length), Own w base 41 2 encSj xs[k] l[k]
  out : ∀ g, u.ownBlock = some g → ¬ InQ b vj vw g
  far : ∀ x ∈ xs, ∀ g, x.ownBlock = some g → ¬ InQ b vj vw g ∧ u.ownBlock ≠ some g
theorem Sts.lt {w : World} {base b : Nat} {vj vw u : Value} {xs : List Value} {l : List (List Sj)} (h : Sts w base b vj vw u xs l) {x : Value} (hx : x ∈ xs) {g : Nat} (hg : x.ownBlock = some g) : base ≤ g ∧ g < w.heap.size := by
  obtain ⟨k, hk, rfl⟩ := List.getElem_of_mem hx
  exact (h.row k hk (by rw [← h.len]; exact hk)).blk hg
theorem Turn.inq {b : Nat} {vj vw vj' vw' : Value} {w w' : World} (hT : Turn b vj vw vj' vw' w w') {g : Nat} (hg : g < w.heap.size) (hn : ¬ InQ b vj vw g) : ¬ InQ b vj' vw' g := by
  rintro (e | e | e)
  · exact hn (.inl e)
  · rcases hT.kj g e with e | e
    · exact hn (.inr (.inl e))
    · omega
  · rcases hT.kw g e with e | e
    · exact hn (.inr (.inr e))
    · omega
theorem Sts.turn {w w' : World} {base b : Nat} {vj vw vj' vw' u : Value} {xs : List Value} {l : List (List Sj)} (h : Sts w base b vj vw u xs l) (hT : Turn b vj vw vj' vw' w w') : Sts w' base b vj' vw' u xs l :=
  ⟨h.own.turn hT h.out, h.len, fun k hk h2 => (h.row k hk h2).turn hT (fun g e => (h.far _ (List.getElem_mem hk) g e).1), fun g e => hT.inq (h.own.blk e).2 (h.out g e), fun x hx g e => ⟨hT.inq (h.lt hx e).2 (h.far x hx g e).1, (h.far x hx g e).2⟩⟩
theorem Sts.below {w w' : World} {base b : Nat} {vj vw u : Value} {xs : List Value} {l : List (List Sj)} (h : Sts w base b vj vw u xs l) (hb : Below w.heap.size w w') : Sts w' base b vj vw u xs l := h.turn (Turn.ofBelow hb)
theorem QAt.grown {w w' : World} {B b : Nat} {q : Que} {vj vw u : Value} (h : QAt w B b q vj vw) (hg : w.grownBy w' u.ownBlock) (hn : ∀ g, u.ownBlock = some g → ¬ InQ b vj vw g) : QAt w' B b q vj vw :=
  ⟨FTab.ofBlock h.tab (grown_block hg h.lt (fun e => hn b e (.inl rfl))), Own.ofBlocks h.jobs (fun g e => grown_block hg (h.jobs.blk e).2 (fun e2 => hn g e2 (.inr (.inl e)))), Own.ofBlocks h.wr (fun g e => grown_block hg (h.wr.blk e).2 (fun e2 => hn g e2 (.inr (.inr e)))), h.bb, h.nj, h.nw, h.jw⟩
/-- The first list. -/
theorem Sts.one {w : World} {base B b : Nat} {q : Que} {vj vw v : Value} {l : List Sj} (hq : QAt w B b q vj vw) (hv : Own w base 41 2 encSj v l) (hf : ∀ g, v.ownBlock = some g → ¬ InQ b vj vw g) (hB : base ≤ w.heap.size) :
    Sts (w.alloc (.cells #[v] 29)) base b vj vw (.slice (some ⟨w.heap.size, 0, none⟩) 1 1) [v] [l] := by
  have hb := balloc (Below.refl _ w) (.cells #[v] 29)
  have ho : Own (w.alloc (.cells #[v] 29)) base 29 1 encV (.slice (some ⟨w.heap.size, 0, none⟩) 1 1) [v] := Own.lit w base 1 encV [v] 29 (fun _ => rfl) (by simp [maxLen]) hB
  refine ⟨ho, rfl, fun k hk h2 => ?_, fun g e e2 => ?_, fun x hx g e => ?_⟩
  · match k, hk, h2 with
    | 0, _, _ => exact hv.below hb
  · have e3 : w.heap.size = g := by simpa [Value.ownBlock] using e
    have := (hq.inq e2).2
    omega
  · obtain rfl := List.mem_singleton.1 hx
    refine ⟨hf g e, fun e2 => ?_⟩
    have e3 : w.heap.size = g := by simpa [Value.ownBlock] using e2
    have := (hv.blk e).2
    omega
/-- A further list. -/
theorem Sts.snoc {w w' : World} {base B b g n cap : Nat} {q : Que} {vj vw u v : Value} {xs : List Value} {l : List (List Sj)} {y : List Sj} (h : Sts w base b vj vw u xs l) (hq : QAt w B b q vj vw) (hv : Own w base 41 2 encSj v y) (hf : ∀ g, v.ownBlock = some g → ¬ InQ b vj vw g ∧ u.ownBlock ≠ some g)
    (hown : Own w' base 29 1 encV (.slice (some ⟨g, 0, none⟩) n cap) (xs ++ [v])) (hg : w.grownBy w' u.ownBlock) (hat : u.ownBlock = some g ∨ g = w.heap.size) : Sts w' base b vj vw (.slice (some ⟨g, 0, none⟩) n cap) (xs ++ [v]) (l ++ [y]) := by
  refine ⟨hown, by simp [h.len], fun k hk h2 => ?_, fun j e e2 => ?_, fun x hx j e => ?_⟩
  · rw [List.length_append, List.length_singleton] at hk
    by_cases hkl : k < xs.length
    · have h3 : k < l.length := by rw [← h.len]; exact hkl
      rw [List.getElem_append_left hkl, List.getElem_append_left h3]
      exact Own.ofBlocks (h.row k hkl h3) (fun j e => grown_block hg ((h.row k hkl h3).blk e).2 (h.far _ (List.getElem_mem hkl) j e).2)
    · obtain rfl : k = xs.length := by omega
      rw [List.getElem_append_right (Nat.le_refl _), List.getElem_append_right (by rw [h.len]; exact Nat.le_refl _)]
      simp only [Nat.sub_self, List.getElem_singleton, h.len]
      exact Own.ofBlocks hv (fun j e => grown_block hg (hv.blk e).2 (hf j e).2)
  · have e3 : g = j := by simpa [Value.ownBlock] using e
    subst e3
    rcases hat with e4 | e4
    · exact h.out g e4 e2
    · have := (hq.inq e2).2
      omega
  · have key : ¬ InQ b vj vw j ∧ u.ownBlock ≠ some j ∧ j < w.heap.size := by
      rcases List.mem_append.1 hx with hx | hx
      · exact ⟨(h.far x hx j e).1, (h.far x hx j e).2, (h.lt hx e).2⟩
      · obtain rfl := List.mem_singleton.1 hx
        exact ⟨(hf j e).1, (hf j e).2, (hv.blk e).2⟩
    refine ⟨key.1, fun e2 => ?_⟩
    have e3 : g = j := by simpa [Value.ownBlock] using e2
    subst e3
    rcases hat with e4 | e4
    · exact key.2.1 e4
    · have := key.2.2
      omega
/-- The jobs behind the first k records. -/
def stateV (wss : List (List (List UInt8))) (k : Nat) : List Sj := match foldV (emptyQ 1 1) (wss.take k) with
  | none => []
  | some q => q.jobs.map showJ
def statesV (wss : List (List (List UInt8))) : List (List Sj) := (List.range (wss.length + 1)).map (stateV wss)
theorem statesV_len (wss : List (List (List UInt8))) : (statesV wss).length = wss.length + 1 := by simp [statesV]
theorem statesV_get (wss : List (List (List UInt8))) (k : Nat) (h : k < (statesV wss).length) : (statesV wss)[k] = stateV wss k := by simp [statesV]
theorem stateV_some {wss : List (List (List UInt8))} {k : Nat} {q : Que} (h : foldV (emptyQ 1 1) (wss.take k) = some q) : stateV wss k = q.jobs.map showJ := by
  unfold stateV
  rw [h]
theorem statesV_snoc (wss : List (List (List UInt8))) (ws : List (List UInt8)) : statesV (wss ++ [ws]) = statesV wss ++ [stateV (wss ++ [ws]) (wss.length + 1)] := by
  unfold statesV
  rw [List.length_append, List.length_singleton, List.range_succ, List.map_append]
  congr 1
  refine List.map_congr_left fun k hk => ?_
  have hk' : k ≤ wss.length := by have := List.mem_range.1 hk; omega
  unfold stateV
  rw [List.take_append_of_le_length hk']
theorem Hist.state {q : Que} {wss : List (List (List UInt8))} {c : Nat} (h : Hist q wss c) : stateV wss wss.length = q.jobs.map showJ := by
  obtain ⟨qe, hf, hj, _⟩ := h.fold
  rw [stateV_some (q := qe) (by rw [List.take_length]; exact hf), hj]
theorem Hist.states {q : Que} {wss : List (List (List UInt8))} {ws : List (List UInt8)} {c : Nat} (h : Hist q (wss ++ [ws]) c) : statesV (wss ++ [ws]) = statesV wss ++ [q.jobs.map showJ] := by
  rw [statesV_snoc, ← h.state, List.length_append, List.length_singleton]
theorem states_new {q : Que} (h : Hist q [] 0) : statesV [] = [q.jobs.map showJ] := by
  have e : statesV [] = [stateV [] 0] := rfl
  rw [e, ← h.state]
  rfl
end Go.Proofs.YtnnnihjagjfkdaaGreatDoor
