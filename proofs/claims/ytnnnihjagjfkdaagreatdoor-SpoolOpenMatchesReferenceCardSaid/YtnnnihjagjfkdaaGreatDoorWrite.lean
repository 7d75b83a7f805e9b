/-
  The walk of the queue's write. Own text.
-/
import Derived.Test.YtnnnihjagjfkdaaGreatDoorQue
import Derived.Test.YtnnnihjagjfkdaaGreatDoorBase
namespace Go.Proofs.YtnnnihjagjfkdaaGreatDoor
open Go.RowKit
set_option linter.unusedVariables false
section
variable {P : Program} {w : World} {ops : Array Oper} {o : Oper} {a : Act} {K : Act → World → Prop} {Q : Exit → Act → World → Prop} {E : Prop}
theorem step_app1L {α : Type} (hgd : o.guard = none) (s x : Operand) (t : TypeId)
    (ho : o.op = .call { callee := .builtin .append, args := #[s, x], argTypes := #[t, t] })
    {e : TypeId} {z : Value} {size bytes : Nat} (hE : ElemType P e z size bytes) (ht : P.underlying t = some (.slice e))
    (base : Nat) (v : Value) (xs : List α) (enc : α → List Value) (hs : a.eval s = v) (hown : Own w base e size enc v xs) (y : α)
    (ad : Addr) (c : Nat) (hx : a.eval x = .slice (some ad) 1 c) (hl : (enc y).length = size) (hnews : ∀ j u, (enc y)[j]? = some u → w.cell? (ad.add j) = some u) (h1 : ∀ u ∈ enc y, u.oneCell' = true)
    (hbytes : (xs.length + 1) * bytes ≤ 140737488355328) (h63 : xs.length + 1 ≤ maxLen) (hbase : base ≤ w.heap.size)
    (h : ∀ g cap w', Own w' base e size enc (.slice (some ⟨g, 0, none⟩) (xs.length + 1) cap) (xs ++ [y]) → w.grownBy w' v.ownBlock → (v.ownBlock = some g ∨ g = w.heap.size) → K (a.put o.dst (.slice (some ⟨g, 0, none⟩) (xs.length + 1) cap)) w') : if Region.wanted o (yielded ops a.tmps) = true then Oper.wp P o a w K Q else E := by
  obtain ⟨i, hi, hz, hsz, hby, hzs, h0⟩ := hE
  refine step_append_lies w hgd s x t ho base e i z size bytes ht hi hz hsz hby hzs h0 v xs.length (xs.flatMap enc) hs hown ad 1 c (enc y) hx (by rw [hl, Nat.one_mul]) hnews h1 (by omega) h63 hbytes hbase w.heap.size rfl ?_
  intro g cap w' hown' hg hat _
  refine h g cap w' ?_ hg hat
  unfold Own
  rw [List.length_append, List.flatMap_append]
  simpa using hown'
end
/-- A row of a queue has grown in the append: the rest of the queue stands. -/
theorem grown_block {w w' : World} {v : Value} (h : w.grownBy w' v.ownBlock) {g : Nat} (hg : g < w.heap.size) (hn : v.ownBlock ≠ some g) : w'.heap[g]? = w.heap[g]? := h.block g hg (fun e => hn e.symm)
theorem Turn.growW {b g cap n : Nat} {vj vw vj1 vw1 : Value} {w w1 w' : World} (h : Turn b vj vw vj1 vw1 w w1) (hg : w1.grownBy w' vw1.ownBlock) (hat : vw1.ownBlock = some g ∨ g = w1.heap.size) : Turn b vj vw vj1 (.slice (some ⟨g, 0, none⟩) n cap) w w' := by
  have hs := h.size
  refine ⟨hg.os.trans h.os, hg.tape.trans h.tape, hg.output.trans h.output, Nat.le_trans hs hg.size, fun j hj hn => ?_, h.kj, fun j hj => ?_⟩
  · rw [hg.block j (by omega) ?_, h.block j hj hn]
    intro e
    rcases h.kw j e.symm with e | e
    · exact hn (.inr (.inr e))
    · omega
  · have : g = j := by simpa [Value.ownBlock] using hj
    subst this
    rcases hat with e | e
    · exact h.kw g e
    · exact .inr (by omega)
theorem Turn.growJ {b g cap n : Nat} {vj vw vj1 vw1 : Value} {w w1 w' : World} (h : Turn b vj vw vj1 vw1 w w1) (hg : w1.grownBy w' vj1.ownBlock) (hat : vj1.ownBlock = some g ∨ g = w1.heap.size) : Turn b vj vw (.slice (some ⟨g, 0, none⟩) n cap) vw1 w w' := by
  have hs := h.size
  refine ⟨hg.os.trans h.os, hg.tape.trans h.tape, hg.output.trans h.output, Nat.le_trans hs hg.size, fun j hj hn => ?_, fun j hj => ?_, h.kw⟩
  · rw [hg.block j (by omega) ?_, h.block j hj hn]
    intro e
    rcases h.kj j e.symm with e | e
    · exact hn (.inr (.inl e))
    · omega
  · have : g = j := by simpa [Value.ownBlock] using hj
    subst this
    rcases hat with e | e
    · exact h.kj g e
    · exact .inr (by omega)
theorem Own.ofBlocks {α : Type} {w w' : World} {base : Nat} {e : TypeId} {k : Nat} {enc : α → List Value} {v : Value} {xs : List α} (h : Own w base e k enc v xs) (hb : ∀ g, v.ownBlock = some g → w'.heap[g]? = w.heap[g]?) : Own w' base e k enc v xs := by
  refine ⟨h.1, ?_⟩
  rcases h.2 with hv | ⟨g, cap, cur, rfl, hbg, hg, rest⟩
  · exact .inl hv
  · exact .inr ⟨g, cap, cur, rfl, hbg, by rw [hb g rfl]; exact hg, rest⟩
theorem FTab.ofBlock {α : Type} {f : α → Value} {w w' : World} {g n : Nat} {t : Nat → α} (h : FTab f w g n t) (hb : w'.heap[g]? = w.heap[g]?) : FTab f w' g n t := by
  refine ⟨fun i hi => ?_, fun o => ?_⟩
  · have := h.at' i hi
    unfold World.cell? at this ⊢
    simp only at this ⊢
    rw [hb]
    exact this
  · have := h.fz o
    unfold World.frozen? at this ⊢
    simp only at this ⊢
    rw [hb]
    exact this
/-- The write is appended, and stored back into the queue. -/
theorem QAt.growW {w w' : World} {B b g cap : Nat} {q : Que} {vj vw : Value} {y : Wr} (h : QAt w B b q vj vw) (hg : w.grownBy w' vw.ownBlock) (hown : Own w' B 54 2 encWr (.slice (some ⟨g, 0, none⟩) (q.writes.length + 1) cap) (q.writes ++ [y])) (hat : vw.ownBlock = some g ∨ g = w.heap.size) :
    QAt (w'.setCell ⟨b, 8, none⟩ (.slice (some ⟨g, 0, none⟩) (q.writes.length + 1) cap)) B b { q with writes := q.writes ++ [y] } vj (.slice (some ⟨g, 0, none⟩) (q.writes.length + 1) cap) := by
  have hbl := h.lt
  have hbg : b ≠ g := by
    rcases hat with e | e
    · intro e2; exact h.nw (by rw [e, e2])
    · omega
  refine ⟨((h.tab.ofBlock (grown_block hg hbl h.nw)).set (i := 8) (by omega) _).congr fun i hi => ?_, own_other (h.jobs.ofBlocks fun j hj => grown_block hg (h.jobs.blk hj).2 fun e => h.jw j hj e) h.nj _, own_other hown (fun e => hbg (by simpa [Value.ownBlock] using e.symm)) _, h.bb, h.nj, fun e => hbg (by simpa [Value.ownBlock] using e.symm), fun j hj e => ?_⟩
  · match i, hi with
    | 0, _ => rfl
    | 1, _ => rfl
    | 2, _ => rfl
    | 3, _ => rfl
    | 4, _ => rfl
    | 5, _ => rfl
    | 6, _ => rfl
    | 7, _ => rfl
    | 8, _ => rfl
    | 9, _ => rfl
    | 10, _ => rfl
  · have : g = j := by simpa [Value.ownBlock] using e
    subst this
    rcases hat with e | e
    · exact h.jw g hj e
    · have := (h.jobs.blk hj).2
      omega
/-- The job is appended, and stored back into the queue. -/
theorem QAt.growJ {w w' : World} {B b g cap : Nat} {q : Que} {vj vw : Value} {y : Jb} (h : QAt w B b q vj vw) (hg : w.grownBy w' vj.ownBlock) (hown : Own w' B 73 4 encJb (.slice (some ⟨g, 0, none⟩) (q.jobs.length + 1) cap) (q.jobs ++ [y])) (hat : vj.ownBlock = some g ∨ g = w.heap.size) :
    QAt (w'.setCell ⟨b, 5, none⟩ (.slice (some ⟨g, 0, none⟩) (q.jobs.length + 1) cap)) B b { q with jobs := q.jobs ++ [y] } (.slice (some ⟨g, 0, none⟩) (q.jobs.length + 1) cap) vw := by
  have hbl := h.lt
  have hbg : b ≠ g := by
    rcases hat with e | e
    · intro e2; exact h.nj (by rw [e, e2])
    · omega
  refine ⟨((h.tab.ofBlock (grown_block hg hbl h.nj)).set (i := 5) (by omega) _).congr fun i hi => ?_, own_other hown (fun e => hbg (by simpa [Value.ownBlock] using e.symm)) _, own_other (h.wr.ofBlocks fun j hj => grown_block hg (h.wr.blk hj).2 fun e => h.jw j e hj) h.nw _, h.bb, fun e => hbg (by simpa [Value.ownBlock] using e.symm), h.nw, fun j e hj => ?_⟩
  · match i, hi with
    | 0, _ => rfl
    | 1, _ => rfl
    | 2, _ => rfl
    | 3, _ => rfl
    | 4, _ => rfl
    | 5, _ => rfl
    | 6, _ => rfl
    | 7, _ => rfl
    | 8, _ => rfl
    | 9, _ => rfl
    | 10, _ => rfl
  · have : g = j := by simpa [Value.ownBlock] using e
    subst this
    rcases hat with e | e
    · exact h.jw g e hj
    · have := (h.wr.blk hj).2
      omega
end Go.Proofs.YtnnnihjagjfkdaaGreatDoor
