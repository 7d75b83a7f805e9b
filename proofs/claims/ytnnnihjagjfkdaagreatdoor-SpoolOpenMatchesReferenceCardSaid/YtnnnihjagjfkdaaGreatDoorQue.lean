/-
  A queue in memory. Own text.
-/
import Derived.Test.YtnnnihjagjfkdaaGreatDoorLine
import Derived.Deep.RegionHeld3
import Derived.Deep.RegionLaw
import Derived.Deep.AppendLies
namespace Go.Proofs.YtnnnihjagjfkdaaGreatDoor
open Go.RowKit
set_option linter.unusedVariables false
structure Jb where
  id : Int
  text : ByteArray
  lease : Int
  till : Int
def encJb (j : Jb) : List Value := [.int .i64 j.id, .string j.text, .int .i64 j.lease, .int .i64 j.till]
structure Wr where
  area : Int
  data : ByteArray
def encWr (x : Wr) : List Value := [.int .i64 x.area, .string x.data]
structure Que where
  area : Int
  epoch : Int
  next : Int
  leases : Int
  now : Int
  jobs : List Jb
  a0 : ByteArray
  a1 : ByteArray
  writes : List Wr
  size : Int
  seq : Int
def queF (q : Que) (vj vw : Value) : Nat → Value
  | 0 => .int .i64 q.area
  | 1 => .int .i64 q.epoch
  | 2 => .int .i64 q.next
  | 3 => .int .i64 q.leases
  | 4 => .int .i64 q.now
  | 5 => vj
  | 6 => .string q.a0
  | 7 => .string q.a1
  | 8 => vw
  | 9 => .int .i64 q.size
  | _ => .int .i64 q.seq
theorem elemJb : ElemType Tryz.prog 73 (.agg #[.int .i64 0, .string ⟨#[]⟩, .int .i64 0, .int .i64 0]) 4 40 := ElemType.mk (by kernel_rfl) rfl (by decide)
theorem elemWr : ElemType Tryz.prog 54 (.agg #[.int .i64 0, .string ⟨#[]⟩]) 2 24 := ElemType.mk (by kernel_rfl) rfl (by decide)
/-- The blocks of a queue. -/
def InQ (b : Nat) (vj vw : Value) (g : Nat) : Prop := g = b ∨ vj.ownBlock = some g ∨ vw.ownBlock = some g
structure QAt (w : World) (B b : Nat) (q : Que) (vj vw : Value) : Prop where
  tab : FTab (fun v : Value => v) w b 11 (queF q vj vw)
  jobs : Own w B 73 4 encJb vj q.jobs
  wr : Own w B 54 2 encWr vw q.writes
  bb : B ≤ b
  nj : vj.ownBlock ≠ some b
  nw : vw.ownBlock ≠ some b
  jw : ∀ g, vj.ownBlock = some g → vw.ownBlock ≠ some g
theorem Own.blk {α : Type} {w : World} {base : Nat} {e : TypeId} {k : Nat} {enc : α → List Value} {v : Value} {xs : List α} (h : Own w base e k enc v xs) {g : Nat} (hg : v.ownBlock = some g) : base ≤ g ∧ g < w.heap.size := World.ownsRow.lt h g hg
theorem QAt.lt {w : World} {B b : Nat} {q : Que} {vj vw : Value} (h : QAt w B b q vj vw) : b < w.heap.size := h.tab.lt (by omega)
theorem QAt.inq {w : World} {B b : Nat} {q : Que} {vj vw : Value} (h : QAt w B b q vj vw) {g : Nat} (hg : InQ b vj vw g) : B ≤ g ∧ g < w.heap.size := by
  rcases hg with rfl | hg | hg
  · exact ⟨h.bb, h.lt⟩
  · exact h.jobs.blk hg
  · exact h.wr.blk hg
theorem QAt.below {w w' : World} {B b : Nat} {q : Que} {vj vw : Value} (h : QAt w B b q vj vw) (hb : Below w.heap.size w w') : QAt w' B b q vj vw :=
  ⟨h.tab.below hb h.lt, h.jobs.below hb, h.wr.below hb, h.bb, h.nj, h.nw, h.jw⟩
theorem QAt.drewN {w : World} {B b : Nat} {q : Que} {vj vw : Value} (h : QAt w B b q vj vw) (n : Nat) : QAt (w.drewN n) B b q vj vw := ⟨h.tab.drewN n, h.jobs.drewN n, h.wr.drewN n, h.bb, h.nj, h.nw, h.jw⟩
/-- What an operation of the queue may turn. -/
structure Turn (b : Nat) (vj vw vj' vw' : Value) (w w' : World) : Prop where
  os : w'.os = w.os
  tape : w'.tape = w.tape
  output : w'.output = w.output
  size : w.heap.size ≤ w'.heap.size
  block : ∀ g, g < w.heap.size → ¬ InQ b vj vw g → w'.heap[g]? = w.heap[g]?
  kj : ∀ g, vj'.ownBlock = some g → vj.ownBlock = some g ∨ w.heap.size ≤ g
  kw : ∀ g, vw'.ownBlock = some g → vw.ownBlock = some g ∨ w.heap.size ≤ g
theorem Turn.refl (b : Nat) (vj vw : Value) (w : World) : Turn b vj vw vj vw w w := ⟨rfl, rfl, rfl, Nat.le_refl _, fun _ _ _ => rfl, fun _ h => .inl h, fun _ h => .inl h⟩
theorem Turn.trans {b : Nat} {vj vw v1 u1 v2 u2 : Value} {w w1 w2 : World} (h : Turn b vj vw v1 u1 w w1) (k : Turn b v1 u1 v2 u2 w1 w2) : Turn b vj vw v2 u2 w w2 := by
  have hs := h.size
  refine ⟨k.os.trans h.os, k.tape.trans h.tape, k.output.trans h.output, Nat.le_trans hs k.size, fun g hg hn => ?_, fun g hg => ?_, fun g hg => ?_⟩
  · rw [k.block g (by omega) ?_, h.block g hg hn]
    rintro (e | e | e)
    · exact hn (.inl e)
    · rcases h.kj g e with e | e
      · exact hn (.inr (.inl e))
      · omega
    · rcases h.kw g e with e | e
      · exact hn (.inr (.inr e))
      · omega
  · rcases k.kj g hg with e | e
    · exact h.kj g e
    · exact .inr (by omega)
  · rcases k.kw g hg with e | e
    · exact h.kw g e
    · exact .inr (by omega)
theorem Turn.below {b : Nat} {vj vw v1 u1 : Value} {w w1 w2 : World} (h : Turn b vj vw v1 u1 w w1) (k : Below w1.heap.size w1 w2) : Turn b vj vw v1 u1 w w2 := by
  have hs := h.size
  exact ⟨k.os.trans h.os, k.tape.trans h.tape, k.output.trans h.output, Nat.le_trans hs k.size, fun g hg hn => by rw [k.block g (by omega), h.block g hg hn], h.kj, h.kw⟩
theorem Turn.ofBelow {b : Nat} {vj vw : Value} {w w1 : World} (k : Below w.heap.size w w1) : Turn b vj vw vj vw w w1 := (Turn.refl b vj vw w).below k
theorem Turn.drewN {b : Nat} {vj vw v1 u1 : Value} {w w1 : World} (h : Turn b vj vw v1 u1 w w1) (n : Nat) : Turn b vj vw v1 u1 w (w1.drewN n) := ⟨h.os, h.tape, h.output, h.size, h.block, h.kj, h.kw⟩
theorem Turn.set {b : Nat} {vj vw v1 u1 : Value} {w w1 : World} (h : Turn b vj vw v1 u1 w w1) (o : Nat) (v : Value) : Turn b vj vw v1 u1 w (w1.setCell ⟨b, o, none⟩ v) := by
  refine ⟨h.os, h.tape, h.output, by simpa using h.size, fun g hg hn => ?_, h.kj, h.kw⟩
  rw [Below.heap_setCell _ _ _ _ (fun e => hn (.inl e))]
  exact h.block g hg hn
/-- An operation leaves what lay below the queue's base alone. -/
theorem Turn.base {B b : Nat} {q : Que} {vj vw v1 u1 : Value} {w w1 : World} (h : Turn b vj vw v1 u1 w w1) (hq : QAt w B b q vj vw) (hB : B ≤ w.heap.size) : Below B w w1 := by
  refine ⟨h.os, h.tape, h.output, h.size, fun g hg => h.block g (by omega) fun e => ?_⟩
  have := (hq.inq e).1
  omega
theorem Own.turn {α : Type} {w w' : World} {base : Nat} {e : TypeId} {k : Nat} {enc : α → List Value} {v : Value} {xs : List α} {b : Nat} {vj vw v1 u1 : Value} (h : Own w base e k enc v xs) (hT : Turn b vj vw v1 u1 w w') (hn : ∀ g, v.ownBlock = some g → ¬ InQ b vj vw g) : Own w' base e k enc v xs := by
  refine ⟨h.1, ?_⟩
  rcases h.2 with hv | ⟨g, cap, cur, rfl, hbg, hg, rest⟩
  · exact .inl hv
  · refine .inr ⟨g, cap, cur, rfl, hbg, ?_, rest⟩
    rw [hT.block g (Array.getElem?_eq_some_iff.1 hg).1 (hn g rfl)]
    exact hg
theorem own_other {α : Type} {w : World} {base : Nat} {e : TypeId} {k : Nat} {enc : α → List Value} {u : Value} {xs : List α} {b i : Nat} (h : Own w base e k enc u xs) (hn : u.ownBlock ≠ some b) (v : Value) : Own (w.setCell ⟨b, i, none⟩ v) base e k enc u xs := by
  refine ⟨h.1, ?_⟩
  rcases h.2 with hv | ⟨g, cap, cur, rfl, hbg, hg, rest⟩
  · exact .inl hv
  · refine .inr ⟨g, cap, cur, rfl, hbg, ?_, rest⟩
    rw [Below.heap_setCell _ _ _ _ (fun e => hn (by rw [show b = g from e.symm]; rfl))]
    exact hg
/-- Another cell of the queue's own block is written. -/
theorem QAt.put {w : World} {B b : Nat} {q : Que} {vj vw : Value} (h : QAt w B b q vj vw) {i : Nat} (hi : i < 11) (v : Value) {q' : Que} (hj : q'.jobs = q.jobs) (hw : q'.writes = q.writes) (hF : ∀ j, j < 11 → (if j = i then v else queF q vj vw j) = queF q' vj vw j) : QAt (w.setCell ⟨b, i, none⟩ v) B b q' vj vw :=
  ⟨(h.tab.set hi v).congr hF, by rw [hj]; exact own_other h.jobs (fun e => h.nj e) v, by rw [hw]; exact own_other h.wr (fun e => h.nw e) v, h.bb, h.nj, h.nw, h.jw⟩
end Go.Proofs.YtnnnihjagjfkdaaGreatDoor
