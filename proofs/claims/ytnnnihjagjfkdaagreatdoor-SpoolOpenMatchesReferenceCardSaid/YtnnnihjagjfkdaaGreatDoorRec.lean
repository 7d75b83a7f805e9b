/-
  The walk of the scan's record. Own text.
-/
import Derived.Test.YtnnnihjagjfkdaaGreatDoorNumb
namespace Go.Proofs.YtnnnihjagjfkdaaGreatDoor
open Go.RowKit
set_option linter.unusedVariables false
def scF (s : Sc) : Nat → Value
  | 0 => .string (strB s.rest)
  | 1 => .int .i64 s.epoch
  | 2 => .int .i64 s.seq
  | _ => .int .i64 s.read
def ScAt (w : World) (b : Nat) (s : Sc) : Prop := FTab (fun v : Value => v) w b 4 (scF s)
theorem ScAt.lt {w : World} {b : Nat} {s : Sc} (h : ScAt w b s) : b < w.heap.size := FTab.lt h (by omega)
theorem ScAt.below {w w' : World} {b : Nat} {s : Sc} (h : ScAt w b s) (hb : Below w.heap.size w w') : ScAt w' b s := FTab.below h hb h.lt
theorem ScAt.put {w : World} {b : Nat} {s : Sc} (h : ScAt w b s) {i : Nat} (hi : i < 4) (v : Value) {s' : Sc} (hF : ∀ j, j < 4 → (if j = i then v else scF s j) = scF s' j) : ScAt (w.setCell ⟨b, i, none⟩ v) b s' := (FTab.set h hi v).congr hF
/-- Only the block b and new ones have turned. -/
structure Only (b : Nat) (w w' : World) : Prop where
  os : w'.os = w.os
  tape : w'.tape = w.tape
  output : w'.output = w.output
  size : w.heap.size ≤ w'.heap.size
  block : ∀ g, g < w.heap.size → g ≠ b → w'.heap[g]? = w.heap[g]?
theorem Only.refl (b : Nat) (w : World) : Only b w w := ⟨rfl, rfl, rfl, Nat.le_refl _, fun _ _ _ => rfl⟩
theorem Only.below {b : Nat} {w w1 w2 : World} (h : Only b w w1) (k : Below w1.heap.size w1 w2) : Only b w w2 := by
  have hs := h.size
  exact ⟨k.os.trans h.os, k.tape.trans h.tape, k.output.trans h.output, Nat.le_trans hs k.size, fun g hg hn => by rw [k.block g (by omega), h.block g hg hn]⟩
theorem Only.trans {b : Nat} {w w1 w2 : World} (h : Only b w w1) (k : Only b w1 w2) : Only b w w2 := by
  have hs := h.size
  exact ⟨k.os.trans h.os, k.tape.trans h.tape, k.output.trans h.output, Nat.le_trans hs k.size, fun g hg hn => by rw [k.block g (by omega) hn, h.block g hg hn]⟩
theorem Only.set {b : Nat} {w w1 : World} (h : Only b w w1) (o : Nat) (v : Value) : Only b w (w1.setCell ⟨b, o, none⟩ v) := by
  refine ⟨h.os, h.tape, h.output, by simpa using h.size, fun g hg hn => ?_⟩
  rw [Below.heap_setCell _ _ _ _ (fun e => hn e)]
  exact h.block g hg hn
theorem Only.drewN {b : Nat} {w w1 : World} (h : Only b w w1) (n : Nat) : Only b w (w1.drewN n) := ⟨h.os, h.tape, h.output, h.size, h.block⟩
theorem Only.cell {b : Nat} {w w1 : World} (h : Only b w w1) {g o : Nat} {v : Value} (hn : g ≠ b) (hc : w.cell? ⟨g, o, none⟩ = some v) : w1.cell? ⟨g, o, none⟩ = some v := by
  have hl := cell?_lt hc
  rw [World.cell?_of_block (h.block g hl hn)]
  exact hc
theorem Only.toBelow {b B : Nat} {w w1 : World} (h : Only b w w1) (hb : B ≤ b) (hB : B ≤ w.heap.size) : Below B w w1 := ⟨h.os, h.tape, h.output, h.size, fun g hg => h.block g (by omega) (by omega)⟩
/-- What is asked of a scan. -/
structure ScOk (s : Sc) : Prop where
  len : (s.rest.length : Int) + s.read ≤ 65536
  rd : 0 ≤ s.read
  sq : 0 ≤ s.seq ∧ s.seq ≤ s.read
  ep : -9223372036854775808 ≤ s.epoch ∧ s.epoch ≤ 9223372036854775807
theorem epochV_bd {s : Sc} (h : ScOk s) (ws : List (List UInt8)) : -9223372036854775808 ≤ epochV s ws ∧ epochV s ws ≤ 9223372036854775807 := by
  unfold epochV
  split
  · exact numV_bd _
  · exact h.ep
def wordCells (ws : List (List UInt8)) : Array Value := (ws.map fun x => Value.string (strB x)).toArray
theorem cut_any (s : List UInt8) (w : World) (hs : s.length ≤ 1000000) (ht : Tabz w) :
    Calls Tryz.prog 37 #[.string (strB s), .string ⟨#[10]⟩] w fun e w' => (∃ n, w' = w.drewN n) ∧ match cutNl s with
      | some p => e = .returned (.tuple #[.string (strB p.1), .string (strB p.2), .bool true])
      | none => e = .returned (.tuple #[.string (strB s), .string ⟨#[]⟩, .bool false]) := by
  obtain ⟨m, hm⟩ := ht.ml
  refine (Tryz.strings_Cut (strB s) ⟨#[10]⟩ m w (by rw [strB_size]; omega) hm).mono ?_
  rintro e w' ⟨rfl, n, rfl⟩
  refine ⟨⟨n, rfl⟩, ?_⟩
  have e1 : Lib.cut (strB s).data.toList (⟨#[10]⟩ : ByteArray).data.toList = Lib.cut s [10] := rfl
  rw [e1, cut_nl]
  cases cutNl s with
  | none => rfl
  | some p => rfl
theorem split_any (s : List UInt8) (w : World) (hs : s.length ≤ 1000000) (ht : Tabz w) :
    Calls Tryz.prog 38 #[.string (strB s), .string ⟨#[32]⟩] w fun e w' => e = .returned (.slice (some ⟨w.heap.size, 0, none⟩) (wordsV s).length (wordsV s).length) ∧ w' = w.alloc (.cells (wordCells (wordsV s)) 9) := by
  obtain ⟨m, hm⟩ := ht.ml
  have hsp := Lib.splitB_data ⟨#[32]⟩ 0 (Lib.countB (strB s) ⟨#[32]⟩) (strB s)
  have e1 : Lib.splitK (⟨#[32]⟩ : ByteArray).data.toList 0 (Lib.countB (strB s) ⟨#[32]⟩) (strB s).data.toList = wordsV s := split_words s
  rw [e1] at hsp
  have hl := Lib.splitB_all ⟨#[32]⟩ (by decide) 0 _ (strB s) rfl
  have hl2 : Lib.countB (strB s) ⟨#[32]⟩ + 1 = (wordsV s).length := by rw [← hl, ← hsp, List.length_map]
  have hc : ((Lib.splitB ⟨#[32]⟩ 0 (Lib.countB (strB s) ⟨#[32]⟩) (strB s)).map Value.string).toArray = wordCells (wordsV s) := by
    unfold wordCells
    rw [← hsp, List.map_map]
    congr 1
  refine (Tryz.strings_Split (strB s) ⟨#[32]⟩ m w (by rw [strB_size]; omega) hm (by decide)).mono ?_
  rintro e w' ⟨rfl, rfl⟩
  rw [hl2, hc]
  exact ⟨rfl, rfl⟩
theorem wordCells_at (w : World) (ws : List (List UInt8)) {j : Nat} {x : List UInt8} (h : ws[j]? = some x) : (w.alloc (.cells (wordCells ws) 9)).cell? ⟨w.heap.size, j, none⟩ = some (.string (strB x)) := by
  rw [cell_of_row _ w.heap.size j _ _ (0, 0) (heap_alloc_new w _)]
  unfold wordCells
  simp [h]
theorem word_le (l : List UInt8) : ∀ w ∈ wordsV l, w.length ≤ l.length := by
  induction l with
  | nil => intro w hw; simp [wordsV] at hw; simp [hw]
  | cons c r ih =>
    intro w hw
    unfold wordsV at hw
    split at hw
    · rcases List.mem_cons.1 hw with rfl | hw
      · simp
      · have := ih w hw; simp only [List.length_cons]; omega
    · cases e : wordsV r with
      | nil => rw [e] at hw; simp at hw; simp [hw]
      | cons y ys =>
        rw [e] at hw
        rcases List.mem_cons.1 hw with rfl | hw
        · have := ih y (by rw [e]; simp); simp only [List.length_cons]; omega
        · have := ih w (by rw [e]; simp [hw]); simp only [List.length_cons]; omega
theorem run_add (a b : ByteArray) (h : a.size + b.size ≤ 1000000) (w : World) : (binOp .add 9 (.string a) (.string b)).run Tryz.prog w = .ok (.string (a ++ b)) w := by
  go_simp
  omega
end Go.Proofs.YtnnnihjagjfkdaaGreatDoor
