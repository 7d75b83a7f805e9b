/-
  A made array as an equation of the run (for regions that draw their order). General over the program. Own text.
-/
import Derived.Test.YtnnnihjagjfkdaaGreatDoorFTab
namespace Go.Proofs.YtnnnihjagjfkdaaGreatDoor
open Go.RowKit
set_option linter.unusedVariables false
/-- The cells of a new array. -/
def madeArr (z : Value) (n : Nat) : Array Value := madeCells #[z] (n * 1)
theorem run_makeArr {P : Program} {t e : TypeId} {z : Value} {bytes : Nat} (hE : ElemType P e z 1 bytes) (ht : P.underlying t = some (.slice e)) (zc : Value) (hz : z.cells = #[zc]) (n : Nat) (hb : bytes * n ≤ 281474976710656) (h63 : n ≤ 9223372036854775807) :
    ∀ w : World, (Instr.makeSlice t (.int .i64 (n : Int)) (.int .i64 (n : Int))).run P w = .ok (.slice (some ⟨w.heap.size, 0, none⟩) n n) (w.alloc (.cells (madeArr zc n) e)) := by
  intro w
  obtain ⟨i, hi, hz', hsz, hby, hzs, h0⟩ := hE
  have hb2 : (i.bytes : Int) * (n : Int) ≤ 281474976710656 := by
    subst hby
    have h : ((i.bytes * n : Nat) : Int) ≤ 281474976710656 := by omega
    rwa [Int.natCast_mul] at h
  have hr := run_make (P := P) w t e i z ht hi hz' .i64 .i64 n n (by omega) (by omega) hb2 (by omega)
  rw [hr, hz, hsz]
  rfl
theorem madeArr_get (z : Value) {n i : Nat} (h : i < n) : (madeArr z n)[i]? = some z := by
  simp [madeArr, madeCells, h, Nat.mod_one]
theorem FTab.made {α : Type} (f : α → Value) (w : World) (n : Nat) (z0 : α) (e : TypeId) : FTab f (w.alloc (.cells (madeArr (f z0) n) e)) w.heap.size n (fun _ => z0) := by
  refine ⟨fun i hi => ?_, fun o => ?_⟩
  · rw [cell_of_row _ w.heap.size i _ e (0, 0) (heap_alloc_new w _)]
    exact madeArr_get _ hi
  · unfold World.frozen?
    rw [heap_alloc_new]
    simp
end Go.Proofs.YtnnnihjagjfkdaaGreatDoor
