/-
  A made slice of structs of two cells. Own text.
-/
import Derived.Test.YtcpjpmijfjdifaaGreatDoorTNumP
import Derived.Test.YtcpjpmijfjdifaaGreatDoorRowsB
namespace Go.Proofs.YtcpjpmijfjdifaaGreatDoor
open Go.RowKit
set_option linter.unusedVariables false
theorem run_make2 {P : Program} {t e : TypeId} {z : Value} {bytes : Nat} (hE : ElemType P e z 2 bytes) (ht : P.underlying t = some (.slice e)) (z0 z1 : Value) (hz : z.cells = #[z0, z1]) (n : Nat) (hb : bytes * n ≤ 281474976710656) (h63 : n ≤ 9223372036854775807) :
    ∀ w : World, (Instr.makeSlice t (.int .i64 (n : Int)) (.int .i64 (n : Int))).run P w = .ok (.slice (some ⟨w.heap.size, 0, none⟩) n n) (w.alloc (.cells (madeCells #[z0, z1] (n * 2)) e)) := by
  intro w
  obtain ⟨i, hi, hz', hsz, hby, hzs, h0⟩ := hE
  have hb2 : (i.bytes : Int) * (n : Int) ≤ 281474976710656 := by
    subst hby
    have h : ((i.bytes * n : Nat) : Int) ≤ 281474976710656 := by omega
    rwa [Int.natCast_mul] at h
  have hr := run_make (P := P) w t e i z ht hi hz' .i64 .i64 n n (by omega) (by omega) hb2 (by omega)
  rw [hr, hz, hsz]
  rfl
theorem madeCells2_get (z0 z1 : Value) {m i : Nat} (h : i < m) : (madeCells #[z0, z1] m)[i]? = some (if i % 2 = 0 then z0 else z1) := by
  have h2 := Nat.mod_lt i (show 0 < 2 by decide)
  simp only [madeCells, Array.getElem?_map, Array.getElem?_range, h, if_true, Option.map_some]
  show some ((#[z0, z1] : Array Value)[i % 2]!) = _
  rcases Nat.mod_two_eq_zero_or_one i with e | e
  · rw [e, if_pos rfl]; rfl
  · rw [e, if_neg (by decide)]; rfl
theorem flat_made2 (w : World) (n : Nat) (e : TypeId) : Flat (w.alloc (.cells (madeCells #[.int .i64 0, .bool false] (n * 2)) e)) 2 encPt (some ⟨w.heap.size, 0, none⟩) (zeroRow n) := by
  intro i hi j hj
  have hi' : i < n := by simpa [zeroRow] using hi
  have hx : (zeroRow n)[i] = ⟨0, false⟩ := by simp [zeroRow]
  rw [hx]
  have hm : (i * 2 + j) % 2 = j := by omega
  have hc : (madeCells #[.int .i64 0, .bool false] (n * 2))[i * 2 + j]? = some (if (i * 2 + j) % 2 = 0 then .int .i64 0 else .bool false) := madeCells2_get _ _ (by omega)
  refine ⟨if j = 0 then .int .i64 0 else .bool false, ?_, w.heap.size, 0, rfl, ?_⟩
  · match j, hj with
    | 0, _ => rfl
    | 1, _ => rfl
  · rw [Nat.zero_add, cell_of_row _ w.heap.size (i * 2 + j) _ e (0, 0) (heap_alloc_new w _), hc, hm]
end Go.Proofs.YtcpjpmijfjdifaaGreatDoor
