/-
  clear of one element of several cells. Own text.
-/
import Derived.Test.YtnnnihjagjfkdaaGreatDoorLeased
import Derived.Lib.SliceRun
namespace Go.Proofs.YtnnnihjagjfkdaaGreatDoor
open Go.RowKit
set_option linter.unusedVariables false
theorem run_clear_one {P : Program} (w : World) (t e ty : TypeId) (z : Value) (zs : Array Value) (ht : P.underlying t = some (.slice e)) (hv : ∀ w, (zeroValue e).run P w = .ok z w) (hz : z.cells = zs) (h1 : ∀ u ∈ zs.toList, u.oneCell' = true) (b o c : Nat)
    (hc : ∀ j, j < zs.size → (w.cell? ⟨b, o + j, none⟩).isSome = true) (hf : ∀ j, j < zs.size → w.frozen? ⟨b, o + j, none⟩ = false) :
    (Builtin.clear_ #[t] ty #[.slice (some ⟨b, o, none⟩) 1 c]).run P w = .ok (.tuple #[]) (w.setCells b o zs.toList) := by
  have hzc : (Builtin.zeroCells z.cells 1).toList = zs.toList := by
    rw [hz]
    simp only [Builtin.zeroCells, Nat.one_mul, Array.toList_map, Array.toList_range]
    apply List.ext_getElem
    · simp
    · intro i h1 h2
      have h3 : i < zs.size := by simpa using h2
      simp [Nat.mod_eq_of_lt h3, h3]
  have hst := run_storeCells_cells (P := P) b o zs.toList 0 w (by simpa using hc) (by simpa using hf) h1
  simp only [Nat.add_zero] at hst
  simp [Builtin.clear_, run_underlying ht, hv, hzc, hst]
end Go.Proofs.YtnnnihjagjfkdaaGreatDoor
