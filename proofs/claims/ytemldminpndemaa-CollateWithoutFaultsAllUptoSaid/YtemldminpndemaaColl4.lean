/-
  The machine's first example, as the laws of printworkskeep4 ask for it. Own text.
-/
import Derived.Test.YtemldminpndemaaEx
namespace Go.Proofs.Ytemldminpndemaa
open Go.RowKit
set_option linter.unusedVariables false
set_option maxRecDepth 100000 in
set_option maxHeartbeats 4000000 in
theorem collates4_any (w : World) : Calls Try.prog 15 #[] w (RetTrue w) := by
  go_enter Try.func15, Try.ntmps15
  go_wp2_with fail
  refine (ex_run w).mono ?_
  rintro e w2 h
  obtain ⟨c, og, cg, op, cp, o0, c0, o1, c1, o2, c2, o3, c3, Z, rfl, h1, h2, -, hb⟩ := ex_ret h
  have HB := Lib.hid ((exW_below w).trans (hb.mono (exW_below w).size))
  have HG := Lib.hid (h1.isSlice (fun _ => rfl))
  have HM := Lib.hid (h2.isSlice (fun _ => rfl))
  have HS : Hid (∀ o, (w2.alloc o).heap.size = w2.heap.size + 1) := fun o => World.size_alloc _ _
  clear h hb h1 h2
  go_wp2_with fail
  refine (equal_any _ _ [2] _ (HG.out.below (balloc (balloc (Below.refl _ _) _) _)) (lit1 (HS.out _) 2)).mono ?_
  rintro e w5 ⟨rfl, hb5⟩
  have HB5 : Hid (Below w2.heap.size w2 w5) := (balloc (balloc (Below.refl _ w2) _) _).trans (hb5.mono (by simp; omega))
  have c2 : w5.cell? ⟨w2.heap.size, 2, none⟩ = some (.slice o0 1 c0) := by
    refine keepCell hb5 ?_
    refine keepCell (balloc (Below.refl _ _) _) ?_
    rw [cell_of_row _ w2.heap.size 2 _ _ (0, 0) (heap_alloc_new w2 _)]
    rfl
  clear hb5 HS
  go_wp2_with fail
  refine (equal_any _ _ [1] _ (HM.out.below (HB5.out.trans ((balloc (Below.refl _ _) _).mono HB5.out.size))) (lit1 rfl 1)).mono ?_
  rintro e w6 ⟨rfl, hb6⟩
  have HB6 : Hid (Below w.heap.size w w6) := HB.out.trans ((HB5.out.trans (((balloc (Below.refl _ _) _).trans (hb6.mono (balloc (Below.refl _ _) _).size)).mono HB5.out.size)).mono HB.out.size)
  clear hb6
  go_wp2
  go_ret
  exact ⟨rfl, HB6.out⟩
end Go.Proofs.Ytemldminpndemaa
