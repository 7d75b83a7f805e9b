/-
  slices.Delete of one int: the library's contract at this program's numbers, said of a table. Own text.
-/
import Derived.Test.YtjggcnpnjnmamaaWashT
import Derived.Test.YtjggcnpnjnmamaaAug
import Derived.Shelf.Slices.Delete
import Derived.Lib.OwnBridge
namespace Go.Proofs.Ytjggcnpnjnmamaa
open Go.RowKit Go.Shelf Go.Lib Go.Sort
set_option linter.unusedVariables false
/-- The numbers of the library's closure in this program. -/
def renD : Ren := ⟨fun x => if x = 23 then 36 else x, fun x => if x = 0 then 0 else if x = 3 then 3 else if x = 4 then 4 else if x = 22 then 25 else x, fun x => x⟩
theorem layD : Lays2.n23 Try.prog renD := {
  mixed := by kernel_rfl
  f23 := by kernel_rfl
  t0 := by kernel_rfl
  a0 := fun w => by kernel_rfl
  z0 := fun w => by kernel_rfl
  v0 := fun w => by kernel_rfl
  t3 := by kernel_rfl
  a3 := fun w => by kernel_rfl
  z3 := fun w => by kernel_rfl
  v3 := fun w => by kernel_rfl
  t4 := by kernel_rfl
  a4 := fun w => by kernel_rfl
  z4 := fun w => by kernel_rfl
  v4 := fun w => by kernel_rfl
  t22 := by kernel_rfl
  a22 := fun w => by kernel_rfl
  z22 := fun w => by kernel_rfl
  v22 := fun w => by kernel_rfl
  i3 := by kernel_rfl }
theorem FTab.holds {w : World} {g n : Nat} {t : Nat → Int} (h : FTab (Value.int .i64) w g n t) : Holds encI w g 0 (lst n t).toArray := by
  intro j hj
  have hj' : j < n := by simpa [lst] using hj
  refine ⟨?_, ?_⟩
  · rw [Nat.zero_add, h.at' j hj', getElem!_pos _ j hj]
    simp [lst]
  · rw [Nat.zero_add]; exact h.fz j
theorem delete_one (g n cap a : Nat) (t : Nat → Int) (w : World) (h : FTab (Value.int .i64) w g n t) (hcap : n ≤ cap) (hm : cap ≤ 9223372036854775807) (ha : a < n) :
    Calls Try.prog 36 #[.slice (some ⟨g, 0, none⟩) n cap, .int .i64 a, .int .i64 ((a + 1 : Nat) : Int)] w fun e w' => e = .returned (.slice (some ⟨g, 0, none⟩) (n - 1) cap) ∧ Below g w w' ∧ FTab (Value.int .i64) w' g (n - 1) (fun i => t (skp a i)) := by
  have hs : (lst n t).toArray.size = n := by simp [lst]
  have hc := Any.slices_Delete_int_arr layD g 0 cap a (a + 1) (lst n t).toArray w h.holds (by rw [hs]; exact hcap) hm (by omega) (by rw [hs]; omega)
  rw [hs] at hc
  refine hc.mono ?_
  rintro e w' ⟨rfl, q, rfl⟩
  refine ⟨by rw [show a + 1 - a = 1 by omega], below_putRow (Below.refl _ _) (Nat.le_refl _), ?_⟩
  have hl : ((lst n t).toArray.toList.take a ++ (lst n t).toArray.toList.drop (a + 1) ++ List.replicate (a + 1 - a) (0 : Int)).toArray.size = n := by simp [lst]; omega
  have hh := holds_putRow encI (Sort.ahead w q) g 0 (lst n t).toArray _ (holds_ahead encI w q g 0 _ h.holds) (hl.trans hs.symm)
  refine ⟨fun i hi => ?_, fun o => ?_⟩
  · have h1 := (hh i (by rw [hl]; omega)).1
    rw [Nat.zero_add, getElem!_pos _ i (by rw [hl]; omega)] at h1
    rw [h1]
    have key : ((lst n t).toArray.toList.take a ++ (lst n t).toArray.toList.drop (a + 1) ++ List.replicate (a + 1 - a) (0 : Int)).toArray[i]'(by rw [hl]; omega) = t (skp a i) := by
      simp only [List.getElem_toArray]
      unfold skp
      by_cases e : i < a
      · rw [if_pos e, List.getElem_append_left (by simp [lst]; omega), List.getElem_append_left (by simp [lst]; omega)]
        simp [lst]
      · rw [if_neg e, List.getElem_append_left (by simp [lst]; omega), List.getElem_append_right (by simp [lst]; omega)]
        simp [lst]
        congr 1
        omega
    rw [key]
  · rw [frozen?_putRow]
    exact h.fz o
end Go.Proofs.Ytjggcnpnjnmamaa
