/-
  slices.Equal and Contains at arguments of any length; the machine's first example. Own text.
-/
import Derived.Test.YtcpjpmijfjdifaaGreatDoorRun
import Derived.Test.YtcpjpmijfjdifaaGreatDoorCollP
namespace Go.Proofs.YtcpjpmijfjdifaaGreatDoor
open Go.RowKit
set_option linter.unusedVariables false
theorem equal_any (v u : Value) (xs : List Int) (w : World) (h : IsSlice w 1 encInt v xs) (h' : IsSlice w 1 encInt u xs) :
    Calls Tryz.prog 5 #[v, u] w fun e w' => e = .returned (.bool true) ∧ Below w.heap.size w w' := by
  obtain ⟨oa, c, rfl, h0, hm, hf⟩ := h
  obtain ⟨oa', c', rfl, h0', _, hf'⟩ := h'
  unfold maxLen at hm
  by_cases hx : xs.length = 0
  · obtain rfl : xs = [] := List.eq_nil_of_length_eq_zero hx
    exact (Tryz.slices_Equal_int_empty oa oa' c 0 c' w (by omega)).mono fun e w' ⟨h1, h2⟩ => ⟨h1, by rw [h2]; exact Below.refl _ _⟩
  · obtain ⟨b, off, rfl, _⟩ := hf.int (show 0 < xs.length by omega)
    obtain ⟨b', off', rfl, _⟩ := hf'.int (show 0 < xs.length by omega)
    have hk := Tryz.slices_Equal_int b off xs.length c b' off' xs.length c' xs xs w (Nat.le_refl _) (Nat.le_refl _) (by omega) (by omega) hf.cells hf'.cells
    rw [List.take_length] at hk
    refine hk.mono fun e w' ⟨h1, q, h2⟩ => ⟨?_, ?_⟩
    · rw [h1]; simp
    · rw [h2]; exact bdrewN (Below.refl _ _) q
theorem contains_is (v : Value) (xs : List Int) (x : Int) (w : World) (h : IsSlice w 1 encInt v xs) (r : Bool) (hr : xs.contains x = r) :
    Calls Tryz.prog 43 #[v, .int .i64 x] w fun e w' => e = .returned (.bool r) ∧ w = w' := by
  subst hr
  obtain ⟨oa, c, rfl, h0, hm, hf⟩ := h
  unfold maxLen at hm
  by_cases hx : xs.length = 0
  · obtain rfl : xs = [] := List.eq_nil_of_length_eq_zero hx
    exact (Tryz.slices_Contains_int_empty oa c x w).mono fun e w' ⟨h1, h2⟩ => ⟨h1, h2.symm⟩
  · obtain ⟨b, off, rfl, _⟩ := hf.int (show 0 < xs.length by omega)
    have hk := Tryz.slices_Contains_int b off xs.length c xs x w (Nat.le_refl _) (by omega) hf.cells
    rw [List.take_length] at hk
    exact hk.mono fun e w' ⟨h1, h2⟩ => ⟨h1, h2.symm⟩
/-! ### The first example -/
def exR : List Pt := [⟨1, false⟩, ⟨2, false⟩]
def exF : List (List Pt) := [exR, exR]
def exT : List Ft := [⟨0, 0, false⟩]
theorem ex_err : runErr exF exT = 0 := by decide
def exA1 : Nat → Nat := goOn exF exT 0 fun _ => 0
def exA2 : Nat → Nat := bumpV exF (mostV exF exA1) exA1
def exA3 : Nat → Nat := goOn exF exT 1 exA2
theorem ex_runs : Runs exF exT 0 (fun _ => 0) [] [] 2 exA3 [2] [usedV exF exA2] := by
  have e0 : mostV exF (fun _ => 0) = 1 := by decide
  have e2 : mostV exF exA2 = 2 := by decide
  have h0 : Align exF (fun _ => 0) (some 1) (fun _ => 0) := by rw [← e0]; exact .same _ (by decide) (by decide)
  have h1 : Align exF exA1 (some 2) exA2 := .step _ _ _ (by decide) (by decide) (by rw [← e2]; exact .same _ (by decide) (by decide))
  have h2 : Align exF exA3 none exA3 := .stop _ (by decide)
  exact .bad 0 2 _ _ _ 1 _ _ _ _ h0 (by decide) (.good 1 2 _ _ _ 2 _ _ _ _ h1 (by decide) (.stop 2 _ _ _ _ h2))
theorem ex_done {c : Nat} {a : Nat → Nat} {g : List Int} {p : List (List Int)} (h : Runs exF exT 0 (fun _ => 0) [] [] c a g p) : g = [2] ∧ finX exF g a 0 = [1] ∧ finX exF g a 2 = [1, 1] := by
  obtain ⟨rfl, rfl, rfl, rfl⟩ := h.det ex_runs
  refine ⟨rfl, (missing_is exF [2]).unique ⟨List.pairwise_singleton _ _, fun c => ?_⟩, by decide⟩
  constructor
  · intro h
    obtain rfl := List.mem_singleton.1 h
    exact ⟨by decide, by decide, exR, by simp [exF], ⟨1, false⟩, by simp [exR], rfl⟩
  · rintro ⟨h0, h1, l, hl, x, hx, rfl⟩
    simp [exF] at hl
    subst hl
    simp [exR] at hx
    rcases hx with rfl | rfl
    · simp
    · simp at h1
end Go.Proofs.YtcpjpmijfjdifaaGreatDoor
