/-
  The law GangSurplusSums: its walk. Own text.
-/
import Derived.Test.YtimofofaeedcoaaSur2
import Derived.Test.YtimofofaeedcoaaGang3
namespace Go.Proofs.Ytimofofaeedcoaa
open Go.RowKit
set_option linter.unusedVariables false
theorem fchk_zero {ds : List Int} {fs : List Form} (h : fchk ds fs = 0) : gchk ds 1 = 0 ∧ fs.length ≤ 12 ∧ ∀ j (hj : j < fs.length), formErr ds.length fs[j] = 0 := by
  unfold fchk at h
  split at h
  · omega
  · split at h
    · omega
    · exact ⟨by omega, by omega, formsFirst_zero h⟩
theorem surV_length (ds : List Int) (fs : List Form) : (surV ds fs).length = ds.length := subTo_length _ _ _
theorem surV_take {ds : List Int} {fs : List Form} {k : Nat} (h : k < ds.length) : (surV ds fs).take (k + 1) = (surV ds fs).take k ++ [sumAt (allItems fs) k - ds[k]] := by
  have h2 : k < (surV ds fs).length := by rw [surV_length]; exact h
  rw [List.take_succ_eq_append_getElem h2, surV_get ds fs k h h2]
/-- What the law has found so far. -/
def FoundTo (ds : List Int) (fs : List Form) (k : Nat) (c : Int) : Prop :=
  (c = 0 ∧ ∀ j (hj : j < ds.length), j < k → 0 ≤ sumAt (allItems fs) j - ds[j]) ∨ (c = 12 ∧ shortB ds fs = false)
theorem FoundTo.end {ds : List Int} {fs : List Form} {k : Nat} {c : Int} (h : FoundTo ds fs k c) (hk : ds.length ≤ k) (hz : fchk ds fs = 0) : surErr ds fs = c := by
  rcases h with ⟨rfl, h⟩ | ⟨rfl, h⟩
  · exact surErr_ok hz (shortB_true fun j hj => h j hj (by omega))
  · exact surErr_short hz h
theorem FoundTo.neg {ds : List Int} {fs : List Form} {k : Nat} (h : k < ds.length) (hs : sumAt (allItems fs) k - ds[k] < 0) (k' : Nat) : FoundTo ds fs k' 12 := .inr ⟨rfl, shortB_false h hs⟩
theorem FoundTo.pos {ds : List Int} {fs : List Form} {k : Nat} {c : Int} (h : FoundTo ds fs k c) (hl : k < ds.length) (hs : 0 ≤ sumAt (allItems fs) k - ds[k]) : FoundTo ds fs (k + 1) c := by
  rcases h with ⟨rfl, h⟩ | h
  · refine .inl ⟨rfl, fun j hj hjk => ?_⟩
    by_cases e : j = k
    · subst e; exact hs
    · exact h j hj (by omega)
  · exact .inr h
end Go.Proofs.Ytimofofaeedcoaa
