/-
  The law CutBestGrows: slices.Clone on kinds; its walk. Own text.
-/
import Derived.Test.YthalimgejohffaaBest
import Derived.Test.YthalimgejohffaaConcatItems
import Derived.Test.YthalimgejohffaaCuts
import Derived.WalkSpells
namespace Go.Proofs.Ythalimgejohffaa
open Go.RowKit
set_option linter.unusedVariables false
def turned (p : Item) : Item := { p with turn := true }
def turnTo (l : List Item) : Nat → List Item
  | 0 => l
  | q + 1 => match l[q]? with
    | some p => (turnTo l q).set q (turned p)
    | none => turnTo l q
theorem turnTo_length (l : List Item) : ∀ q, (turnTo l q).length = l.length := by
  intro q
  induction q with
  | zero => rfl
  | succ q ih =>
    simp only [turnTo]
    split
    · rw [List.length_set, ih]
    · exact ih
theorem turnTo_succ {l : List Item} {q : Nat} (h : q < l.length) : turnTo l (q + 1) = (turnTo l q).set q (turned l[q]) := by
  simp only [turnTo, List.getElem?_eq_getElem h]
theorem turnTo_get (l : List Item) : ∀ q, ∀ i (h : i < l.length) (h2 : i < (turnTo l q).length), (turnTo l q)[i] = if i < q then turned l[i] else l[i] := by
  intro q
  induction q with
  | zero => intro i h h2; rfl
  | succ q ih =>
    intro i h h2
    by_cases hq : q < l.length
    · have e := turnTo_succ hq
      have h3 : i < ((turnTo l q).set q (turned l[q])).length := by rw [List.length_set, turnTo_length]; exact h
      have h4 : i < (turnTo l q).length := by rw [turnTo_length]; exact h
      have : (turnTo l (q + 1))[i] = ((turnTo l q).set q (turned l[q]))[i] := by simp only [e]
      rw [this, List.getElem_set]
      by_cases e2 : q = i
      · subst e2
        rw [if_pos rfl, if_pos (by omega)]
      · rw [if_neg e2, ih i h h4]
        by_cases h5 : i < q
        · rw [if_pos h5, if_pos (by omega)]
        · rw [if_neg h5, if_neg (by omega)]
    · have e : turnTo l (q + 1) = turnTo l q := by simp only [turnTo, List.getElem?_eq_none (show l.length ≤ q by omega)]
      have h4 : i < (turnTo l q).length := by rw [turnTo_length]; exact h
      have : (turnTo l (q + 1))[i] = (turnTo l q)[i] := by simp only [e]
      rw [this, ih i h h4, if_pos (by omega), if_pos (by omega)]
theorem turnTo_all (l : List Item) : turnTo l l.length = l.map turned := by
  apply List.ext_getElem
  · rw [turnTo_length, List.length_map]
  · intro i h1 h2
    have h : i < l.length := by rw [List.length_map] at h2; exact h2
    rw [turnTo_get l l.length i h h1, if_pos h, List.getElem_map]
theorem flat_turn : ∀ (l : List Item) (q : Nat) (h : q < l.length), (l.flatMap encItem).set (q * 4 + 3) (.bool true) = (l.set q (turned l[q])).flatMap encItem := by
  intro l
  induction l with
  | nil => intro q h; simp at h
  | cons p l ih =>
    intro q h
    cases q with
    | zero => simp [encItem, turned]
    | succ q =>
      have h2 : q < l.length := by simpa using h
      have e := ih q h2
      rw [List.flatMap_cons, show (q + 1) * 4 + 3 = (q * 4 + 3) + 1 + 1 + 1 + 1 from by omega]
      show (encItem p ++ l.flatMap encItem).set (q * 4 + 3 + 1 + 1 + 1 + 1) (.bool true) = ((p :: l.set q (turned l[q])).flatMap encItem)
      rw [List.flatMap_cons, ← e]
      rfl
theorem turned_ok {l : List Item} (h : itemsErr l = 0) : itemsErr (l.map turned) = 0 := by
  obtain ⟨h8, ha⟩ := itemsErr_zero h
  refine itemsErr_ok (by rw [List.length_map]; omega) (k := (l.map turned).length) (fun j hj _ => ?_) (Nat.le_refl _)
  have hj2 : j < l.length := by simpa using hj
  rw [List.getElem_map]
  exact decide_eq_true (ha j hj2)
theorem turned_fits {p : Item} {w h : Int} (hf : fitsB p w h = true) : fitsB (turned p) w h = true ∧ fitsB (turned p) h w = true := by
  unfold fitsB turned at *
  simp only [Bool.or_eq_true, Bool.and_eq_true, beq_iff_eq, Bool.true_and] at *
  rcases hf with ⟨h1, h2⟩ | ⟨⟨_, h1⟩, h2⟩
  · exact ⟨.inl ⟨h1, h2⟩, .inr ⟨h1, h2⟩⟩
  · exact ⟨.inr ⟨h1, h2⟩, .inl ⟨h1, h2⟩⟩
theorem turned_swap {p : Item} {w h : Int} (hf : fitsB (turned p) w h = true) : fitsB (turned p) h w = true := by
  unfold fitsB turned at *
  simp only [Bool.or_eq_true, Bool.and_eq_true, beq_iff_eq, Bool.true_and] at *
  omega
theorem turned_mono (l : List Item) {w h : Nat} (hw : 1 ≤ w) (hh : 1 ≤ h) : bval l w h ≤ bval (l.map turned) w h := by
  refine bval_mono (fun w h j hj hf => ⟨j, by rw [List.length_map]; exact hj, ?_, ?_⟩) (w + h) w h (Nat.le_refl _) hw hh
  · rw [List.getElem_map]; exact (turned_fits hf).1
  · rw [List.getElem_map]; exact Int.le_refl _
theorem turned_eq (l : List Item) {w h : Nat} (hw : 1 ≤ w) (hh : 1 ≤ h) : bval (l.map turned) w h = bval (l.map turned) h w := by
  have hs : ∀ (w h : Int) j (hj : j < (l.map turned).length), fitsB (l.map turned)[j] w h = true → fitsB (l.map turned)[j] h w = true := by
    intro w h j hj hf
    rw [List.getElem_map] at *
    exact turned_swap hf
  have h1 := bval_turn hs (w + h) w h (Nat.le_refl _) hw hh
  have h2 := bval_turn hs (h + w) h w (Nat.le_refl _) hh hw
  omega
theorem further_mono (k l : List Item) {w h : Nat} (hw : 1 ≤ w) (hh : 1 ≤ h) : bval l w h ≤ bval (k ++ l) w h := by
  refine bval_mono (fun w h j hj hf => ⟨k.length + j, by rw [List.length_append]; omega, ?_, ?_⟩) (w + h) w h (Nat.le_refl _) hw hh
  · rw [List.getElem_append_right (by omega)]; simpa using hf
  · rw [List.getElem_append_right (by omega)]; simp
theorem further_ok (x : Item) (its : List Item) : itemsErr (kindsV [x] ++ kindsV its) = 0 := by
  obtain ⟨h1, a1⟩ := itemsErr_zero (kindsV_ok [x])
  obtain ⟨h2, a2⟩ := itemsErr_zero (kindsV_ok its)
  have l1 : (kindsV [x]).length = 1 := rfl
  have l2 : (kindsV its).length ≤ 6 := by unfold kindsV; rw [List.length_map, List.length_take]; omega
  refine itemsErr_ok (by rw [List.length_append]; omega) (k := (kindsV [x] ++ kindsV its).length) (fun j hj _ => ?_) (Nat.le_refl _)
  unfold pieceOk
  by_cases e : j < (kindsV [x]).length
  · rw [List.getElem_append_left e]
    exact decide_eq_true (a1 j e)
  · rw [List.getElem_append_right (by omega)]
    exact decide_eq_true (a2 _ (by rw [List.length_append] at hj; omega))
/-- Returns a slice that the call owns. -/
def RetClone (xs : List Item) (w : World) (e : Ending) (w' : World) : Prop := ∃ v, e = .returned v ∧ Own w' w.heap.size 51 4 encItem v xs ∧ Below w.heap.size w w'
set_option maxHeartbeats 1000000 in
theorem cloneItems (oa : Option Addr) (xs : List Item) (cap : Nat) (w : World) (h0 : oa = none → cap = 0) (hm : xs.length ≤ 8) (hx : Flat w 4 encItem oa xs) :
    Calls Try.prog 28 #[.slice oa xs.length cap] w (RetClone xs w) := by
  have hq : ∀ (w : World) (a : Option Addr) (n c n' c' : Nat), (binOp .eql 22 (.slice a n c) (.slice none n' c')).run Try.prog w = .ok (.bool a.isNone) w := fun w a n c n' c' => Lib.run_eql_slice_nil w _ _ a n c n' c' Try.underlying22
  cases oa with
  | none =>
    have hxs : xs = [] := by
      cases xs with
      | nil => rfl
      | cons p l =>
        obtain ⟨_, _, b, off, e, _⟩ := hx 0 (by simp) 0 (by omega)
        cases e
    subst hxs
    have HF := Lib.hid (show RetClone [] w (.returned (.slice none 0 0)) w from ⟨_, rfl, Own.nil _ _ _ _ _, Below.refl _ _⟩)
    go_enter Try.func28, Try.ntmps28
    go_wp2
    go_ret
    exact HF.out
  | some ad =>
    have hb0 := balloc (Below.refl _ w) (.cells #[] 51)
    have hown := Own.lit w w.heap.size 4 encItem [] 51 (fun _ => rfl) (by decide) (Nat.le_refl _)
    have hxa := hx.below hb0
    have HS := Lib.hid (show IsSlice (w.alloc (.cells #[] 51)) 4 encItem (.slice (some ad) xs.length cap) xs from ⟨_, _, rfl, (fun h => by cases h), by unfold maxLen; omega, hxa⟩)
    clear h0 hx hxa
    go_enter Try.func28, Try.ntmps28
    go_wp2_with (at_builtin; go_must (refine wpList_appRow rfl (.tmp 5) (.tmp 6) 22 rfl elemItem Try.underlying22 w.heap.size _ [] encItem rfl hown xs _ rfl HS.out (fun _ => rfl) ?c1 ?c2 ?c3 ?c4 ?_))
    case c1 => intro y; simp [encItem, Value.oneCell']
    case c2 => simp; omega
    case c3 => simp; unfold maxLen; omega
    case c4 => simp
    intro v' w3 hown3 hg3
    have HF := Lib.hid (show RetClone xs w (.returned v') w3 from ⟨v', rfl, hown3, hown.grown hb0 (Nat.le_refl _) hg3⟩)
    clear hown3 hg3 hown
    go_wp2
    go_ret
    exact HF.out
end Go.Proofs.Ythalimgejohffaa
