/-
  slices.Sort, Compact, Contains at rows of ints that the call owns. Own text.
-/
import Derived.Test.YtcpjpmijfjdifaaGreatDoorCycV
import Derived.Test.YtcpjpmijfjdifaaGreatDoorShelf
import Derived.Lib.OwnBridge
import Derived.Lib.AppendIntMem
namespace Go.Proofs.YtcpjpmijfjdifaaGreatDoor
open Go.RowKit
set_option linter.unusedVariables false
theorem below_growW (w : World) (os : Array Obj) : Below w.heap.size w (Go.Sort.grow w os) := by
  have h := Go.Lib.below_grow w.heap.size w (Nat.le_refl _) 0 os
  exact h
theorem flatMap_encInt (xs : List Int) : xs.flatMap encInt = xs.map (Value.int .i64) := flatMap_enc1 (Value.int .i64) xs
theorem own_ints {w : World} {Z : Nat} {v : Value} {xs : List Int} : Own w Z 3 1 encInt v xs ↔ w.ownsRow Z 3 1 v xs.length (xs.map (Value.int .i64)) := by
  unfold Own
  rw [flatMap_encInt]
def srt (xs : List Int) : List Int := xs.mergeSort fun x y => decide (x ≤ y)
theorem srt_perm (xs : List Int) : (srt xs).Perm xs := List.mergeSort_perm _ _
theorem srt_len (xs : List Int) : (srt xs).length = xs.length := (srt_perm xs).length_eq
theorem srt_sorted (xs : List Int) : (srt xs).Pairwise (· ≤ ·) := by
  have h := List.pairwise_mergeSort (le := fun x y : Int => decide (x ≤ y)) (fun a b c h1 h2 => by simp at *; omega) (fun a b => by simp; omega) xs
  exact h.imp fun h => by simpa using h
theorem grownBy_row {w : World} {g n : Nat} {d : Array Int} {os : Array Obj} : w.grownBy (Go.Sort.grow (Go.Sort.putRow (Value.int .i64) (Go.Sort.ahead w n) g 0 d) os) (some g) := by
  refine ⟨rfl, rfl, rfl, ?_, fun k hk hne => ?_⟩
  · simp [Go.Sort.grow, Go.Sort.putRow, Go.Sort.mapBlock, Go.Sort.ahead]
  · have hne' : g ≠ k := fun e => hne (by rw [e])
    simp [Go.Sort.grow, Go.Sort.putRow, Go.Sort.mapBlock, Go.Sort.ahead, Array.getElem?_append, hk, Array.getElem_modify, hne']
theorem grownBy_row0 {w : World} {g n : Nat} {d : Array Int} : w.grownBy (Go.Sort.putRow (Value.int .i64) (Go.Sort.ahead w n) g 0 d) (some g) := by
  refine ⟨rfl, rfl, rfl, ?_, fun k hk hne => ?_⟩
  · simp [Go.Sort.putRow, Go.Sort.mapBlock, Go.Sort.ahead]
  · have hne' : g ≠ k := fun e => hne (by rw [e])
    simp [Go.Sort.putRow, Go.Sort.mapBlock, Go.Sort.ahead, Array.getElem?_modify, hne']
theorem grownBy_refl (w : World) (r : Option Nat) : w.grownBy w r := ⟨rfl, rfl, rfl, Nat.le_refl _, fun _ _ _ => rfl⟩
def RetSort (Z : Nat) (v : Value) (ys : List Int) (w : World) (e : Ending) (w' : World) : Prop := e = .returned (.tuple #[]) ∧ Own w' Z 3 1 encInt v ys ∧ w.grownBy w' v.ownBlock
theorem sort_any (Z : Nat) (v : Value) (xs : List Int) (w : World) (h : Own w Z 3 1 encInt v xs) (hm : xs.length ≤ 1000000) :
    Calls Tryz.prog 44 #[v] w (RetSort Z v (srt xs) w) := by
  by_cases hv : v = .slice none 0 0
  · subst hv
    have hx : xs = [] := by
      rcases h.2 with ⟨_, hn⟩ | ⟨g, cap, cur, e, _⟩
      · exact List.eq_nil_of_length_eq_zero hn
      · cases e
    subst hx
    refine (Tryz.slices_Sort_int_none none 0 w).mono ?_
    rintro e w' ⟨rfl, rfl⟩
    have e : srt [] = [] := by simp [srt]
    exact ⟨rfl, by rw [e]; exact h, grownBy_refl _ _⟩
  · have h1 := own_ints.1 h
    obtain ⟨g, cap, rfl, hz, hg, hc, hcm, _, hH⟩ := Go.Lib.holds_of_ownsRow h1 hv
    refine (Tryz.slices_Sort_int g 0 cap xs w hH hg (by omega)).mono ?_
    rintro e w' ⟨rfl, n, os, rfl⟩
    have h2 := Go.Lib.ownsRow_putRow (q := n) (k := xs.length) h1 (srt_len xs) (Nat.le_refl _)
    have e2 : (srt xs).take xs.length = srt xs := List.take_of_length_le (by rw [srt_len]; exact Nat.le_refl _)
    rw [e2] at h2
    have h3 : Own (Go.Sort.putRow (Value.int .i64) (Go.Sort.ahead w n) g 0 (srt xs).toArray) Z 3 1 encInt (.slice (some ⟨g, 0, none⟩) xs.length cap) (srt xs) := by
      rw [own_ints, srt_len]
      exact h2
    exact ⟨rfl, h3.below (below_growW _ os), grownBy_row⟩
theorem compact_mem {zs : List Int} {x : Int} : x ∈ Go.Lib.compact zs ↔ x ∈ zs := by
  unfold Go.Lib.compact Go.Lib.compactUpTo
  constructor
  · intro h
    obtain ⟨i, hi, rfl⟩ := List.mem_map.1 h
    have hi' := List.mem_range.1 (List.mem_filter.1 hi).1
    simp [hi']
  · intro h
    obtain ⟨i, hi, he⟩ := List.mem_iff_getElem.1 h
    have hex : ∃ j, j < zs.length ∧ zs[j]? = some x := ⟨i, hi, by rw [List.getElem?_eq_getElem hi, he]⟩
    clear h hi he i
    obtain ⟨j, hj, hjx⟩ := hex
    induction j using Nat.strongRecOn with
    | ind j ih =>
      by_cases hk : Go.Lib.keeps zs.toArray j = true
      · refine List.mem_map.2 ⟨j, List.mem_filter.2 ⟨List.mem_range.2 hj, hk⟩, ?_⟩
        rw [List.getElem?_eq_getElem hj] at hjx
        simpa [hj] using hjx
      · have h0 : 0 < j := by
          rcases Nat.eq_zero_or_pos j with e | e
          · subst e; simp [Go.Lib.keeps] at hk
          · exact e
        have he : zs.toArray[j]! = zs.toArray[j - 1]! := by
          by_cases e : zs.toArray[j]! = zs.toArray[j - 1]!
          · exact e
          · exact absurd (Go.Lib.keeps_pos e) hk
        have hj1 : j - 1 < zs.length := by omega
        refine ih (j - 1) (by omega) hj1 ?_
        rw [← hjx, List.getElem?_eq_getElem hj, List.getElem?_eq_getElem hj1]
        simpa [hj, hj1] using he.symm
theorem compact_strict {zs : List Int} (h : zs.Pairwise (· ≤ ·)) : (Go.Lib.compact zs).Pairwise (· < ·) := by
  unfold Go.Lib.compact Go.Lib.compactUpTo
  rw [List.pairwise_map]
  have hs := List.pairwise_iff_getElem.1 h
  have hp : (List.range zs.length).Pairwise (· < ·) := List.pairwise_lt_range
  have hm : ∀ i ∈ (List.range zs.length).filter (Go.Lib.keeps zs.toArray), i < zs.length ∧ Go.Lib.keeps zs.toArray i = true := fun i hi => ⟨List.mem_range.1 (List.mem_filter.1 hi).1, (List.mem_filter.1 hi).2⟩
  refine (List.Pairwise.and_mem.1 (hp.filter _)).imp ?_
  rintro i j ⟨hi, hj, hij⟩
  obtain ⟨hi1, _⟩ := hm i hi
  obtain ⟨hj1, hjk⟩ := hm j hj
  have h1 : zs.toArray[j]! ≠ zs.toArray[j - 1]! := fun e => by
    rw [Go.Lib.keeps_neg (by omega) e] at hjk
    cases hjk
  have hj2 : j - 1 < zs.length := by omega
  simp only [List.getElem!_toArray, getElem!_pos, hi1, hj1, hj2] at h1 ⊢
  have h2 : zs[j - 1] ≤ zs[j] := hs (j - 1) j hj2 hj1 (by omega)
  have h3 : zs[i] ≤ zs[j - 1] := by
    by_cases e : i = j - 1
    · subst e; omega
    · exact hs i (j - 1) hi1 hj2 (by omega)
  omega
def RetComp (Z : Nat) (v : Value) (ys : List Int) (w : World) (e : Ending) (w' : World) : Prop := ∃ v', e = .returned v' ∧ Own w' Z 3 1 encInt v' ys ∧ w.grownBy w' v.ownBlock ∧ v'.ownBlock = v.ownBlock
theorem compact_any (Z : Nat) (v : Value) (xs : List Int) (w : World) (h : Own w Z 3 1 encInt v xs) (hm : xs.length ≤ 1000000) :
    Calls Tryz.prog 45 #[v] w (RetComp Z v (Go.Lib.compact xs) w) := by
  by_cases hv : v = .slice none 0 0
  · subst hv
    have hx : xs = [] := by
      rcases h.2 with ⟨_, hn⟩ | ⟨g, cap, cur, e, _⟩
      · exact List.eq_nil_of_length_eq_zero hn
      · cases e
    subst hx
    refine (Tryz.slices_Compact_int_empty none 0 w).mono ?_
    rintro e w' ⟨rfl, rfl⟩
    exact ⟨_, rfl, h, grownBy_refl _ _, rfl⟩
  · have h1 := own_ints.1 h
    obtain ⟨g, cap, rfl, hz, hg, hc, hcm, _, hH⟩ := Go.Lib.holds_of_ownsRow h1 hv
    have hle := Go.Lib.compact_length_le xs
    refine (Tryz.slices_Compact_int g 0 cap xs w hH (by omega) hc).mono ?_
    rintro e w' ⟨rfl, n, rfl⟩
    have hyl : (Go.Lib.compact xs ++ List.replicate (xs.length - (Go.Lib.compact xs).length) (0 : Int)).length = xs.length := by simp; omega
    have h2 := Go.Lib.ownsRow_putRow (q := n) (k := (Go.Lib.compact xs).length) h1 hyl hle
    rw [List.take_left] at h2
    exact ⟨_, rfl, own_ints.2 h2, grownBy_row0, rfl⟩
theorem Flat.cells {w : World} {b off : Nat} {xs : List Int} (h : Flat w 1 encInt (some ⟨b, off, none⟩) xs) : ∀ j, j < xs.length → w.cell? ⟨b, off + j, none⟩ = some (.int .i64 (xs.getD j 0)) := fun j hj => by
  obtain ⟨b1, off1, e, h1⟩ := h.int hj
  simp only [Option.some.injEq, Addr.mk.injEq, and_true] at e
  obtain ⟨rfl, rfl⟩ := e
  rw [h1, List.getD_eq_getElem?_getD, List.getElem?_eq_getElem hj]
  rfl
theorem contains_any (v : Value) (xs : List Int) (x : Int) (w : World) (B : Nat) (h : Own w B 3 1 encInt v xs) (hm : xs.length ≤ 1000000) (r : Bool) (hr : xs.contains x = r) :
    Calls Tryz.prog 43 #[v, .int .i64 x] w fun e w' => e = .returned (.bool r) ∧ w = w' := by
  subst hr
  rcases h.2 with ⟨rfl, hn⟩ | ⟨g, cap, cur, rfl, _⟩
  · obtain rfl : xs = [] := List.eq_nil_of_length_eq_zero hn
    exact (Tryz.slices_Contains_int_empty none 0 x w).mono fun e w' ⟨h1, h2⟩ => ⟨h1, h2.symm⟩
  · obtain ⟨oa, c, e, _, hf⟩ := h.flat (fun _ => rfl)
    simp only [Value.slice.injEq] at e
    obtain ⟨rfl, -, rfl⟩ := e
    have hk := Tryz.slices_Contains_int g 0 xs.length cap xs x w (Nat.le_refl _) (by omega) hf.cells
    rw [List.take_length] at hk
    exact hk.mono fun e w' ⟨h1, h2⟩ => ⟨h1, h2.symm⟩
end Go.Proofs.YtcpjpmijfjdifaaGreatDoor
